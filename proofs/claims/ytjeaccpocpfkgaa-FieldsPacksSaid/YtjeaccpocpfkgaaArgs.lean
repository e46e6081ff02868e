/-
  The arguments of the laws on packing, and the results of Unpack case by case. Conditions: those that each theorem names.
-/
import Derived.Test.YtjeaccpocpfkgaaRnd
import Derived.Test.YtjeaccpocpfkgaaAwk
namespace Go.Proofs.Ytjeaccpocpfkgaa
open Go.RowKit Kit
theorem slIn_nums {k : IntKind} {w : World} {v : Value} (h : SlIn [.inl k] w v) : ∃ a n c X, v = .slice a n c ∧ Nums k w a n c X ∧ (∀ x ∈ X, (Lit.int k x).wf = true) ∧ (a = none → n = 0 ∧ c = 0) := by
  obtain ⟨Y, h1, h2, h3⟩ := slIn_l h
  have hx : ∀ y ∈ Y, ∃ x, y = [.int k x] ∧ (Lit.int k x).wf = true := fun y hy => by
    obtain ⟨n, cs, rfl, h4, h5⟩ := scAll_int (h3 y hy)
    rw [scAll_nil h5]; exact ⟨n, rfl, h4⟩
  have key : ∀ Y : List (List Value), (∀ y ∈ Y, ∃ x, y = [Value.int k x] ∧ (Lit.int k x).wf = true) → ∃ X : List Int, Y = X.map (fun x => [Value.int k x]) ∧ ∀ x ∈ X, (Lit.int k x).wf = true := by
    intro Y
    induction Y with
    | nil => exact fun _ => ⟨[], rfl, by simp⟩
    | cons y Y ih =>
      intro hy
      obtain ⟨x, rfl, hw⟩ := hy y (by simp)
      obtain ⟨X, rfl, hX⟩ := ih (fun z hz => hy z (by simp [hz]))
      exact ⟨x :: X, rfl, by simp only [List.mem_cons, forall_eq_or_imp]; exact ⟨hw, hX⟩⟩
  obtain ⟨X, rfl, hX⟩ := key Y hx
  rcases h1 with ⟨b, off, c, rfl, k1, k2, k3, k4⟩ | ⟨he, a, rfl⟩
  · refine ⟨some ⟨b, off, none⟩, X.length, c, X, by simp, ⟨rfl, by simpa using k1, k2, fun i x hi => ⟨b, off, rfl, k3, ?_⟩⟩, hX, fun e => by cases e⟩
    have := k4 i [.int k x] (by rw [List.getElem?_map, hi]; rfl) 0 (by simp)
    simpa using this
  · have : X = [] := by simpa using he
    subst this
    exact ⟨a, 0, 0, [], rfl, ⟨rfl, by simp, by simp, by simp⟩, by simp, fun _ => ⟨rfl, rfl⟩⟩
theorem own_nums {k : IntKind} {w : World} {base : Nat} {e : TypeId} {v : Value} {n : Nat} {X : List Int} (h : w.ownsRow base e 1 v n (X.map (Value.int k))) : ∃ a c, v = .slice a n c ∧ Nums k w a n c X := by
  have hl : n = X.length := by have := h.1; simpa using this.symm
  rcases h.2 with ⟨h1, h2⟩ | ⟨g, cap, cur, h1, hb, hg, h3, h4, h5, h6⟩
  · have hn : n = 0 := by first | exact h2 | omega
    subst hn
    have : X = [] := List.length_eq_zero_iff.1 hl.symm
    subst this
    exact ⟨none, 0, h1, ⟨rfl, Nat.le_refl _, by simp [maxLen], by simp⟩⟩
  · subst h1
    refine ⟨_, _, rfl, hl, by omega, by omega, fun i x hx => ⟨g, 0, rfl, (Array.getElem?_eq_some_iff.1 hg).1, ?_⟩⟩
    rw [Nat.zero_add]
    exact own_cell h (by rw [List.getElem?_map, hx]; rfl)
theorem up_cases {X : List Int} {d : ByteArray} {w w' : World} {e : Ending} (h : UpPost X d w e w') (h0 : upE X d = 0) : ∃ a c, e = .returned (.tuple #[.slice a X.length c, .int .i64 0]) ∧ Nums .u64 w' a X.length c (unK X d X.length) ∧ Below w.heap.size w w' := by
  obtain ⟨v, rfl, ho⟩ := h.2.1 h0
  obtain ⟨a, c, rfl, hN⟩ := own_nums (k := .u64) ho
  exact ⟨a, c, rfl, hN, h.2.2⟩
theorem packR_form (X V : List Int) : ∃ S E, packR X V = .tuple #[.string S, .int .i64 E] ∧ (E = 0 → X.length = V.length ∧ okW X ∧ offs (wid X) X.length ≤ 524288 ∧ fitsA X V ∧ S = packB X V) := by
  unfold packR
  split
  · exact ⟨_, _, rfl, fun h => by omega⟩
  · split
    · exact ⟨_, _, rfl, fun h => by omega⟩
    · split
      · rename_i h1 h2 h3
        have h4 := not_or.1 h1
        exact ⟨_, _, rfl, fun _ => ⟨Decidable.not_not.1 h4.2, Decidable.not_not.1 h4.1, by omega, h3, rfl⟩⟩
      · exact ⟨_, _, rfl, fun h => by omega⟩
theorem wf_u64s {V : List Int} (h : ∀ x ∈ V, (Lit.int .u64 x).wf = true) : ∀ x ∈ V, 0 ≤ x ∧ x < 18446744073709551616 := fun x hx => by have := wfu64 (h x hx); omega
end Go.Proofs.Ytjeaccpocpfkgaa
