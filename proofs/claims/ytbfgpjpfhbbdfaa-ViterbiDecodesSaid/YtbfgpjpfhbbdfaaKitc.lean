/-
  Plain lemmas of this seat on rows of structs: how a row's cells are read and set, and how a list of structs lies in it. Conditions: none.
-/
import Derived.Test.YtbfgpjpfhbbdfaaKitb
import Derived.Laws.AppendOwn
import Derived.Laws.OwnMore
import Derived.Maps.AppendAt
import Derived.OwnWalk
import Derived.RangeFuncBox
import Derived.IntWalk
import Derived.BigQuiet
import Derived.Deep.QuietTactic
namespace Go.Proofs.Ytbfgpjpfhbbdfaa.Kit
open Go.RowKit
set_option linter.unusedVariables false
def mn (x y : Int) : Int := min x y
def mx (x y : Int) : Int := max x y
theorem run_max_mx (P : Program) (w : World) (ts : Array TypeId) (t : TypeId) (k k' : IntKind) (x y : Int) : (Builtin.max_ ts t #[.int k x, .int k' y]).run P w = .ok (.int k (mx x y)) w := by
  simp [Builtin.max_, Builtin.max2, mx]; omega
theorem run_min_mn (P : Program) (w : World) (ts : Array TypeId) (t : TypeId) (k k' : IntKind) (x y : Int) : (Builtin.min_ ts t #[.int k x, .int k' y]).run P w = .ok (.int k (mn x y)) w := by
  simp [Builtin.min_, Builtin.min2, mn]; omega
theorem wf64 {a : Int} (h : (Lit.int .i64 a).wf = true) : -9223372036854775808 ≤ a ∧ a ≤ 9223372036854775807 := by
  simpa [Lit.wf, IntKind.min, IntKind.max, IntKind.signed, IntKind.bits] using h
theorem wf8 {a : Int} (h : (Lit.int .u8 a).wf = true) : 0 ≤ a ∧ a ≤ 255 := by
  simpa [Lit.wf, IntKind.min, IntKind.max, IntKind.signed, IntKind.bits] using h
theorem wfu64 {a : Int} (h : (Lit.int .u64 a).wf = true) : 0 ≤ a ∧ a ≤ 18446744073709551615 := by
  simpa [Lit.wf, IntKind.min, IntKind.max, IntKind.signed, IntKind.bits] using h
theorem toList_ne {a b : ByteArray} (h : ¬ a = b) : (a.toList == b.toList) = false := by
  rw [beq_eq_false_iff_ne, ByteArray.toList_eq, ByteArray.toList_eq]
  exact fun e => h (Go.WideShapes.bytes_inj e)

/-! ### Lists of structs as cells -/
section
variable {α : Type} {c : α → List Value} {m : Nat}
theorem flat_len (hc : ∀ a, (c a).length = m) (L : List α) : (L.flatMap c).length = L.length * m := by
  induction L with
  | nil => simp
  | cons a L ih => simp [List.flatMap_cons, ih, hc, Nat.add_mul, Nat.add_comm]
theorem flat_get (hc : ∀ a, (c a).length = m) : ∀ (L : List α) (i k : Nat) (a : α), L[i]? = some a → k < m → (L.flatMap c)[i * m + k]? = (c a)[k]?
  | [], i, k, a, h, _ => by simp at h
  | b :: L, 0, k, a, h, hk => by
    simp at h; subst h
    rw [List.flatMap_cons, Nat.zero_mul, Nat.zero_add, List.getElem?_append_left (by rw [hc]; exact hk)]
  | b :: L, i + 1, k, a, h, hk => by
    rw [List.flatMap_cons, List.getElem?_append_right (by rw [hc, Nat.add_mul]; omega), hc, show (i + 1) * m + k - m = i * m + k by rw [Nat.add_mul]; omega]
    exact flat_get hc L i k a (by simpa using h) hk
theorem flat_set (hc : ∀ a, (c a).length = m) : ∀ (L : List α) (i k : Nat) (a a' : α) (u : Value), L[i]? = some a → k < m → (c a).set k u = c a' → (L.flatMap c).set (i * m + k) u = (L.set i a').flatMap c
  | [], i, k, a, a', u, h, _, _ => by simp at h
  | b :: L, 0, k, a, a', u, h, hk, e => by
    simp at h; subst h
    rw [List.flatMap_cons, Nat.zero_mul, Nat.zero_add, List.set_append_left _ _ (by rw [hc]; exact hk), e]
    simp
  | b :: L, i + 1, k, a, a', u, h, hk, e => by
    rw [List.flatMap_cons, List.set_append_right _ _ (by rw [hc, Nat.add_mul]; omega), hc, show (i + 1) * m + k - m = i * m + k by rw [Nat.add_mul]; omega,
      flat_set hc L i k a a' u (by simpa using h) hk e]
    simp
end

/-! ### Rows that are owned -/
section
variable {w w' : World} {base : Nat} {e : TypeId} {size : Nat} {v : Value} {n : Nat} {xs : List Value}
theorem own_block {g cap : Nat} (h : w.ownsRow base e size (.slice (some ⟨g, 0, none⟩) n cap) n xs) : ∃ cur, w.heap[g]? = some (.cells cur e (0, 0)) ∧ base ≤ g ∧ n ≤ cap ∧ cap ≤ maxLen ∧ cur.size = cap * size ∧ cur.toList.take (n * size) = xs := by
  rcases h.2 with ⟨h', _⟩ | ⟨g', cap', cur, h', h1, hg, h2, h3, hs, ht⟩
  · simp at h'
  · simp only [Value.slice.injEq, Option.some.injEq, Addr.mk.injEq, and_true, true_and] at h'
    obtain ⟨rfl, rfl⟩ := h'
    exact ⟨cur, hg, h1, h2, h3, hs, ht⟩
theorem own_free {g cap : Nat} (h : w.ownsRow base e size (.slice (some ⟨g, 0, none⟩) n cap) n xs) (j : Nat) : w.frozen? ⟨g, j, none⟩ = false := by
  obtain ⟨cur, hg, _⟩ := own_block h
  exact free_of hg
theorem own_lt {g cap : Nat} (h : w.ownsRow base e size (.slice (some ⟨g, 0, none⟩) n cap) n xs) : base ≤ g ∧ g < w.heap.size := by
  obtain ⟨cur, hg, h1, _⟩ := own_block h
  exact ⟨h1, lt_of_obj hg⟩
theorem own_cell {g cap : Nat} (h : w.ownsRow base e size (.slice (some ⟨g, 0, none⟩) n cap) n xs) {j : Nat} {u : Value} (hu : xs[j]? = some u) : w.cell? ⟨g, j, none⟩ = some u := by
  have hj : j < n * size := by
    have := h.1
    rcases Nat.lt_or_ge j xs.length with h' | h'
    · omega
    · rw [List.getElem?_eq_none h'] at hu; cases hu
  rw [h.cellAt j hj, hu]
theorem own_set {g cap : Nat} (h : w.ownsRow base e size (.slice (some ⟨g, 0, none⟩) n cap) n xs) {j : Nat} (hj : j < n * size) (u : Value) :
    (w.setCell ⟨g, j, none⟩ u).ownsRow base e size (.slice (some ⟨g, 0, none⟩) n cap) n (xs.set j u) := by
  obtain ⟨cur, hg, h1, h2, h3, hs, ht⟩ := own_block h
  refine ⟨by rw [List.length_set, h.1], .inr ⟨g, cap, cur.setIfInBounds j u, rfl, h1, hp_set hg u, h2, h3, by rw [Array.size_setIfInBounds, hs], ?_⟩⟩
  rw [Array.toList_setIfInBounds, ← ht]
  apply List.ext_getElem?
  intro i
  simp only [List.getElem?_take, List.getElem?_set, List.length_take]
  by_cases h1 : i < n * size
  · by_cases h2 : j = i
    · have e0 : (i < min (n * size) cur.size) = (i < cur.size) := propext (by omega)
      simp only [h1, h2, if_true, Array.length_toList, e0]
    · simp [h1, h2]
  · have h2 : j ≠ i := by omega
    simp [h1, h2]
theorem own_mod {S : Nat → Prop} (h : w.ownsRow base e size v n xs) (hm : Mod S w w') (hs : ∀ k, v.ownBlock = some k → ¬ S k) : w'.ownsRow base e size v n xs := by
  refine ⟨h.1, ?_⟩
  rcases h.2 with hn | ⟨g, cap, cur, rfl, hb, hg, rest⟩
  · exact .inl hn
  · exact .inr ⟨g, cap, cur, rfl, hb, hm.keeps hg (hs g rfl), rest⟩
theorem own_below {B : Nat} (h : w.ownsRow base e size v n xs) (hm : Below B w w') (hs : ∀ k, v.ownBlock = some k → k < B) : w'.ownsRow base e size v n xs := by
  refine ⟨h.1, ?_⟩
  rcases h.2 with hn | ⟨g, cap, cur, rfl, hb, hg, rest⟩
  · exact .inl hn
  · exact .inr ⟨g, cap, cur, rfl, hb, by rw [hm.block g (hs g rfl)]; exact hg, rest⟩
theorem own_calm (h : w.ownsRow base e size v n xs) (hm : Below w.heap.size w w') : w'.ownsRow base e size v n xs := own_below h hm (fun k hk => (h.lt k hk).2)
theorem own_drewN (h : w.ownsRow base e size v n xs) (q : Nat) : (w.drewN q).ownsRow base e size v n xs := own_calm h (below_drewN (Below.refl _ _) q)
theorem own_rebase {base' : Nat} (h : w.ownsRow base e size v n xs) (hb : base' ≤ base) : w.ownsRow base' e size v n xs := by
  refine ⟨h.1, ?_⟩
  rcases h.2 with hn | ⟨g, cap, cur, rfl, h1, rest⟩
  · exact .inl hn
  · exact .inr ⟨g, cap, cur, rfl, by omega, rest⟩
theorem own_ne_obj {k : Nat} {cs : Array Value} {t : TypeId} {fr : Nat × Nat} (h : w.ownsRow base e size v n xs) (hk : w.heap[k]? = some (.cells cs t fr)) (ht : t ≠ e) : v.ownBlock ≠ some k := by
  rcases h.2 with ⟨rfl, _⟩ | ⟨g, cap, cur, rfl, _, hg, _⟩
  · simp [Value.ownBlock]
  · intro e0
    obtain rfl : g = k := by simpa [Value.ownBlock] using e0
    have := hk.symm.trans hg
    simp at this
    exact ht this.2.1
theorem own_apart {base' e' size' n' : Nat} {v' : Value} {xs' : List Value} (h : w.ownsRow base e size v n xs) (h' : w.ownsRow base' e' size' v' n' xs') (hne : e ≠ e') : v.ownBlock = none ∨ v.ownBlock ≠ v'.ownBlock := by
  rcases h'.2 with ⟨rfl, _⟩ | ⟨g, cap, cur, rfl, _, hg, _⟩
  · rcases h.2 with ⟨rfl, _⟩ | ⟨g, cap, cur, rfl, _, hg, _⟩
    · left; rfl
    · right; simp [Value.ownBlock]
  · right; exact own_ne_obj h hg (Ne.symm hne)
theorem own_nil_len (h : w.ownsRow base e size (.slice none 0 0) n xs) : n = 0 := by
  rcases h.2 with ⟨_, h⟩ | ⟨g, cap, cur, h', _⟩
  · exact h
  · simp at h'
end
theorem cells_new (w : World) (l : List Value) (t : TypeId) : ∀ j u, l[j]? = some u → (w.alloc (.cells l.toArray t)).cell? ((⟨w.heap.size, 0, none⟩ : Addr).add j) = some u := by
  intro j u h
  have hp : (⟨w.heap.size, 0, none⟩ : Addr).add j = ⟨w.heap.size, 0 + j, none⟩ := by unfold Addr.add; split <;> simp_all
  rw [hp]
  exact cell_of (hp_new w _) (by simpa using h)
theorem mod_of_grown {v : Value} {w w' : World} (h : w.grownBy w' v.ownBlock) : Mod (fun k => v.ownBlock = some k) w w' :=
  ⟨h.os, h.tape, h.output, h.size, fun k hk hs => h.block k hk (fun e => hs e.symm)⟩
end Go.Proofs.Ytbfgpjpfhbbdfaa.Kit
