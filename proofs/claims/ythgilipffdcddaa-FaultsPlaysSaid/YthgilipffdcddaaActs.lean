/-
  How an argument that is a slice of acts is opened. Conditions: none.
-/
import Derived.Test.YthgilipffdcddaaArgs
namespace Go.Proofs.Ythgilipffdcddaa
open Go.ChangeShapes Go.WideShapes Go.ChangeAt Go.RowKit Kit
set_option linter.unusedVariables false
section
variable {H : Type} {enc : TypeId × Value → H} {w : World} {base : Nat} {held : Bool}
theorem open_act_cells {fuel : Nat} {cs : List Value} {x : DataW H × List MemPlace} (h : DataW.trod enc Try.prog w base (fun _ => true) held fuel 50 cs = some x) :
    ∃ (k n : Int) (o : Bool) (v : Value), cs = [.int .i64 k, .int .i64 n, .bool o, v] ∧ (Lit.int .i64 k).wf = true ∧ (Lit.int .i64 n).wf = true ∧ SlIn [.inl .i64] w v := by
  cases fuel with
  | zero => simp [DataW.trod] at h
  | succ m =>
    have c3 : Try.prog.cellsOf 3 = 1 := by kernel_rfl
    have c4 : Try.prog.cellsOf 4 = 1 := by kernel_rfl
    have c35 : Try.prog.cellsOf 35 = 1 := by kernel_rfl
    have c50 : Try.prog.cellsOf 50 = 4 := by kernel_rfl
    unfold DataW.trod at h
    rw [Try.underlying50] at h
    simp only [c50, Option.map_eq_some_iff, Option.ite_none_right_eq_some] at h
    obtain ⟨hlen, xs, hxs, _⟩ := h
    simp only [List.mapM_cons, Option.bind_eq_bind, Option.bind_eq_some_iff, c3, c4, c35] at hxs
    obtain ⟨x0, h0, _, ⟨x1, h1, _, ⟨x2, h2, _, ⟨x3, h3, _⟩, _⟩, _⟩, _⟩ := hxs
    match cs, hlen with
    | [a, b, c, d], _ =>
      simp only [List.drop_zero, List.drop_succ_cons, List.take_succ_cons, List.take_zero] at h0 h1 h2 h3
      have s0 := flat_ok 9 m 3 [.inl .i64] _ _ (by kernel_rfl) h0
      have s1 := flat_ok 9 m 3 [.inl .i64] _ _ (by kernel_rfl) h1
      have s2 := flat_ok 9 m 4 [.inr false] _ _ (by kernel_rfl) h2
      obtain ⟨v, e, hv⟩ := open_flat_cells (ks := [.inl .i64]) Try.underlying35 (by kernel_rfl) (by kernel_rfl) (by decide) h3
      obtain ⟨k, c0, e0, w0, s0⟩ := scAll_int s0
      obtain ⟨n, c1, e1, w1, s1⟩ := scAll_int s1
      obtain ⟨o, c2, e2, s2⟩ := scAll_bool s2
      simp only [List.cons.injEq, and_true] at e e0 e1 e2
      exact ⟨k, n, o, v, by rw [e, e0.1, e1.1, e2.1], w0, w1, hv⟩
/-- What a walk is told of a slice of acts. -/
def SlAct (w : World) (v : Value) : Prop :=
  (v = .slice none 0 0) ∨ (∃ a, v = .slice (some a) 0 0) ∨ ∃ (b off len cap : Nat) (K N : Nat → Int) (O : Nat → Bool) (R : Nat → Value), v = .slice (some ⟨b, off, none⟩) len cap ∧ 0 < cap ∧ len ≤ cap ∧ cap ≤ maxLen ∧ b < w.heap.size ∧
      ∀ i, i < cap → (Lit.int .i64 (K i)).wf = true ∧ (Lit.int .i64 (N i)).wf = true ∧ SlIn [.inl .i64] w (R i) ∧ w.cell? ⟨b, off + i * 4, none⟩ = some (.int .i64 (K i)) ∧ w.cell? ⟨b, off + i * 4 + 1, none⟩ = some (.int .i64 (N i)) ∧ w.cell? ⟨b, off + i * 4 + 2, none⟩ = some (.bool (O i)) ∧ w.cell? ⟨b, off + i * 4 + 3, none⟩ = some (R i)
theorem open_acts {v : Value} {d : DataW H} {ps : List MemPlace} {r : Reach} {b' : Nat}
    (hv : Value.okWide Try.prog w r b' 44 v) (h : DataW.Trod enc Try.prog w base (fun _ => true) held 44 v d ps) : SlAct w v := by
  unfold SlAct
  have c50 : Try.prog.cellsOf 50 = 4 := by kernel_rfl
  obtain ⟨a0, len, cap, rfl⟩ := okWide_slice Try.underlying44 hv
  obtain ⟨fuel, hf⟩ := h
  rcases Go.Deep.open_slice Try.underlying44 hf with ⟨h1, _⟩ | ⟨a, len', cap', m, n, D, Pl, h1, _, hl, hm, hmm, _, hel⟩
  · left; simp [Value.cells] at h1; obtain ⟨rfl, rfl, rfl⟩ := h1; rfl
  · right
    simp [Value.cells] at h1
    obtain ⟨rfl, rfl, rfl⟩ := h1
    simp at hmm
    subst hmm
    by_cases h0 : m = 0
    · left; subst h0; obtain rfl : len = 0 := by omega
      exact ⟨a, rfl⟩
    right
    have hex : ∀ i, ∃ q : Int × Int × Bool × Value, i < m → (Lit.int .i64 q.1).wf = true ∧ (Lit.int .i64 q.2.1).wf = true ∧ SlIn [.inl .i64] w q.2.2.2 ∧ w.cell? (a.add (i * 4)) = some (.int .i64 q.1) ∧ w.cell? (a.add (i * 4 + 1)) = some (.int .i64 q.2.1) ∧ w.cell? (a.add (i * 4 + 2)) = some (.bool q.2.2.1) ∧ w.cell? (a.add (i * 4 + 3)) = some q.2.2.2 := by
      intro i
      by_cases hi : i < m
      · obtain ⟨cs', h1, h2⟩ := hel i hi
        rw [c50] at h1
        obtain ⟨k, n, o, v', rfl, w0, w1, hs⟩ := open_act_cells h2
        obtain ⟨_, hlen, hget⟩ := World.cells?_some h1
        refine ⟨(k, n, o, v'), fun _ => ⟨w0, w1, hs, ?_, ?_, ?_, ?_⟩⟩
        · have := hget 0 (by omega); rw [Addr.add_add] at this; simpa using this
        · have := hget 1 (by omega); rw [Addr.add_add] at this; simpa using this
        · have := hget 2 (by omega); rw [Addr.add_add] at this; simpa using this
        · have := hget 3 (by omega); rw [Addr.add_add] at this; simpa using this
      · exact ⟨(0, 0, false, .bool false), fun h => (hi h).elim⟩
    have hC := fun i => Classical.choose_spec (hex i)
    obtain ⟨C, hC⟩ : ∃ C : Nat → Int × Int × Bool × Value, ∀ i, i < m → (Lit.int .i64 (C i).1).wf = true ∧ (Lit.int .i64 (C i).2.1).wf = true ∧ SlIn [.inl .i64] w (C i).2.2.2 ∧ w.cell? (a.add (i * 4)) = some (.int .i64 (C i).1) ∧ w.cell? (a.add (i * 4 + 1)) = some (.int .i64 (C i).2.1) ∧ w.cell? (a.add (i * 4 + 2)) = some (.bool (C i).2.2.1) ∧ w.cell? (a.add (i * 4 + 3)) = some (C i).2.2.2 :=
      ⟨fun i => Classical.choose (hex i), fun i hi => Classical.choose_spec (hex i) hi⟩
    obtain ⟨b, off, spot⟩ := a
    have hc0 := (hC 0 (by omega)).2.2.2.1
    have hspot : spot = none := by simpa [Addr.add] using World.cell?_spot hc0
    subst hspot
    have hb := World.block_lt_of_cell? w _ hc0
    refine ⟨b, off, len, m, fun i => (C i).1, fun i => (C i).2.1, fun i => (C i).2.2.1, fun i => (C i).2.2.2, rfl, by omega, hl, hm, by simpa [Addr.add] using hb, fun i hi => ?_⟩
    obtain ⟨g1, g2, g3, g4, g5, g6, g7⟩ := hC i hi
    rw [Go.WideShapes.add_plain] at g4 g5 g6 g7
    exact ⟨g1, g2, g3, g4, by rw [Nat.add_assoc]; exact g5, by rw [Nat.add_assoc]; exact g6, by rw [Nat.add_assoc]; exact g7⟩
end
/-- An act. -/
structure Ac where
  k : Int
  n : Int
  o : Bool
  p : List Int
/-- A slice of numbers that can be lent. -/
def PL (w : World) (v : Value) (P : List Int) : Prop :=
  PS w v P ∧ ∃ a c, v = .slice a P.length c ∧ P.length ≤ c ∧ c ≤ maxLen ∧ (a = none → P = [] ∧ c = 0) ∧ (P ≠ [] → ∃ b off, a = some ⟨b, off, none⟩ ∧ b < w.heap.size)
theorem slIn_pl {w : World} {v : Value} (h : SlIn [.inl .i64] w v) : ∃ P, PL w v P := by
  obtain ⟨P, h1, h2, h3, h4⟩ := slIn_ps h
  refine ⟨P, h1, ?_⟩
  obtain ⟨a', c', e'⟩ := h1.slice
  rcases h with rfl | ⟨a, rfl⟩ | ⟨b, off, len, cap, C, rfl, k1, k2, k3, k4, k5, k6⟩
  · simp only [Value.slice.injEq] at e'
    have := List.length_eq_zero_iff.1 e'.2.1.symm
    subst this
    exact ⟨none, 0, rfl, by simp, by simp [maxLen], fun _ => ⟨rfl, rfl⟩, fun h => (h rfl).elim⟩
  · simp only [Value.slice.injEq] at e'
    have := List.length_eq_zero_iff.1 e'.2.1.symm
    subst this
    exact ⟨some a, 0, rfl, by simp, by simp [maxLen], (fun h => by cases h), fun h => (h rfl).elim⟩
  · simp only [Value.slice.injEq] at e'
    exact ⟨_, cap, by rw [e'.2.1], by rw [← e'.2.1]; exact k2, k3, (fun h => by cases h), fun _ => ⟨b, off, rfl, k4⟩⟩
/-- A slice of acts, as a list. -/
def AS (w : World) (v : Value) (T : List Ac) : Prop :=
  (∃ b off c, v = .slice (some ⟨b, off, none⟩) T.length c ∧ b < w.heap.size ∧ ∀ i x, T[i]? = some x → (Lit.int .i64 x.n).wf = true ∧ ∃ pv, PL w pv x.p ∧ w.cell? ⟨b, off + i * 4, none⟩ = some (.int .i64 x.k) ∧ w.cell? ⟨b, off + i * 4 + 1, none⟩ = some (.int .i64 x.n) ∧ w.cell? ⟨b, off + i * 4 + 2, none⟩ = some (.bool x.o) ∧ w.cell? ⟨b, off + i * 4 + 3, none⟩ = some pv) ∨ (T = [] ∧ ∃ a c, v = .slice a 0 c)
theorem slAct_as {w : World} {v : Value} (h : SlAct w v) : ∃ T, AS w v T ∧ T.length ≤ maxLen := by
  rcases h with rfl | ⟨a, rfl⟩ | ⟨b, off, len, cap, K, N, O, R, rfl, h1, h2, h3, h4, h5⟩
  · exact ⟨[], .inr ⟨rfl, _, _, rfl⟩, by simp [maxLen]⟩
  · exact ⟨[], .inr ⟨rfl, _, _, rfl⟩, by simp [maxLen]⟩
  · have hx : ∀ i, i < len → ∃ P : List Int, PL w (R i) P := fun i hi => slIn_pl (h5 i (by omega)).2.2.1
    obtain ⟨F, hF⟩ := choose_to hx
    refine ⟨(List.range len).map (fun i => ⟨K i, N i, O i, F i⟩), .inl ⟨b, off, cap, by simp, h4, fun i P hP => ?_⟩, by simp; omega⟩
    have hlt : i < len := by
      rcases Nat.lt_or_ge i len with h | h
      · exact h
      · rw [List.getElem?_eq_none (by simp; omega)] at hP; cases hP
    simp [hlt] at hP
    subst hP
    obtain ⟨g1, g2, g3, g4, g5, g6, g7⟩ := h5 i (by omega)
    exact ⟨g2, R i, hF i hlt, g4, g5, g6, g7⟩
end Go.Proofs.Ythgilipffdcddaa
