/-
  The walks of the laws' lend, kept and SameBools. Conditions: those that each theorem names.
-/
import Derived.Test.YtbdobcmblbojfaaRefc
import Derived.Laws.OwnMore
import Derived.OwnWalk
namespace Go.Proofs.Ytbdobcmblbojfaa
open Go.RowKit Kit Go.Shelf
set_option linter.unusedVariables false
theorem info42 : (Try.prog.info? 42).map (fun i => (i.zero, i.size, i.bytes)) = some (some (.agg #[.int .i64 0, .int .i64 0, .bool false]), 3, 24) := by kernel_rfl
theorem cellsL_len (x : Ld) : (cellsL x).length = 3 := rfl
theorem flat_split (l : List Ld) (j : Nat) (u : Value) (h : (l.flatMap cellsL)[j]? = some u) : ∃ i r, i < l.length ∧ r < 3 ∧ j = i * 3 + r ∧ (cellsL (l.getD i (0, 0, false)))[r]? = some u := by
  have hj : j < l.length * 3 := by
    have := (List.getElem?_eq_some_iff.1 h).1
    rwa [flat_len cellsL_len] at this
  refine ⟨j / 3, j % 3, by omega, by omega, by omega, ?_⟩
  have hi : j / 3 < l.length := by omega
  rw [List.getD_eq_getElem?_getD, List.getElem?_eq_getElem hi, Option.getD_some, ← h]
  have := flat_get (c := cellsL) cellsL_len l (j / 3) (j % 3) l[j / 3] (List.getElem?_eq_getElem hi) (by omega)
  rw [← this, show j / 3 * 3 + j % 3 = j by omega]
theorem Lds.src {w : World} {a : Option Addr} {n c : Nat} {l : List Ld} (h : Lds w a n c l) : ∀ ad, a = some ad → ∀ j u, (l.flatMap cellsL)[j]? = some u → w.cell? (ad.add j) = some u := by
  intro ad ha j u hu
  obtain ⟨i, r, hi, hr, rfl, hc⟩ := flat_split l j u hu
  obtain ⟨b, off, he, hl, h0, h1, h2⟩ := h.2.2.2 i (by rw [h.1]; exact hi)
  rw [ha] at he
  simp only [Option.some.injEq] at he
  subst he
  rw [Addr.add_lit]
  match r, hr with
  | 0, _ => rw [Nat.add_zero, h0]; exact hc
  | 1, _ => rw [← Nat.add_assoc, h1]; exact hc
  | 2, _ => rw [← Nat.add_assoc, h2]; exact hc
/-- Loads that were lent: a row of their own with one load more. -/
def LentL (base : Nat) (W : World) (v : Value) (n : Nat) (l : List Ld) : Prop :=
  ∃ g cap, v = .slice (some ⟨g, 0, none⟩) n cap ∧ W.ownsRow base 42 3 (.slice (some ⟨g, 0, none⟩) (n + 1) cap) (n + 1) (l.flatMap cellsL ++ cellsL (0, -7, false))
theorem LentL.calm {base : Nat} {W W' : World} {v : Value} {n : Nat} {l : List Ld} (h : LentL base W v n l) (hb : Below W.heap.size W W') : LentL base W' v n l := by
  obtain ⟨g, cap, h2, h3⟩ := h
  exact ⟨g, cap, h2, own_calm h3 hb⟩
theorem LentL.lds {base : Nat} {W : World} {v : Value} {n : Nat} {l : List Ld} (h : LentL base W v n l) (hn : n = l.length) : ∃ g cap, v = .slice (some ⟨g, 0, none⟩) n cap ∧ Lds W (some ⟨g, 0, none⟩) n cap l ∧ n + 1 ≤ cap ∧ W.cell? ⟨g, n * 3 + 1, none⟩ = some (.int .i64 (-7)) := by
  obtain ⟨g, cap, h2, h3⟩ := h
  obtain ⟨cur, hg, k1, k2, k3, _, _⟩ := own_block h3
  have hlen : (l.flatMap cellsL).length = n * 3 := by rw [flat_len cellsL_len, hn]
  refine ⟨g, cap, h2, ⟨hn, by omega, k3, fun i hi => ⟨g, 0, rfl, lt_of_obj hg, ?_, ?_, ?_⟩⟩, k2, ?_⟩
  · refine own_cell h3 ?_
    rw [List.getElem?_append_left (by rw [hlen]; omega), Nat.zero_add]
    have := flat_get (c := cellsL) cellsL_len l i 0 (l.getD i (0, 0, false)) (by rw [List.getD_eq_getElem?_getD, List.getElem?_eq_getElem (by omega)]; rfl) (by omega)
    rw [Nat.add_zero] at this
    rw [this]; rfl
  · refine own_cell h3 ?_
    rw [List.getElem?_append_left (by rw [hlen]; omega), Nat.zero_add]
    have := flat_get (c := cellsL) cellsL_len l i 1 (l.getD i (0, 0, false)) (by rw [List.getD_eq_getElem?_getD, List.getElem?_eq_getElem (by omega)]; rfl) (by omega)
    rw [this]; rfl
  · refine own_cell h3 ?_
    rw [List.getElem?_append_left (by rw [hlen]; omega), Nat.zero_add]
    have := flat_get (c := cellsL) cellsL_len l i 2 (l.getD i (0, 0, false)) (by rw [List.getD_eq_getElem?_getD, List.getElem?_eq_getElem (by omega)]; rfl) (by omega)
    rw [this]; rfl
  · refine own_cell h3 ?_
    rw [List.getElem?_append_right (by rw [hlen]; omega), hlen, show n * 3 + 1 - n * 3 = 1 by omega]
    rfl
theorem flat_one (l : List Ld) : ∀ u ∈ l.flatMap cellsL, u.oneCell' = true := by
  intro u hu
  obtain ⟨x, _, hx⟩ := List.mem_flatMap.1 hu
  simp only [cellsL, List.mem_cons, List.not_mem_nil, or_false] at hx
  rcases hx with rfl | rfl | rfl <;> rfl
set_option maxRecDepth 100000 in
theorem lend_any (l : List Ld) (a : Option Addr) (n c : Nat) (w : World) (hL : Lds w a n c l) (hn : n ≤ 1000) (hz : a = none → n = 0 ∧ c = 0) :
    Calls Try.prog 10 #[.slice a n c] w fun e w' => ∃ v, e = .returned v ∧ LentL w.heap.size w' v n l ∧ Below w.heap.size w w' := by
  obtain ⟨i0, hi, hz0, hz1, hz2⟩ := info_parts info42
  have N1 := Lib.hid hL.1
  have HL := Lib.hid hL
  have HZ := Lib.hid hz
  have hcap := hL.2.1
  have hcap2 := hL.2.2.1
  unfold maxLen at hcap2
  clear hL hz
  go_enter Try.func10, Try.ntmps10
  go_wp2_with (first
    | (at_make; refine wpList_make_own _ rfl _ _ 24 rfl w.heap.size 42 i0 (.agg #[.int .i64 0, .int .i64 0, .bool false]) 3 Try.underlying24 hi hz0 hz1 _ _ _ (n + 1) rfl rfl (by simp) (by rw [hz2]; omega) (by unfold maxLen; omega) (Nat.le_refl _) ?_; intro w1 hown1 hg1; have HX1 := Lib.hid (HL.out.below ((Below.refl _ _).grown hg1 (Nat.le_refl _) (fun k e => by cases e))); replace hg1 := Lib.hid hg1; replace hown1 := Lib.hid hown1)
    | (at_builtin; refine wpList_append_fits_any _ rfl _ _ 24 rfl w.heap.size 42 i0 3 Try.underlying24 hi hz1 w.heap.size 0 (n + 1) [] rfl hown1.out a n c (l.flatMap cellsL) rfl (by rw [flat_len cellsL_len, N1.out]) HZ.out HX1.out.src (flat_one l) (by omega) ?_; intro w2 hown2 hg2; replace hg2 := Lib.hid hg2; rw [Nat.zero_add] at hown2 ⊢; rw [List.nil_append] at hown2; replace hown2 := Lib.hid hown2)
    | (at_builtin; refine wpList_append_fits _ rfl _ _ 24 rfl w.heap.size 42 i0 3 Try.underlying24 hi hz1 w.heap.size n (n + 1) _ rfl (hown2.out.alloc _) ⟨w2.heap.size, 0, none⟩ 1 1 (cellsL (0, -7, false)) rfl rfl (cells_new w2 (cellsL (0, -7, false)) 42) (by simp [cellsL, Value.oneCell']) (Nat.le_refl _) ?_; intro w3 hown3 hg3; replace hg3 := Lib.hid hg3; replace hown3 := Lib.hid hown3))
  go_ret
  have q1 : Below w.heap.size w w1 := (Below.refl _ _).grown hg1.out (Nat.le_refl _) (fun k e => by cases e)
  have q2 : Below w.heap.size w w2 := q1.grown hg2.out q1.size (fun k e => by cases e; exact Nat.le_refl _)
  have q3 : Below w.heap.size w w3 := (bl_alloc q2 _).grown hg3.out (bl_alloc q2 _).size (fun k e => by cases e; exact Nat.le_refl _)
  exact ⟨_, rfl, ⟨w.heap.size, n + 1, rfl, hown3.out⟩, q3⟩
end Go.Proofs.Ytbdobcmblbojfaa
