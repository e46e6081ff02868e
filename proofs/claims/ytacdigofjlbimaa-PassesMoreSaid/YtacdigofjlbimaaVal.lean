/-
  The walks of the law's valid and best. Conditions: those that each theorem names.
-/
import Derived.Test.YtacdigofjlbimaaLawPlans
namespace Go.Proofs.Ytacdigofjlbimaa
open Go.RowKit Kit
set_option linter.unusedVariables false
theorem zs_in {P : List Nat} {n : Nat} (h : ∀ i ∈ P, i < n) : inP (zs P) n := by
  intro i hi
  rw [zs_len] at hi
  unfold pv zs
  rw [List.getD_eq_getElem?_getD, List.getElem?_map, List.getElem?_eq_getElem hi]
  have := h _ (List.getElem_mem hi)
  simp
  exact this
theorem best_chk {L : List Wn} {g b m : Int} (hE : ckE L g b m = 0) : chkE L g b m (zs (bestp (wl L) L.length g b m)) = 0 ∧ chkE L 0 0 0 (zs (bestp (wl L) L.length g b m)) = 0 ∧ feaV L g b m (zs (bestp (wl L) L.length g b m)) = true ∧ valV L (zs (bestp (wl L) L.length g b m)) = value (wl L) (bestp (wl L) L.length g b m) ∧ (bestp (wl L) L.length g b m).length ≤ 40 := by
  obtain ⟨h1, h2, h3⟩ := ckE_zero hE
  have hf := best_fea h2 h3
  have hl := fea_len _ hf
  have hlt := best_lt (W := wl L) (m := L.length) g b m
  have h3' := h3
  unfold vR at h3'
  have hlen : (bestp (wl L) L.length g b m).length ≤ 40 := by omega
  have hin := zs_in hlt
  have c0 : ckE L 0 0 0 = 0 := ckE_ok (by omega) h2 (by unfold vR; omega)
  have e1 : chkE L g b m (zs (bestp (wl L) L.length g b m)) = 0 := chkE_ok hE (by rw [zs_len]; omega) hin
  have e2 : chkE L 0 0 0 (zs (bestp (wl L) L.length g b m)) = 0 := chkE_ok c0 (by rw [zs_len]; omega) hin
  exact ⟨e1, e2, by rw [feaV_ok e1, pl_zs]; exact hf, by rw [valV_ok e2, pl_zs], hlen⟩
def okV (L : List Wn) (g b m : Int) : Bool := decide (L.length ≤ 16) && decide (ckE L g b m = 0)
set_option maxHeartbeats 800000 in
theorem valid_any {L : List Wn} {g b m : Int} {a : Option Addr} {n c : Nat} {w : World} (hW : WS w a n c L) :
    Calls Try.prog 21 #[.slice a n c, .agg #[.int .i64 g, .int .i64 b, .int .i64 m]] w fun e w' => e = .returned (.bool (okV L g b m)) ∧ Below w.heap.size w w' := by
  obtain ⟨R, hR⟩ : ∃ R, Hid (R = okV L g b m) := ⟨_, Lib.hid rfl⟩
  rw [← hR.out]
  have HW := Lib.hid hW
  have N := Lib.hid hW.1
  have B0 := Lib.hid (bl_alloc (Below.refl w.heap.size w) (.cells #[.int .i64 g, .int .i64 b, .int .i64 m] 24))
  have C := Lib.hid (check_any L g b m a n c _ (HW.out.below B0.out))
  clear hW
  by_cases h16 : n ≤ 16
  · have h : R = decide (ckE L g b m = 0) := by
      rw [hR.out]
      unfold okV
      rw [decide_eq_true (by rw [← N.out]; exact h16), Bool.true_and]
    generalize ckE L g b m = E at h C
    by_cases hE : E = 0
    · rw [decide_eq_true hE] at h
      subst h
      subst hE
      go_enter Try.func21, Try.ntmps21
      go_wp2_with (fail)
      refine C.out.mono ?_
      rintro e w1 ⟨rfl, b1⟩
      have B1 := Lib.hid (bl_go B0.out b1 (by simp))
      clear b1
      go_wp2_with (fail)
      go_ret
      exact ⟨rfl, B1.out⟩
    · rw [decide_eq_false hE] at h
      subst h
      have hb : (E == 0) = false := by simpa using hE
      clear hE
      go_enter Try.func21, Try.ntmps21
      go_wp2_with (fail)
      refine C.out.mono ?_
      rintro e w1 ⟨rfl, b1⟩
      have B1 := Lib.hid (bl_go B0.out b1 (by simp))
      clear b1
      go_wp2_with (fail)
      go_ret
      exact ⟨rfl, B1.out⟩
  · have h : R = false := by
      rw [hR.out]
      unfold okV
      rw [decide_eq_false (by rw [← N.out]; exact h16), Bool.false_and]
    subst h
    clear C
    go_enter Try.func21, Try.ntmps21
    go_wp2_with (fail)
    go_ret
    exact ⟨rfl, B0.out⟩
theorem okV_iff {L : List Wn} {g b m : Int} : okV L g b m = true ↔ L.length ≤ 16 ∧ ckE L g b m = 0 := by unfold okV; simp
set_option maxHeartbeats 1600000 in
theorem bestl_any {L : List Wn} {g b m : Int} {a : Option Addr} {n c : Nat} {w : World} (hW : WS w a n c L) (hV : okV L g b m = true) :
    Calls Try.prog 22 #[.slice a n c, .agg #[.int .i64 g, .int .i64 b, .int .i64 m]] w fun e w' => ∃ a' c', e = .returned (.tuple #[.slice a' (bestp (wl L) L.length g b m).length c', .int .i64 (value (wl L) (bestp (wl L) L.length g b m)), .bool true]) ∧ NS w' a' (bestp (wl L) L.length g b m).length c' (zs (bestp (wl L) L.length g b m)) ∧ Below w.heap.size w w' := by
  obtain ⟨h16, hE⟩ := okV_iff.1 hV
  obtain ⟨e1, e2, e3, e4, e5⟩ := best_chk hE
  have HW := Lib.hid hW
  have hn : n ≤ 16 := by rw [hW.1]; exact h16
  have B0 := Lib.hid (bl_alloc (Below.refl w.heap.size w) (.cells #[.int .i64 g, .int .i64 b, .int .i64 m] 24))
  have BA := Lib.hid (best_ok hE (HW.out.below B0.out))
  have FA := Lib.hid (fun W a' c' h (h' : NS W a' (bestp (wl L) L.length g b m).length c' (zs (bestp (wl L) L.length g b m))) => feasible_any (L := L) (g := g) (b := b) (m := m) (a := a) (n := n) (c := c) (w := W) h h')
  have VA := Lib.hid (fun W a' c' h (h' : NS W a' (bestp (wl L) L.length g b m).length c' (zs (bestp (wl L) L.length g b m))) => value_any (L := L) (a := a) (n := n) (c := c) (w := W) h h')
  rw [e1, e3] at FA
  rw [e2, e4] at VA
  generalize bestp (wl L) L.length g b m = p at BA FA VA e5 ⊢
  generalize value (wl L) p = V at VA ⊢
  clear hW hV h16 hE e1 e2 e3 e4
  go_enter Try.func22, Try.ntmps22
  go_wp2_with (fail)
  refine BA.out.mono ?_
  rintro e w1 ⟨a1, c1, rfl, n1, b1⟩
  have B1 := Lib.hid (bl_go B0.out b1 (by simp))
  have O1 := Lib.hid (below_keeps b1 (hp_new w (.cells #[.int .i64 g, .int .i64 b, .int .i64 m] 24)) (by simp))
  have N1 := Lib.hid n1
  have r0 : w1.cell? ⟨w.heap.size, 0, none⟩ = some (.int .i64 g) := cell_of O1.out rfl
  have r1 : w1.cell? ⟨w.heap.size, 1, none⟩ = some (.int .i64 b) := cell_of O1.out rfl
  have r2 : w1.cell? ⟨w.heap.size, 2, none⟩ = some (.int .i64 m) := cell_of O1.out rfl
  have rl := lt_of_obj O1.out
  clear b1 n1 BA B0
  go_wp2_with (fail)
  refine (FA.out _ _ _ (HW.out.below B1.out) N1.out).mono ?_
  rintro e w2 ⟨rfl, b2⟩
  have B2 := Lib.hid (bl_step B1.out b2)
  have N2 := Lib.hid (N1.out.below b2)
  clear b2 B1 N1 r0 r1 r2 rl O1 FA
  go_wp2_with (fail)
  refine (VA.out _ _ _ (HW.out.below B2.out) N2.out).mono ?_
  rintro e w3 ⟨rfl, b3⟩
  have B3 := Lib.hid (bl_step B2.out b3)
  have N3 := Lib.hid (N2.out.below b3)
  clear b3 B2 N2 VA
  go_wp2_with (fail)
  go_ret3
  exact ⟨_, _, rfl, N3.out, B3.out⟩
end Go.Proofs.Ytacdigofjlbimaa
