/-
  The walk of the reference's Best. Conditions: those that each theorem names.
-/
import Derived.Test.YtacdigofjlbimaaRbst
namespace Go.Proofs.Ytacdigofjlbimaa
open Go.RowKit Kit
set_option linter.unusedVariables false
theorem nil_pl (w : World) : PL w (.slice none 0 0) [] := ⟨none, 0, 0, rfl, ⟨rfl, Nat.le_refl _, by simp [maxLen], fun i hi => by omega⟩, fun _ => ⟨rfl, rfl⟩⟩
set_option maxHeartbeats 800000 in
theorem best12ok {L : List Wn} {g b m : Int} {a : Option Addr} {n c : Nat} {w : World} (hE : ckE L g b m = 0) (hW : WS w a n c L) :
    Calls Try.prog 12 #[.slice a n c, .agg #[.int .i64 g, .int .i64 b, .int .i64 m]] w fun e w' => ∃ v', e = .returned (.tuple #[v', .int .i64 0]) ∧ PL w' v' (bestp (wl L) L.length g b m) ∧ Below w.heap.size w w' := by
  obtain ⟨h40, hv, hr⟩ := ckE_zero hE
  have hn := hW.1
  have HW := Lib.hid hW
  have RA := Lib.hid (fun W h => rcheck_any L g b m a n c W h)
  rw [hE] at RA
  have B := best29 L g b m a n c (hn ▸ hv) hr (by omega) m.toNat
  have e := rbest_fea (W := wl L) (m := n) (gap := g) (hn ▸ hv) hr
  have BA : Hid (∀ W, WS W a n c L → Calls Try.prog 29 #[.slice a n c, .agg #[.int .i64 g, .int .i64 b, .int .i64 m], .slice none 0 0] W fun e w' => ∃ v', e = .returned v' ∧ PL w' v' (bestp (wl L) L.length g b m) ∧ Below W.heap.size W w') := Lib.hid (fun W h => by
    have := B [] (.slice none 0 0) W h (nil_pl W) (by simp) (by simp) (by simp)
    rw [e, hn] at this
    rw [hn]
    exact this)
  generalize bestp (wl L) L.length g b m = P at BA ⊢
  have B0 := Lib.hid (bl_alloc (Below.refl w.heap.size w) (.cells #[.int .i64 g, .int .i64 b, .int .i64 m] 24))
  have C0 := Lib.hid (RA.out _ (HW.out.below B0.out))
  clear hE hW h40 hv hr hn B e RA
  go_enter Try.func12, Try.ntmps12
  go_wp2_with (fail)
  refine C0.out.mono ?_
  rintro e w1 ⟨rfl, b1⟩
  have B1 := Lib.hid (bl_go B0.out b1 (by simp))
  have O1 := Lib.hid (below_keeps b1 (hp_new w (.cells #[.int .i64 g, .int .i64 b, .int .i64 m] 24)) (by simp))
  have r0 : w1.cell? ⟨w.heap.size, 0, none⟩ = some (.int .i64 g) := cell_of O1.out rfl
  have r1 : w1.cell? ⟨w.heap.size, 1, none⟩ = some (.int .i64 b) := cell_of O1.out rfl
  have r2 : w1.cell? ⟨w.heap.size, 2, none⟩ = some (.int .i64 m) := cell_of O1.out rfl
  have rl := lt_of_obj O1.out
  clear b1 C0 B0
  go_wp2_with (fail)
  refine (BA.out _ (HW.out.below B1.out)).mono ?_
  rintro e w2 ⟨v2, rfl, p2, b2⟩
  have B2 := Lib.hid (bl_step B1.out b2)
  have P2 := Lib.hid p2
  clear b2 p2
  go_wp2_with (fail)
  go_ret2
  exact ⟨_, rfl, P2.out, B2.out⟩
set_option maxHeartbeats 800000 in
theorem best12err {L : List Wn} {g b m : Int} {a : Option Addr} {n c : Nat} {w : World} (hE : ckE L g b m ≠ 0) (hW : WS w a n c L) :
    Calls Try.prog 12 #[.slice a n c, .agg #[.int .i64 g, .int .i64 b, .int .i64 m]] w fun e w' => e = .returned (.tuple #[.slice none 0 0, .int .i64 (ckE L g b m)]) ∧ Below w.heap.size w w' := by
  have B0 := Lib.hid (bl_alloc (Below.refl w.heap.size w) (.cells #[.int .i64 g, .int .i64 b, .int .i64 m] 24))
  have C := Lib.hid (rcheck_any L g b m a n c _ (hW.below B0.out))
  generalize ckE L g b m = E at hE C
  have hb : (E != 0) = true := by simpa using hE
  clear hW hE
  go_enter Try.func12, Try.ntmps12
  go_wp2_with (fail)
  refine C.out.mono ?_
  rintro e w1 ⟨rfl, b1⟩
  have B1 := Lib.hid (bl_go B0.out b1 (by simp))
  clear b1
  go_wp2_with (fail)
  go_ret2
  exact ⟨rfl, B1.out⟩
end Go.Proofs.Ytacdigofjlbimaa
