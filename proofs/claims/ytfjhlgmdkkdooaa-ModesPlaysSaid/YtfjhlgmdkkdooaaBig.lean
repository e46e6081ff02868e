/-
  The walks of the reference's functions on numbers of 17 digits. Conditions: those that each theorem names.
-/
import Derived.Test.YtfjhlgmdkkdooaaBase
import Derived.Test.YtfjhlgmdkkdooaaNum
import Derived.Laws.Rows
namespace Go.Proofs.Ytfjhlgmdkkdooaa
open Go.RowKit Kit
set_option linter.unusedVariables false
def big (L : List Nat) : Array Value := (L.map fun n : Nat => Value.int .u64 (n : Int)).toArray
theorem big_size {L : List Nat} (h : okB L) : (big L).size = 17 := by simp [big, h.len]
theorem big_get {L : List Nat} (h : okB L) {i : Nat} (hi : i < 17) : (big L)[i]? = some (.int .u64 (L.getD i 0 : Nat)) := by
  have : i < L.length := by rw [h.len]; exact hi
  simp [big, this]
theorem big_set (L : List Nat) (i x : Nat) : (big L).setIfInBounds i (.int .u64 (x : Int)) = big (L.set i x) := by
  simp [big]
/-- A block that holds a number. -/
def BB (w : World) (B : Nat) (L : List Nat) : Prop := w.heap[B]? = some (.cells (big L) 63)
theorem BB.cell {w : World} {B : Nat} {L : List Nat} (h : BB w B L) (hL : okB L) {i : Nat} (hi : i < 17) : w.cell? ⟨B, i, none⟩ = some (.int .u64 (L.getD i 0 : Nat)) := cell_of h (big_get hL hi)
theorem BB.free {w : World} {B : Nat} {L : List Nat} (h : BB w B L) (i : Nat) : w.frozen? ⟨B, i, none⟩ = false := free_of h
theorem BB.new (w : World) (L : List Nat) : BB (w.alloc (.cells (big L) 63)) w.heap.size L := hp_new w _
theorem BB.old {w : World} {B : Nat} {L : List Nat} (h : BB w B L) (o : Obj) : BB (w.alloc o) B L := hp_old h o
theorem BB.lt {w : World} {B : Nat} {L : List Nat} (h : BB w B L) : B < w.heap.size := lt_of_obj h
theorem BB.below {w w' : World} {B : Nat} {L : List Nat} (h : BB w B L) (hb : Below w.heap.size w w') : BB w' B L := below_keeps hb h h.lt
theorem BB.set {w : World} {B : Nat} {L : List Nat} (h : BB w B L) (i x : Nat) : BB (w.setCell ⟨B, i, none⟩ (.int .u64 (x : Int))) B (L.set i x) := by
  unfold BB; rw [← big_set]; exact hp_set h _
theorem BB.apart {w : World} {B C : Nat} {L : List Nat} (h : BB w B L) (hne : B ≠ C) (i : Nat) (v : Value) : BB (w.setCell ⟨C, i, none⟩ v) B L := hp_set_ne h hne v
theorem BB.drewN {w : World} {B : Nat} {L : List Nat} (h : BB w B L) (n : Nat) : BB (w.drewN n) B L := h
def zeros : List Nat := List.replicate 17 0
theorem zeros_ok : okB zeros := ⟨by simp [zeros], fun i => by unfold zeros; rw [List.getD_eq_getElem?_getD, List.getElem?_replicate]; split <;> simp⟩
theorem zeros_get (i : Nat) : zeros.getD i 0 = 0 := by unfold zeros; rw [List.getD_eq_getElem?_getD, List.getElem?_replicate]; split <;> simp
theorem pv_zeros : ∀ k, pv zeros k = 0
  | 0 => rfl
  | k + 1 => by rw [pv, pv_zeros k, zeros_get]; simp
theorem zero63 : (Try.prog.info? 63).map (·.zero) = some (some (.agg (big zeros))) := by kernel_rfl
theorem und63 : Try.prog.underlying 63 = some (.array 17 61) := by kernel_rfl
theorem siz63 : (Try.prog.info? 63).map (·.size) = some 17 := by kernel_rfl
/-- What a function that hands back a number leaves. -/
def RB (v : Nat) (w : World) (e : Ending) (w' : World) : Prop := ∃ L, e = .returned (.agg (big L)) ∧ okB L ∧ val L = v ∧ Below w.heap.size w w'
set_option maxHeartbeats 1600000 in
theorem less_any (A B : List Nat) (hA : okB A) (hB : okB B) (w : World) : Calls Try.prog 36 #[.agg (big A), .agg (big B)] w fun e w' => e = .returned (.bool (decide (val A < val B))) ∧ Below w.heap.size w w' := by
  obtain ⟨R, hR⟩ : ∃ R : Bool, Hid (decide (val A < val B) = R) := ⟨_, Lib.hid rfl⟩
  rw [hR.out]
  have HA := Lib.hid hA; have HB := Lib.hid hB
  clear hA hB
  go_enter Try.func36, Try.ntmps36
  go_wp2_with (fail)
  have PA : Hid (BB ((w.alloc (.cells (big A) 63)).alloc (.cells (big B) 63)) w.heap.size A) := Lib.hid ((BB.new w A).old _)
  have PB : Hid (BB ((w.alloc (.cells (big A) 63)).alloc (.cells (big B) 63)) (w.heap.size + 1) B) := Lib.hid (by simpa using BB.new (w.alloc (.cells (big A) 63)) B)
  have BL : Hid (Below w.heap.size w ((w.alloc (.cells (big A) 63)).alloc (.cells (big B) 63))) := Lib.hid (bl_alloc (bl_alloc (Below.refl _ _) _) _)
  go_loopw [5] (fun i wr => ∃ k : Nat, k ≤ 17 ∧ i = .int .i64 ((k : Int) - 1) ∧ (∀ j, k ≤ j → j < 17 → A.getD j 0 = B.getD j 0) ∧ BB wr w.heap.size A ∧ BB wr (w.heap.size + 1) B ∧ Below w.heap.size w wr) (fun i _ => (intOf i + 1).toNat)
  case atStart => exact ⟨17, by omega, rfl, fun j h1 h2 => by omega, PA.out, PB.out, BL.out⟩
  case round =>
    clear PA PB BL
    obtain ⟨k, hk, rfl, he, hPA, hPB, hBL⟩ := hrel
    have HE := Lib.hid he; have QA := Lib.hid hPA; have QB := Lib.hid hPB; have BL := Lib.hid hBL
    clear he hPA hPB hBL
    rcases k with _ | n
    · rw [show (((0 : Nat) : Int) - 1) = -1 from rfl]
      have hz : R = false := by rw [← hR.out]; exact less_eq (fun j hj => HE.out j (by omega) hj)
      subst hz
      go_wp2_with (fail)
      go_ret
      exact ⟨rfl, BL.out⟩
    · rw [show (((n + 1 : Nat) : Int) - 1) = (n : Int) by omega]
      have h0 : (0 : Int) ≤ (n : Int) := by omega
      have h1 : (n : Int) < 17 := by omega
      have y1 := QA.out.cell HA.out (i := n) (by omega)
      have y2 := QB.out.cell HB.out (i := n) (by omega)
      obtain ⟨x, hx⟩ : ∃ x, x = A.getD n 0 := ⟨_, rfl⟩
      obtain ⟨y, hy⟩ : ∃ y, y = B.getD n 0 := ⟨_, rfl⟩
      rw [← hx] at y1
      rw [← hy] at y2
      have HX := Lib.hid hx; have HY := Lib.hid hy
      clear hx hy
      by_cases e : x = y
      · subst e
        go_wp2_with (fail)
        go_quiet (fail)
        go_wp2_with (fail)
        go_roundw
        case rel => exact ⟨n, by omega, rfl, fun j h1 h2 => by
          by_cases e : j = n
          · rw [e, ← HX.out, ← HY.out]
          · exact HE.out j (by omega) h2, QA.out, QB.out, below_drewN BL.out _⟩
        case measure => simp [intOf]
      · have hb : ((x : Int) != (y : Int)) = true := by rw [bne_iff_ne]; omega
        have hz : R = decide (x < y) := by
          rw [← hR.out, less_dec HA.out HB.out (i := n) (by omega) (fun j h1 h2 => HE.out j (by omega) h2) (by rw [← HX.out, ← HY.out]; exact e), ← HX.out, ← HY.out]
        have HZ := Lib.hid hz
        have E := Lib.hid e
        clear hz e
        go_wp2_with (fail)
        go_quiet (fail)
        go_wp2_with (fail)
        go_quiet (fail)
        go_wp2_with (fail)
        go_ret
        exact ⟨ret_bool (by rw [HZ.out]), below_drewN (below_drewN BL.out _) _⟩
theorem Below.keepBB {B : Nat} {w w' : World} (h : Below B w w') {k : Nat} (hk : B ≤ k) (i : Nat) (v : Value) : Below B w (w'.setCell ⟨k, i, none⟩ v) := h.setCell hk v
theorem u64_small (n : Nat) (h : n < 18446744073709551616) : IntKind.u64.wrap (n : Int) = (n : Int) := by
  rw [IntKind.wrap_u64]; omega
end Go.Proofs.Ytfjhlgmdkkdooaa
