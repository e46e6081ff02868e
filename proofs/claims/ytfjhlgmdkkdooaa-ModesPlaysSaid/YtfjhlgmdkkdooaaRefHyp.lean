/-
  The walks of the reference's Hypot, Bounded and Valid. Conditions: numbers whose absolute value is at most 2 to the power 40, for Hypot.
-/
import Derived.Test.YtfjhlgmdkkdooaaRoot
import Derived.Test.YtfjhlgmdkkdooaaKitf
namespace Go.Proofs.Ytfjhlgmdkkdooaa
open Go.RowKit Kit
set_option linter.unusedVariables false
/-- The numbers of a vector lie in a row. -/
def LC (W : World) (B : Nat) (L : List Int) : Prop := ∀ i, i < 4 → W.cell? ⟨B, i, none⟩ = some (.int .i64 (L.getD i 0))
theorem LC.below {W W' : World} {B : Nat} {L : List Int} (h : LC W B L) (hb : Below W.heap.size W W') : LC W' B L := fun i hi => by
  have := h i hi
  have hl := World.block_lt_of_cell? W _ this
  rw [hb.cell (p := ⟨B, i, none⟩) hl]; exact this
theorem LC.lt {W : World} {B : Nat} {L : List Int} (h : LC W B L) : B < W.heap.size := World.block_lt_of_cell? W _ (h 0 (by omega))
theorem sq_bd (L : List Int) (hb : ∀ i, -1099511627776 ≤ L.getD i 0 ∧ L.getD i 0 ≤ 1099511627776) : ∀ k, sq L k ≤ k * 1208925819614629174706176
  | 0 => by simp [sq]
  | k + 1 => by
    have h1 := sq_bd L hb k
    have h2 : (L.getD k 0).natAbs ≤ 1099511627776 := by have := hb k; omega
    have h3 := Nat.mul_le_mul h2 h2
    rw [sq]
    omega
theorem isRoot_lt {V n K : Nat} (h : isRoot V n) (hK : V < K * K) : n < K := by
  rcases Nat.lt_or_ge n K with h' | h'
  · exact h'
  · have := Nat.mul_le_mul h' h'; have := h.1; omega
set_option maxRecDepth 100000 in
set_option maxHeartbeats 6400000 in
theorem refhyp_any (L : List Int) (hb : ∀ i, -1099511627776 ≤ L.getD i 0 ∧ L.getD i 0 ≤ 1099511627776) (B c : Nat) (w : World) (hc : LC w B L) :
    Calls Try.prog 25 #[.slice (some ⟨B, 0, none⟩) 4 c] w fun e w' => ∃ n : Nat, e = .returned (.tuple #[.int .i64 n, .int .i64 0]) ∧ isRoot (sq L 4) n ∧ Below w.heap.size w w' := by
  have HC := Lib.hid hc; have HBD := Lib.hid hb
  clear hc hb
  go_enter Try.func25, Try.ntmps25
  go_wp2_with (fail)
  obtain ⟨W0, hW⟩ : ∃ W0, W0 = w.alloc (.cells #[.int .u64 0, .int .u64 0, .int .u64 0, .int .u64 0, .int .u64 0, .int .u64 0, .int .u64 0, .int .u64 0, .int .u64 0, .int .u64 0, .int .u64 0, .int .u64 0, .int .u64 0, .int .u64 0, .int .u64 0, .int .u64 0, .int .u64 0] 63) := ⟨_, rfl⟩
  have P0 : Hid (BN W0 w.heap.size 0) := Lib.hid (by rw [hW]; exact BN.zero w)
  have C0 : Hid (LC W0 B L) := Lib.hid (by rw [hW]; exact HC.out.below (bl_alloc (Below.refl _ _) _))
  have L0 : Hid (Below w.heap.size w W0) := Lib.hid (by rw [hW]; exact bl_alloc (Below.refl _ _) _)
  rw [← hW]
  clear hW
  go_loopw [5] (fun i wr => ∃ k : Nat, k ≤ 4 ∧ i = .int .i64 k ∧ BN wr w.heap.size (sq L k) ∧ LC wr B L ∧ Below w.heap.size w wr) (fun i _ => 4 - (intOf i).toNat)
  case atStart => exact ⟨0, by omega, rfl, P0.out, C0.out, L0.out⟩
  case round =>
    clear P0 C0 L0
    obtain ⟨k, hk, rfl, hP, hC, hL⟩ := hrel
    have BP := Lib.hid hP; have BC := Lib.hid hC; have BL := Lib.hid hL
    clear hP hC hL
    by_cases hlt : k < 4
    · obtain ⟨a, ha⟩ : ∃ a, a = L.getD k 0 := ⟨_, rfl⟩
      have hab : -1099511627776 ≤ a ∧ a ≤ 1099511627776 := by rw [ha]; exact HBD.out k
      obtain ⟨x, hx⟩ : ∃ x, x = a.natAbs := ⟨_, rfl⟩
      obtain ⟨V, hV⟩ : ∃ V, V = sq L k := ⟨_, rfl⟩
      have hVb : V ≤ 4 * 1208925819614629174706176 := by rw [hV]; exact Nat.le_trans (sq_bd L HBD.out k) (Nat.mul_le_mul_right _ (by omega))
      have hxb : x ≤ 1099511627776 := by omega
      have hxx := Nat.mul_le_mul hxb hxb
      have SQ : Hid (V + x * x = sq L (k + 1)) := Lib.hid (by rw [hV, hx, ha]; rfl)
      have SX : Hid (x < 340282366920938463463374607431768211456) := Lib.hid (by omega)
      have SM : Hid (Sm (V + x * x)) := Lib.hid (by unfold Sm; omega)
      have AB : Hid (∀ W, Calls Try.prog 29 #[.int .i64 a] W fun e W' => e = .returned (.agg (bg x)) ∧ Below W.heap.size W W') := Lib.hid (fun W => by rw [hx]; exact abs_n a (by omega) W)
      have ck : Hid (∀ W, LC W B L → W.cell? ⟨B, k, none⟩ = some (.int .i64 a)) := Lib.hid (fun W h => by rw [ha]; exact h k hlt)
      rw [← hV] at BP
      have HA := Lib.hid hab
      clear ha hx hV hVb hxb hxx hab
      have b0 : (0 : Int) ≤ (k : Int) := by omega
      have b1 : (k : Int) < 4 := by omega
      have r3 : wr.cell? ⟨B, k, none⟩ = some (.int .i64 a) := ck.out wr BC.out
      have hBl := BC.out.lt
      have hPl := BP.out.lt
      have hBne : B ≠ w.heap.size := by have := HC.out.lt; omega
      go_wp2_with (fail)
      refine region_calm_tail 13 (by kernel_rfl) (by kernel_rfl) ?_
      simp only [List.take_succ_cons, List.take_zero, List.drop_succ_cons, List.drop_zero]
      repeat (first | (refine BigFrame.wpQuiet_want rfl (fun K hK => ?_); (refine calm_num (o := ⟨some 15, .load 63 (.tmp 4), _, _, _, _⟩) (.tmp 4) rfl w.heap.size V rfl BP.out ?_); refine hK _ ?_; clear hK K) | (quiet_step ((first | (go_at_call 29; exact calm_of (AB.out _)) | (go_at_call 28; exact calm_of (times_n SX.out SX.out _)) | (go_at_call 27; exact calm_of (add_n SM.out _))))))
      refine wpQuiet_nil ?_
      intro w5 hw'
      have hb5 := below_of_ext hw'
      have P5 := Lib.hid (BP.out.below hb5)
      have C5 := Lib.hid (BC.out.below hb5)
      have L5 := Lib.hid (bl_step BL.out hb5)
      clear hb5 hw'
      rw [SQ.out]
      refine num_store (o := ⟨none, .store 63 (.tmp 4) (.tmp 27), _, _, _, _⟩) rfl (.tmp 4) (.tmp 27) rfl w.heap.size (sq L (k + 1)) V rfl rfl P5.out ?_
      go_wp2_with (fail)
      go_roundw
      case rel => exact ⟨k + 1, by omega, by go_num, P5.out.put _, fun i hi => by rw [show (w5.setRow w.heap.size (bg (sq L (k + 1)))).cell? ⟨B, i, none⟩ = w5.cell? ⟨B, i, none⟩ from World.cell?_of_block (w := w5) (setRow_other _ _ _ _ hBne)]; exact C5.out i hi, bl_row L5.out (Nat.le_refl _) _⟩
      case measure => simp [intOf]; omega
    · obtain rfl : k = 4 := by omega
      have SB := sq_bd L HBD.out 4
      have hV : sq L 4 < 1361129467683753853853498429727072845824 := by omega
      have HVB := Lib.hid hV
      have HSB := Lib.hid SB
      clear hV SB
      go_wp2_with (refine num_load (o := ⟨some 28, .load 63 (.tmp 4), _, _, _, _⟩) rfl (.tmp 4) rfl w.heap.size (sq L 4) rfl BP.out ?_)
      refine (root_n HVB.out _).mono ?_
      rintro e w6 ⟨n, rfl, hr, hb6⟩
      have HR := Lib.hid hr
      have L6 := Lib.hid (bl_step BL.out hb6)
      have hn : n < 4398046511104 := isRoot_lt hr (by have := HSB.out; omega)
      have HN := Lib.hid (show n < 9223372036854775808 by omega)
      clear hr hb6 hn
      go_wp2_with (fail)
      refine (signed_n HN.out _).mono ?_
      rintro e w7 ⟨rfl, hb7⟩
      have L7 := Lib.hid (bl_step L6.out hb7)
      clear hb7
      go_wp2_with (fail)
      go_ret2
      exact ⟨n, rfl, HR.out, L7.out⟩
end Go.Proofs.Ytfjhlgmdkkdooaa
