/-
  The walks of tables' rising and valid over lists of 8 parameters and of 8 rules. Conditions: the list is as it should be.
-/
import Derived.Test.YtdebfniifijjoaaDoorM12
import Derived.RangeFuncNested
import Derived.RangeFuncBound
import Derived.RangeFuncCalls
import Derived.RangeFuncLeaves
import Derived.RangeFuncBox
import Derived.Shelf.Abstract
import Derived.Shelf.RegionOpen
import Derived.WalkKit
import Derived.OwnWalkIn
import Derived.TacticsInMore
import Derived.LoopNIn
import Derived.LoopIn
import Derived.OrdersIn
import Derived.OrdersHeld
import Derived.Deep.RegionHeld3
namespace Go.Proofs.YtdebfniifijjoaaDoor
open Go.RowKit Kit Go.Shelf
set_option linter.unusedVariables false
/-- A row of 8 parameters with the IDs 0 to 7. -/
structure PL (w : World) (b : Nat) (vals : Nat → Int) : Prop where
  id : ∀ i, i < 8 → w.cell? ⟨b, i * 2, none⟩ = some (.int .i64 i)
  val : ∀ i, i < 8 → w.cell? ⟨b, i * 2 + 1, none⟩ = some (.int .i64 (vals i))
  lt : b < w.heap.size
theorem PL.below {w w' : World} {b : Nat} {vals : Nat → Int} (h : PL w b vals) (hb : Below w.heap.size w w') : PL w' b vals :=
  ⟨fun i hi => (hb.cell (p := ⟨b, i * 2, none⟩) h.lt).trans (h.id i hi), fun i hi => (hb.cell (p := ⟨b, i * 2 + 1, none⟩) h.lt).trans (h.val i hi), Nat.lt_of_lt_of_le h.lt hb.size⟩
/-- A row of 8 rules: everything is allowed. -/
structure RL8 (w : World) (b : Nat) : Prop where
  id : ∀ i, i < 8 → w.cell? ⟨b, i * 4, none⟩ = some (.int .i64 i)
  least : ∀ i, i < 8 → w.cell? ⟨b, i * 4 + 1, none⟩ = some (.int .i64 (-9223372036854775808))
  most : ∀ i, i < 8 → w.cell? ⟨b, i * 4 + 2, none⟩ = some (.int .i64 9223372036854775807)
  init : ∀ i, i < 8 → w.cell? ⟨b, i * 4 + 3, none⟩ = some (.int .i64 0)
  lt : b < w.heap.size
theorem RL8.below {w w' : World} {b : Nat} (h : RL8 w b) (hb : Below w.heap.size w w') : RL8 w' b :=
  ⟨fun i hi => (hb.cell (p := ⟨b, i * 4, none⟩) h.lt).trans (h.id i hi), fun i hi => (hb.cell (p := ⟨b, i * 4 + 1, none⟩) h.lt).trans (h.least i hi), fun i hi => (hb.cell (p := ⟨b, i * 4 + 2, none⟩) h.lt).trans (h.most i hi), fun i hi => (hb.cell (p := ⟨b, i * 4 + 3, none⟩) h.lt).trans (h.init i hi), Nat.lt_of_lt_of_le h.lt hb.size⟩

set_option maxHeartbeats 400000 in
theorem clos86 (x0 x1 : Int) (w : World) : Calls Tryd.prog 86 #[.agg #[.int .i64 x0, .int .i64 x1]] w fun e w' => e = .returned (.int .i64 x0) ∧ Below w.heap.size w w' := by
  go_enter Tryd.func86, Tryd.ntmps86
  go_wp2_with (fail)
  go_ret
  exact ⟨rfl, bl_alloc (Below.refl _ _) _⟩
set_option maxRecDepth 100000 in
set_option maxHeartbeats 1600000 in
theorem rising85 {w : World} {b c : Nat} {vals : Nat → Int} (h : PL w b vals) (hc : 8 ≤ c ∧ c ≤ maxLen) :
    Calls Tryd.prog 85 #[.slice (some ⟨b, 0, none⟩) 8 c, .func (.func 86) #[] #[]] w fun e w' => e = .returned (.bool true) ∧ Below w.heap.size w w' := by
  have H := Lib.hid h
  have hc2 := hc.2
  unfold maxLen at hc2
  have hb := h.lt
  clear h
  go_enter Tryd.func85, Tryd.ntmps85
  go_wp2_with (fail)
  go_loopw [5, 11] (fun p i wr => ∃ k : Nat, k ≤ 8 ∧ i = .int .i64 k ∧ p = .int .i64 ((k : Int) - 1) ∧ Below w.heap.size w wr) (fun _ i _ => 8 - (intOf i).toNat)
  case atStart => exact ⟨0, by omega, rfl, rfl, Below.refl _ _⟩
  case round =>
    obtain ⟨k, hk, rfl, rfl, hB⟩ := hrel
    have HB := Lib.hid hB
    clear hB
    by_cases hlt : k < 8
    · have dk : decide ((k : Int) < 8) = true := by simp; omega
      have P := Lib.hid (H.out.below HB.out)
      have y0 := P.out.id k hlt
      have y1 := P.out.val k hlt
      have hbw := P.out.lt
      have d1 : decide ((k : Int) ≤ (k : Int) - 1) = false := by simp; omega
      have d2 : decide ((65535 : Int) < (k : Int)) = false := by simp; omega
      have NB := Lib.hid (hp_new wr (.cells #[.int .i64 k, .int .i64 (vals k)] 68))
      have HB1 := Lib.hid (bl_alloc HB.out (.cells #[.int .i64 k, .int .i64 (vals k)] 68))
      go_wp2_with (fail)
      refine (clos86 (k) ((vals k)) _).mono ?_
      rintro e w5 ⟨rfl, b5⟩
      have HB5 := Lib.hid (bl_step HB1.out b5)
      have NB5 := Lib.hid (below_keeps b5 NB.out (by simp))
      have hl5 := lt_of_obj NB5.out
      have z0 : w5.cell? ⟨wr.heap.size, 0, none⟩ = some (.int .i64 k) := cell_of NB5.out rfl
      have z1 : w5.cell? ⟨wr.heap.size, 1, none⟩ = some (.int .i64 (vals k)) := cell_of NB5.out rfl
      clear b5
      go_wp2_with (fail)
      refine (clos86 (k) ((vals k)) _).mono ?_
      rintro e w6 ⟨rfl, b6⟩
      have HB6 := Lib.hid (bl_step HB5.out b6)
      clear b6
      go_wp2_with (fail)
      exact ⟨⟨k + 1, by omega, by go_num, by congr 1; omega, HB6.out⟩, by simp [intOf]; omega⟩
    · have e : k = 8 := by omega
      subst e
      have dk : decide (((8 : Nat) : Int) < 8) = false := by decide
      go_wp2_with (fail)
      go_ret
      exact ⟨rfl, HB.out⟩

set_option maxHeartbeats 400000 in
theorem clos39 (x0 x1 x2 x3 : Int) (w : World) : Calls Tryd.prog 39 #[.agg #[.int .i64 x0, .int .i64 x1, .int .i64 x2, .int .i64 x3]] w fun e w' => e = .returned (.int .i64 x0) ∧ Below w.heap.size w w' := by
  go_enter Tryd.func39, Tryd.ntmps39
  go_wp2_with (fail)
  go_ret
  exact ⟨rfl, bl_alloc (Below.refl _ _) _⟩
set_option maxRecDepth 100000 in
set_option maxHeartbeats 1600000 in
theorem rising38 {w : World} {b c : Nat} (h : RL8 w b) (hc : 8 ≤ c ∧ c ≤ maxLen) :
    Calls Tryd.prog 38 #[.slice (some ⟨b, 0, none⟩) 8 c, .func (.func 39) #[] #[]] w fun e w' => e = .returned (.bool true) ∧ Below w.heap.size w w' := by
  have H := Lib.hid h
  have hc2 := hc.2
  unfold maxLen at hc2
  have hb := h.lt
  clear h
  go_enter Tryd.func38, Tryd.ntmps38
  go_wp2_with (fail)
  go_loopw [5, 11] (fun p i wr => ∃ k : Nat, k ≤ 8 ∧ i = .int .i64 k ∧ p = .int .i64 ((k : Int) - 1) ∧ Below w.heap.size w wr) (fun _ i _ => 8 - (intOf i).toNat)
  case atStart => exact ⟨0, by omega, rfl, rfl, Below.refl _ _⟩
  case round =>
    obtain ⟨k, hk, rfl, rfl, hB⟩ := hrel
    have HB := Lib.hid hB
    clear hB
    by_cases hlt : k < 8
    · have dk : decide ((k : Int) < 8) = true := by simp; omega
      have P := Lib.hid (H.out.below HB.out)
      have y0 := P.out.id k hlt
      have y1 := P.out.least k hlt
      have y2 := P.out.most k hlt
      have y3 := P.out.init k hlt
      have hbw := P.out.lt
      have d1 : decide ((k : Int) ≤ (k : Int) - 1) = false := by simp; omega
      have d2 : decide ((65535 : Int) < (k : Int)) = false := by simp; omega
      have NB := Lib.hid (hp_new wr (.cells #[.int .i64 k, .int .i64 (-9223372036854775808), .int .i64 9223372036854775807, .int .i64 0] 89))
      have HB1 := Lib.hid (bl_alloc HB.out (.cells #[.int .i64 k, .int .i64 (-9223372036854775808), .int .i64 9223372036854775807, .int .i64 0] 89))
      go_wp2_with (fail)
      refine (clos39 (k) ((-9223372036854775808)) (9223372036854775807) (0) _).mono ?_
      rintro e w5 ⟨rfl, b5⟩
      have HB5 := Lib.hid (bl_step HB1.out b5)
      have NB5 := Lib.hid (below_keeps b5 NB.out (by simp))
      have hl5 := lt_of_obj NB5.out
      have z0 : w5.cell? ⟨wr.heap.size, 0, none⟩ = some (.int .i64 k) := cell_of NB5.out rfl
      have z1 : w5.cell? ⟨wr.heap.size, 1, none⟩ = some (.int .i64 (-9223372036854775808)) := cell_of NB5.out rfl
      have z2 : w5.cell? ⟨wr.heap.size, 2, none⟩ = some (.int .i64 9223372036854775807) := cell_of NB5.out rfl
      have z3 : w5.cell? ⟨wr.heap.size, 3, none⟩ = some (.int .i64 0) := cell_of NB5.out rfl
      clear b5
      go_wp2_with (fail)
      refine (clos39 (k) ((-9223372036854775808)) (9223372036854775807) (0) _).mono ?_
      rintro e w6 ⟨rfl, b6⟩
      have HB6 := Lib.hid (bl_step HB5.out b6)
      clear b6
      go_wp2_with (fail)
      exact ⟨⟨k + 1, by omega, by go_num, by congr 1; omega, HB6.out⟩, by simp [intOf]; omega⟩
    · have e : k = 8 := by omega
      subst e
      have dk : decide (((8 : Nat) : Int) < 8) = false := by decide
      go_wp2_with (fail)
      go_ret
      exact ⟨rfl, HB.out⟩

set_option maxHeartbeats 400000 in
theorem rising_nil (w : World) : Calls Tryd.prog 85 #[.slice none 0 0, .func (.func 86) #[] #[]] w fun e w' => e = .returned (.bool true) ∧ w = w' := by
  go_enter Tryd.func85, Tryd.ntmps85
  go_wp2_with (fail)
  go_loopw [5, 11] (fun p i wr => i = .int .i64 0 ∧ w = wr) (fun _ i _ => 0)
  case atStart => exact ⟨rfl, rfl⟩
  case round =>
    obtain ⟨rfl, rfl⟩ := hrel
    go_wp2_with (fail)
    go_ret
    exact ⟨rfl, rfl⟩
set_option maxHeartbeats 400000 in
theorem valid_pl {w : World} {b c : Nat} {vals : Nat → Int} (h : PL w b vals) (hc : 8 ≤ c ∧ c ≤ maxLen) : Calls Tryd.prog 71 #[.slice (some ⟨b, 0, none⟩) 8 c] w fun e w' => e = .returned (.bool true) ∧ Below w.heap.size w w' := by
  have R := Lib.hid (rising85 h hc)
  clear h
  go_enter Tryd.func71, Tryd.ntmps71
  go_wp2_with (fail)
  refine R.out.mono ?_
  rintro e w1 ⟨rfl, b1⟩
  have B1 := Lib.hid b1
  clear b1 R
  go_wp2_with (fail)
  go_ret
  exact ⟨rfl, B1.out⟩
set_option maxHeartbeats 400000 in
theorem valid_nil (w : World) : Calls Tryd.prog 71 #[.slice none 0 0] w fun e w' => e = .returned (.bool true) ∧ w = w' := by
  have R := Lib.hid (fun w => rising_nil w)
  go_enter Tryd.func71, Tryd.ntmps71
  go_wp2_with (fail)
  refine (R.out _).mono ?_
  rintro e _ ⟨rfl, rfl⟩
  go_wp2_with (fail)
  go_ret
  exact ⟨rfl, rfl⟩
end Go.Proofs.YtdebfniifijjoaaDoor
/-
  The walk of tables' Encode over 8 parameters; its bytes. Conditions: the list is as it should be.
-/
namespace Go.Proofs.YtdebfniifijjoaaDoor
open Go.RowKit Kit Go.Shelf
set_option linter.unusedVariables false
/-- A value as a number of 64 bits. -/
def uv (z : Int) : Nat := (z % 18446744073709551616).toNat
theorem uv_lt (z : Int) : uv z < 18446744073709551616 := by unfold uv; omega
theorem uv_wrap (z : Int) : IntKind.u64.wrap z = ((uv z : Nat) : Int) := by rw [IntKind.wrap_u64]; unfold uv; omega
theorem uv_back (z : Int) (h : -9223372036854775808 ≤ z ∧ z ≤ 9223372036854775807) : IntKind.i64.wrap ((uv z : Nat) : Int) = z := by
  rw [IntKind.wrap_i64]; unfold uv; omega
/-- The bytes of a table. -/
def eB (vals : Nat → Int) (j : Nat) : Nat := if j % 10 < 2 then j / 10 / 2 ^ (8 * (1 - j % 10)) % 256 else uv (vals (j / 10)) / 2 ^ (8 * (7 - (j % 10 - 2))) % 256
theorem eB_lt (vals : Nat → Int) (j : Nat) : eB vals j < 256 := by unfold eB; split <;> exact Nat.mod_lt _ (by omega)
def encL (vals : Nat → Int) (n : Nat) : List Value := (List.range n).map fun j => Value.int .u8 ((eB vals j : Nat) : Int)
theorem encL_len (vals : Nat → Int) (n : Nat) : (encL vals n).length = n := by simp [encL]
theorem eB_lo (vals : Nat → Int) (k i : Nat) (hi : i < 2) : eB vals (10 * k + i) = k / 2 ^ (8 * (1 - i)) % 256 := by
  unfold eB; rw [show (10 * k + i) % 10 = i by omega, show (10 * k + i) / 10 = k by omega, if_pos hi]
theorem eB_hi (vals : Nat → Int) (k i : Nat) (hi : i < 8) : eB vals (10 * k + 2 + i) = uv (vals k) / 2 ^ (8 * (7 - i)) % 256 := by
  unfold eB; rw [show (10 * k + 2 + i) % 10 = 2 + i by omega, show (10 * k + 2 + i) / 10 = k by omega, if_neg (by omega), show 2 + i - 2 = i by omega]
theorem map_range_add (f : Nat → Value) (a b : Nat) : (List.range (a + b)).map f = (List.range a).map f ++ (List.range b).map fun i => f (a + i) := by
  rw [List.range_add, List.map_append, List.map_map]; rfl
theorem encL_next (vals : Nat → Int) (k : Nat) : encL vals (10 * k) ++ beL k 2 2 ++ beL (uv (vals k)) 8 8 = encL vals (10 * k + 2 + 8) := by
  unfold encL
  rw [map_range_add _ (10 * k + 2) 8, map_range_add _ (10 * k) 2]
  congr 1
  · congr 1
    unfold beL
    exact List.map_congr_left fun i hi => by rw [eB_lo vals k i (List.mem_range.1 hi)]
  · unfold beL
    exact List.map_congr_left fun i hi => by rw [eB_hi vals k i (List.mem_range.1 hi)]
def encS (vals : Nat → Int) : ByteArray := strOfNums ((List.range 80).map fun j => ((eB vals j : Nat) : Int))
theorem encS_size (vals : Nat → Int) : (encS vals).size = 80 := by unfold encS; rw [strOfNums_size]; simp
theorem own_str {wr : World} {base N : Nat} {v : Value} {g : Nat → Nat} (h : wr.ownsRow base 5 1 v N ((List.range N).map fun j => Value.int .u8 ((g j : Nat) : Int))) : (convert 137 9 v).run Tryd.prog wr = .ok (.string (strOfNums ((List.range N).map fun j => ((g j : Nat) : Int)))) wr := by
  rcases h.2 with ⟨h1, h0⟩ | ⟨b, cap', cur, h1, _⟩
  · subst h0
    rw [h1]
    exact run_convert_bytes_nil (P := Tryd.prog) (w := wr) 137 5 Tryd.underlying137 Tryd.underlying5 0 0 9 Tryd.underlying9
  · subst h1
    exact run_convert_bytes_arg wr 137 5 Tryd.underlying137 Tryd.underlying5 b 0 N _ ((List.range N).map fun j => ((g j : Nat) : Int)) (by simp) (fun i hi => by
      rw [Nat.zero_add, own_cell h (by rw [List.getElem?_map, List.getElem?_range (by omega)]; rfl)]
      simp [List.getD_eq_getElem?_getD, hi]) 9 Tryd.underlying9
/-- In the loop. -/
structure ENL (w : World) (vals : Nat → Int) (k : Nat) (v : Value) (wr : World) : Prop where
  own : wr.ownsRow w.heap.size 5 1 v (10 * k) (encL vals (10 * k))
  below : Below w.heap.size w wr
def EncQ (S : ByteArray) (w : World) (e : Ending) (w' : World) : Prop := e = .returned (.tuple #[.string S, .int .i64 0]) ∧ Below w.heap.size w w'
set_option maxRecDepth 100000 in
set_option maxHeartbeats 3200000 in
theorem encode_any {w : World} {b c : Nat} {vals : Nat → Int} (h : PL w b vals) (hc : 8 ≤ c ∧ c ≤ maxLen) :
    Calls Tryd.prog 51 #[.slice (some ⟨b, 0, none⟩) 8 c] w fun e w' => EncQ (encS vals) w e w' := by
  have H := Lib.hid h
  have VA := Lib.hid (valid_pl h hc)
  have hc2 := hc.2
  unfold maxLen at hc2
  have hb := h.lt
  have ES : Hid (∀ (wr : World) (v : Value), wr.ownsRow w.heap.size 5 1 v 80 (encL vals 80) → (convert 137 9 v).run Tryd.prog wr = .ok (.string (encS vals)) wr) := Lib.hid (fun wr v ho => own_str ho)
  clear h
  go_enter Tryd.func51, Tryd.ntmps51
  go_wp2_with (fail)
  refine VA.out.mono ?_
  rintro e w1 ⟨rfl, b1⟩
  have H0 : Hid (ENL w vals 0 (.slice none 0 0) w1) := Lib.hid ⟨World.ownsRow_nil _ _ _ _, b1⟩
  clear b1 VA
  go_wp2_with (fail)
  go_loopw [4, 12] (fun v i wr => ∃ k : Nat, k ≤ 8 ∧ i = .int .i64 k ∧ ENL w vals k v wr) (fun _ i _ => 8 - (intOf i).toNat)
  case atStart => exact ⟨0, by omega, rfl, H0.out⟩
  case round =>
    clear H0
    obtain ⟨k, hk, rfl, hR⟩ := hrel
    have HR := Lib.hid hR
    clear hR
    by_cases hlt : k < 8
    · have dk : decide ((k : Int) < 8) = true := by simp; omega
      have P := Lib.hid (H.out.below HR.out.below)
      have y0 := P.out.id k hlt
      have y1 := P.out.val k hlt
      have hbw := P.out.lt
      have WK : IntKind.u64.wrap (k : Int) = (k : Int) := by rw [IntKind.wrap_u64]; omega
      have WV := uv_wrap (vals k)
      have UL := uv_lt (vals k)
      have LN := Lib.hid (encL_next vals k)
      have hws : w.heap.size ≤ wr.heap.size := HR.out.below.size
      generalize uv (vals k) = U at *
      have NB := Lib.hid (hp_new wr (.cells #[.int .i64 k, .int .i64 (vals k)] 68))
      have OW := Lib.hid (show ((wr.alloc (.cells #[.int .i64 k, .int .i64 (vals k)] 68)).drew).ownsRow w.heap.size 5 1 u4 (10 * k) (encL vals (10 * k)) from own_drewN (HR.out.own.alloc _) 1)
      have BW := Lib.hid (show Below w.heap.size w (wr.alloc (.cells #[.int .i64 k, .int .i64 (vals k)] 68)).drew from (bl_alloc HR.out.below _).trans (Below.refl _ _).drew)
      have AP1 := Lib.hid (appended_any OW.out BW.out.size (by omega) k 2 (by omega) (by omega))
      rw [show ((2 : Nat) : Int) = 2 from rfl] at AP1
      go_wp2_with (fail)
      generalize hW2 : wr.alloc (.cells #[.int .i64 k, .int .i64 (vals k)] 68) = w2 at *
      have HW2 := Lib.hid hW2
      clear hW2
      have x0 : w2.cell? ⟨wr.heap.size, 0, none⟩ = some (.int .i64 k) := cell_of NB.out rfl
      have x1 : w2.cell? ⟨wr.heap.size, 1, none⟩ = some (.int .i64 (vals k)) := cell_of NB.out rfl
      have hl2 := lt_of_obj NB.out
      go_region_held3 (fun w' => w'.cell? ⟨wr.heap.size, 0, none⟩ = some (.int .i64 k) ∧ w'.cell? ⟨wr.heap.size, 1, none⟩ = some (.int .i64 (vals k))) (go_keep) ((first | (go_at_call 72; refine AP1.out.mono ?_; rintro e w3 ⟨v3, rfl, o3, b3, k3⟩; have O3 := Lib.hid o3; have B3 := Lib.hid (BW.out.trans b3); have N3 := Lib.hid (k3 _ _ _ (hp_drew NB.out) (by decide)); have x0' : w3.cell? ⟨wr.heap.size, 0, none⟩ = some (.int .i64 k) := cell_of N3.out rfl; have x1' : w3.cell? ⟨wr.heap.size, 1, none⟩ = some (.int .i64 (vals k)) := cell_of N3.out rfl; have hl3 := lt_of_obj N3.out; have AP2 := Lib.hid (appended_any O3.out B3.out.size (by omega) U 8 (by omega) UL); rw [show ((8 : Nat) : Int) = 8 from rfl] at AP2; clear o3 b3 k3 AP1) | (go_at_call 72; refine AP2.out.mono ?_; rintro e w4 ⟨v4, rfl, o4, b4, k4⟩; have O4 := Lib.hid o4; have B4 := Lib.hid (B3.out.trans b4); have N4 := Lib.hid (k4 _ _ _ N3.out (by decide)); have x0'' : w4.cell? ⟨wr.heap.size, 0, none⟩ = some (.int .i64 k) := cell_of N4.out rfl; have x1'' : w4.cell? ⟨wr.heap.size, 1, none⟩ = some (.int .i64 (vals k)) := cell_of N4.out rfl; have hl4 := lt_of_obj N4.out; clear o4 b4 k4)))
      go_wp2_with (fail)
      refine ⟨⟨k + 1, by omega, by go_num, ?_, B4.out⟩, by simp [intOf]; omega⟩
      have o4 := O4.out
      rw [LN.out] at o4
      exact o4
    · have e : k = 8 := by omega
      subst e
      have dk : decide (((8 : Nat) : Int) < 8) = false := by decide
      have cv := ES.out wr u4 HR.out.own
      go_wp2_with (fail)
      go_ret2
      exact ⟨rfl, HR.out.below⟩
end Go.Proofs.YtdebfniifijjoaaDoor
/-
  A region that draws its order inside a round of a range over a function: what holds of it outside holds there. Conditions: no defer; no way out by a want of room.
-/
namespace Go.Proofs.YtdebfniifijjoaaDoor
open Go.RowKit Kit Go.Shelf
set_option linter.unusedVariables false
section
variable {P : Program} {ops : Array Oper} {md : Region.Mode} {Q : Exit → Act → World → Prop} {l n : Nat}
/-- No operation is a defer. -/
def noDefer (ops : Array Oper) : Bool := ops.toList.all fun o => match o.op with | .defer _ => false | _ => true
theorem noDefer_at {i : Nat} {o : Oper} (h : noDefer ops = true) (ho : ops[i]? = some o) (c : Call) : o.op ≠ .defer c := by
  intro e
  have hm : o ∈ ops.toList := by
    rw [← Array.getElem?_toList] at ho
    exact List.mem_of_getElem? ho
  have := List.all_eq_true.1 h o hm
  rw [e] at this
  cases this
theorem rows_in {row : String} {args : Array Value} {w : World} {R : Value → World → Prop} {m : Nat} (h : Rows P row args w R) : RowsIn (Fence.wide.inRound l) m P row args w R :=
  fun c cs _ => let ⟨v, w', r, s⟩ := h c cs; ⟨v, w', r, by rw [fenced_inRound]; exact stepsIn_wide.2 s⟩
theorem upon_in {o : Oper} {a : Act} {next : Act → World → Prop} {r : Result Next} (h : o.upon P a next Q r) : o.uponIn (Fence.wide.inRound l) n P a next Q r := by
  cases r with
  | ok x w' =>
    cases x with
    | enter f args => exact ⟨fun h0 => (by cases h0), CallsIn.inRound l (callsIn_wide.2 h)⟩
    | row row args => exact ⟨fun h0 => (by cases h0), rows_in h⟩
    | _ => first | exact h | exact h.elim
  | halt x w' => cases x <;> first | exact h | exact h.elim
theorem op_in {i : Nat} {K : Act → World → Prop} {a : Act} {w : World} (hnd : noDefer ops = true) (hno : ¬ LetsOut Q) (h : wpOp P ops Q i K a w) : wpOpIn (Fence.wide.inRound l) n P ops Q i K a w := by
  unfold wpOp at h
  unfold wpOpIn
  cases ho : ops[i]? with
  | none => rw [ho] at h; exact h
  | some o =>
    rw [ho] at h
    simp only at h ⊢
    split
    · rename_i hw
      rw [if_pos hw] at h
      rcases h with h | ⟨_, h⟩
      · refine ⟨fun _ _ => trivial, ?_⟩
        rw [Fence.inRound_round, Oper.semAt_some l _ _ (noDefer_at hnd ho)]
        exact upon_in h
      · exact absurd h hno
    · rename_i hw
      rw [if_neg hw] at h
      exact ⟨fun _ _ => trivial, h⟩
theorem any_in (hnd : noDefer ops = true) (hno : ¬ LetsOut Q) : ∀ (fuel : Nat) (listed : Array Bool) (a : Act) (w : World), wpAny P md ops Q fuel listed a w → wpAnyIn (Fence.wide.inRound l) n P md ops Q fuel listed a w
  | 0, _, _, _, h => h
  | fuel + 1, _, _, _, h => ⟨h.1, fun i hi => wpOpIn_mono (fun a' w' h' => any_in hnd hno fuel _ a' w' h') (op_in hnd hno (h.2 i hi))⟩
/-- A region that draws, inside a round: by the held walk. -/
theorem region_round {id : Nat} {a : Act} {w : World} {S : World → Prop} (hm : P.follows .mixedOrders = true) (hnd : noDefer ops = true) (hno : ¬ LetsOut Q) (hS : S w.drew)
    (h : S w.drew → wpAnyH P .any ops Q S ops.size (Array.replicate ops.size false) a w.drew) : (Code.region id ops true).wpIn (Fence.wide.inRound l) n P Q a w :=
  wpIn_region_any hm (any_in hnd hno _ _ _ _ (wpAny_of_held _ _ _ _ (h hS)))
end
end Go.Proofs.YtdebfniifijjoaaDoor
