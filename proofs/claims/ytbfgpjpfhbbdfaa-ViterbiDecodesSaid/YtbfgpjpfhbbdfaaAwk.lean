/-
  The walk of awake. Conditions: none.
-/
import Derived.Test.YtbfgpjpfhbbdfaaDec
import Derived.Test.YtbfgpjpfhbbdfaaScoreErr
namespace Go.Proofs.Ytbfgpjpfhbbdfaa
open Go.RowKit Kit
set_option linter.unusedVariables false
def X12 : List Int := [-7, 7, -7, 7, -7, 7, -7, 7, -7, 7, -7, 7]
def X28 : List Int := List.replicate 28 0
def X2 : List Int := [-7, 7]
theorem P12 : P X12 (8 * 0) (8 * 0 + 6) 0 = some (42, 0) := by decide +kernel
theorem P28 : P X28 (8 * 1) (8 * 1 + 6) 0 = some (0, 0) := by decide +kernel
theorem msg12 : msg 0 0 = ⟨#[]⟩ := by decide +kernel
theorem msg28 : msg 1 0 = ⟨#[0]⟩ := by decide +kernel
theorem sc12 : sc (outF (bitAt ⟨#[]⟩)) X12 12 = 42 := by decide +kernel
theorem ns_new (w : World) (X : List Int) (h : X.length ≤ 1000) : NS (w.alloc (.cells (X.map (Value.int .i64)).toArray 3)) (some ⟨w.heap.size, 0, none⟩) X.length X.length X := by
  refine ⟨rfl, Nat.le_refl _, by unfold maxLen; omega, fun i hi => ⟨w.heap.size, 0, rfl, by simp, ?_⟩⟩
  rw [Nat.zero_add]
  refine cell_of (hp_new w _) ?_
  simp [pv_get hi]
theorem make22 (w : World) (n : Nat) (h : n ≤ 20000) : (Instr.makeSlice 22 (.int .i64 n) (.int .i64 n)).run Try.prog w = .ok (.slice (some ⟨w.heap.size, 0, none⟩) n n) (w.alloc (.cells ((List.replicate n (0 : Int)).map (Value.int .i64)).toArray 3)) := by
  obtain ⟨i, hi, hz0, hz1, hz2⟩ := info_parts inf3
  have := run_make (P := Try.prog) w 22 3 i _ Try.underlying22 hi hz0 .i64 .i64 n n (by omega) (by omega) (by rw [hz2]; omega) (by omega)
  rw [this]
  have e : madeCells (Value.int .i64 0).cells ((n : Int).toNat * i.size) = ((List.replicate n (0 : Int)).map (Value.int .i64)).toArray := by
    rw [hz1]
    apply Array.ext_getElem?
    intro j
    rcases Nat.lt_or_ge j n with hj | hj
    · simp [madeCells, Value.cells, hj, Nat.mod_one]
    · simp [madeCells, hj]
  rw [e]
  simp
set_option maxRecDepth 100000 in
set_option maxHeartbeats 1600000 in
theorem awake_any (w : World) : Calls Try.prog 9 #[] w fun e w' => e = .returned (.bool true) ∧ Below w.heap.size w w' := by
  have D12 := Lib.hid (fun a w (h : NS w a 12 12 X12) => dec_ok X12 a 12 12 0 w h (by omega) rfl (by decide) 42 0 P12)
  have D28 := Lib.hid (fun a w (h : NS w a 28 28 X28) => dec_ok X28 a 28 28 1 w h (by omega) rfl (by decide) 0 0 P28)
  rw [msg12] at D12
  rw [msg28] at D28
  have S12 := Lib.hid (fun a w (h : NS w a 12 12 X12) => score_ok ⟨#[]⟩ X12 a 12 12 w h (by decide) rfl (by decide))
  rw [sc12] at S12
  have SF := Lib.hid (soften_any ⟨#[0, 1]⟩ (by decide))
  have SE := Lib.hid (fun v (w : World) (base : Nat) (h : w.ownsRow base 3 1 v 2 (X2.map (Value.int .i64))) (a' : Option Addr) (w2 : World) (hb : Below w.heap.size w w2) (h' : NS w2 a' 2 2 X2) => (by
    obtain ⟨a, c, rfl, hn⟩ := own_ns h
    have := sameints_any X2 X2 a a' 2 2 c 2 w2 (hn.below hb) h' (by omega) (by omega)
    rw [show decide (X2 = X2) = true by decide] at this
    exact this : Calls Try.prog 18 #[v, .slice a' 2 2] w2 fun e w' => e = .returned (.bool true) ∧ ∃ q, w' = w2.drewN q))
  have mk : ∀ w : World, (Instr.makeSlice 22 (.int .i64 28) (.int .i64 28)).run Try.prog w = .ok (.slice (some ⟨w.heap.size, 0, none⟩) 28 28) (w.alloc (.cells (X28.map (Value.int .i64)).toArray 3)) := fun w => make22 w 28 (by omega)
  have N12 := Lib.hid (fun w => ns_new w X12 (by decide))
  have N28 := Lib.hid (fun w => ns_new w X28 (by decide))
  have N2 := Lib.hid (fun w => ns_new w X2 (by decide))
  have B0 := Lib.hid (bl_alloc (Below.refl w.heap.size w) (.cells (X12.map (Value.int .i64)).toArray 3))
  go_enter Try.func9, Try.ntmps9
  go_wp2_with (fail)
  refine (D12.out _ _ (N12.out w)).mono ?_
  rintro e w1 ⟨rfl, b1⟩
  have B1 := Lib.hid (bl_step B0.out b1)
  clear b1 B0
  go_wp2_with (fail)
  refine (D28.out _ _ (N28.out w1)).mono ?_
  rintro e w2 ⟨rfl, b2⟩
  have B2 := Lib.hid (bl_step (bl_alloc B1.out (.cells (X28.map (Value.int .i64)).toArray 3)) b2)
  clear b2 B1 mk
  go_wp2_with (fail)
  refine (SF.out w2).mono ?_
  rintro e w3 hq
  obtain ⟨v, rfl, hown, b3⟩ : ∃ v, e = .returned (.tuple #[v, .int .i64 0]) ∧ w3.ownsRow w2.heap.size 3 1 v 2 (X2.map (Value.int .i64)) ∧ Below w2.heap.size w2 w3 := by
    obtain ⟨h, hb⟩ := hq
    rcases h with ⟨_, v, rfl, h⟩ | ⟨h, _⟩
    · exact ⟨v, rfl, h, hb⟩
    · exact absurd h (by decide)
  have B3 := Lib.hid (bl_step B2.out b3)
  have HO := Lib.hid hown
  clear b3 B2 hown hq
  go_wp2_with (fail)
  refine (S12.out _ _ (N12.out w3)).mono ?_
  rintro e w4 ⟨rfl, b4⟩
  have B34 := Lib.hid (bl_step (bl_alloc (Below.refl w3.heap.size w3) (.cells (X12.map (Value.int .i64)).toArray 3)) b4)
  have B4 := Lib.hid (bl_step B3.out B34.out)
  clear b4
  go_wp2_with (fail)
  refine (SE.out v w3 _ HO.out _ _ (bl_alloc B34.out (.cells (X2.map (Value.int .i64)).toArray 3)) (N2.out w4)).mono ?_
  rintro e w5 ⟨rfl, q, rfl⟩
  go_wp2_with (fail)
  go_ret
  exact ⟨rfl, below_drewN (bl_alloc B4.out _) q⟩
end Go.Proofs.Ytbfgpjpfhbbdfaa
