/-
  The walk of fields.write. Conditions: a field of the row of bytes.
-/
import Derived.Test.YtjeaccpocpfkgaaTwo
namespace Go.Proofs.Ytjeaccpocpfkgaa
open Go.RowKit Kit
set_option linter.unusedVariables false
/-- Bytes as cells. -/
def bys (L : List Nat) : List Value := L.map fun c : Nat => Value.int .u8 (c : Int)
theorem bys_len (L : List Nat) : (bys L).length = L.length := by simp [bys]
theorem bys_set (L : List Nat) (i c : Nat) : (bys L).set i (.int .u8 (c : Int)) = bys (L.set i c) := by simp [bys]
theorem bys_get (L : List Nat) (i : Nat) (h : i < L.length) : (bys L)[i]? = some (.int .u8 (L.getD i 0 : Nat)) := by
  simp [bys, h]
theorem clr_fin : ∀ (c : Fin 256) (j : Fin 8), bits BinOp.andNot IntKind.u8 (c.val : Int) (128 / 2 ^ j.val) = ((byteB c (7 - j.val) 0 : Nat) : Int) ∧ bits BinOp.or IntKind.u8 ((byteB c (7 - j.val) 0 : Nat) : Int) (128 / 2 ^ j.val) = ((byteB c (7 - j.val) 1 : Nat) : Int) := by decide +kernel
theorem clr_in {c j : Nat} (hc : c < 256) (hj : j < 8) : bits BinOp.andNot IntKind.u8 (c : Int) (128 / 2 ^ j) = ((byteB c (7 - j) 0 : Nat) : Int) := (clr_fin ⟨c, hc⟩ ⟨j, hj⟩).1
theorem set_in {c j : Nat} (hc : c < 256) (hj : j < 8) : bits BinOp.or IntKind.u8 ((byteB c (7 - j) 0 : Nat) : Int) (128 / 2 ^ j) = ((byteB c (7 - j) 1 : Nat) : Int) := (clr_fin ⟨c, hc⟩ ⟨j, hj⟩).2
theorem low_in (x : Nat) (hx : x < 18446744073709551616) : bits BinOp.and IntKind.u64 (x : Int) 1 = ((x % 2 : Nat) : Int) := by
  have := u64_and_nat x 1 hx (by decide)
  rw [show ((1 : Nat) : Int) = 1 from rfl] at this
  rw [this, Nat.and_one_is_mod]
/-- Bytes lie in a block, and may be written. -/
structure RowB (w : World) (B : Nat) (L : List Nat) : Prop where
  cell : ∀ i, i < L.length → w.cell? ⟨B, i, none⟩ = some (.int .u8 (L.getD i 0 : Nat))
  free : ∀ i, i < L.length → w.frozen? ⟨B, i, none⟩ = false
theorem getD_set (L : List Nat) (i j x : Nat) (hi : i < L.length) : (L.set i x).getD j 0 = if j = i then x else L.getD j 0 := by
  rw [List.getD_eq_getElem?_getD, List.getElem?_set]
  by_cases e : j = i
  · subst e; simp [hi]
  · rw [if_neg (by omega), if_neg e, List.getD_eq_getElem?_getD]
theorem RowB.set {w : World} {B : Nat} {L : List Nat} (h : RowB w B L) {i : Nat} (hi : i < L.length) (c : Nat) : RowB (w.setCell ⟨B, i, none⟩ (.int .u8 (c : Int))) B (L.set i c) := by
  refine ⟨fun j hj => ?_, fun j hj => ?_⟩
  · rw [List.length_set] at hj
    rw [getD_set L i j c hi]
    by_cases e : j = i
    · subst e; rw [if_pos rfl]; exact World.cell?_setCell_same w _ _ (h.cell j hj)
    · rw [if_neg e, World.cell?_setCell_other _ _ _ _ (by intro e'; injection e' with _ e2; exact e e2.symm)]
      exact h.cell j hj
  · rw [List.length_set] at hj
    rw [World.frozen?_setCell]; exact h.free j hj
theorem RowB.below {w w' : World} {B : Nat} {L : List Nat} (h : RowB w B L) (hB : B < w.heap.size) (hb : Below w.heap.size w w') : RowB w' B L :=
  ⟨fun i hi => (hb.cell (p := ⟨B, i, none⟩) hB).trans (h.cell i hi), fun i hi => (hb.frozen (p := ⟨B, i, none⟩) hB).trans (h.free i hi)⟩
set_option maxRecDepth 100000 in
set_option maxHeartbeats 1600000 in
theorem write_any (L : List Nat) (hL : okL L) (B cap n : Nat) (hn : n = L.length) (hn2 : n ≤ 65536) (a wd v : Nat) (hw : wd ≤ 64) (h : a + wd ≤ 8 * n) (hv : v < 18446744073709551616) (w : World) (row : RowB w B L) :
    Calls Try.prog 42 #[.slice (some ⟨B, 0, none⟩) n cap, .int .i64 a, .int .i64 wd, .int .u64 (v : Int)] w fun e w' => (∃ u, e = .returned u) ∧ RowB w' B (put L a wd v) ∧ Mod (fun k => k = B) w w' := by
  have HL := Lib.hid hL; have HN := Lib.hid hn; have R0 := Lib.hid row
  clear hL hn row
  have hwd1 : 0 ≤ wd := Nat.zero_le _
  go_enter Try.func42, Try.ntmps42
  go_wp2_with (fail)
  go_loopw [3, 8] (fun x i wr => ∃ (k : Nat), k ≤ wd ∧ i = .int .i64 ((a : Int) + (wd : Int) - 1 - (k : Int)) ∧ x = .int .u64 (v / 2 ^ k : Nat) ∧ RowB wr B (wrB L a wd v k) ∧ Mod (fun k => k = B) w wr) (fun _ i _ => (intOf i + 1).toNat)
  case atStart => exact ⟨0, by omega, by rw [show ((0 : Nat) : Int) = 0 from rfl, Int.sub_zero], by rw [Nat.pow_zero, Nat.div_one], R0.out, Mod.refl _ _⟩
  case round =>
    clear R0
    obtain ⟨k, hk, rfl, rfl, hr, hm⟩ := hrel
    have HR := Lib.hid hr; have HM := Lib.hid hm
    clear hr hm
    by_cases hlt : k < wd
    · obtain ⟨m, hme⟩ : ∃ m : Nat, m = a + wd - 1 - k := ⟨_, rfl⟩
      rw [show (a : Int) + (wd : Int) - 1 - (k : Int) = (m : Int) by omega]
      obtain ⟨x, hx⟩ : ∃ x, x = v / 2 ^ k := ⟨_, rfl⟩
      rw [← hx]
      have hx64 : x < 18446744073709551616 := by rw [hx]; exact Nat.lt_of_le_of_lt (Nat.div_le_self _ _) hv
      obtain ⟨M, hM⟩ : ∃ M, M = wrB L a wd v k := ⟨_, rfl⟩
      have hMl : M.length = n := by rw [hM, wrB_len, HN.out]
      have hMok : okL M := by rw [hM]; exact wrB_ok HL.out _ _ _ _
      obtain ⟨c, hc⟩ : ∃ c, c = M.getD (m / 8) 0 := ⟨_, rfl⟩
      have hc256 : c < 256 := by rw [hc]; exact okL_get hMok _
      have ST : Hid (∀ y, y = x % 2 → wrB L a wd v (k + 1) = M.set (m / 8) (byteB c (7 - m % 8) y)) := Lib.hid (by
        rintro y rfl
        rw [wrB, setB, ← hM, ← hme, ← hc, hx])
      rw [← hM] at HR
      have hcell := HR.out.cell (m / 8) (by omega)
      rw [← hc] at hcell
      have hfr := HR.out.free (m / 8) (by omega)
      have hBl : B < wr.heap.size := World.block_lt_of_cell? wr _ hcell
      have cl := clr_in hc256 (show m % 8 < 8 by omega)
      have se := set_in hc256 (show m % 8 < 8 by omega)
      have lo := low_in x hx64
      have b0 : (0 : Int) ≤ (m : Int) := by omega
      have b1 : (m : Int) / 8 < (n : Int) := by omega
      have hma : (a : Int) ≤ (m : Int) := by omega
      have XD : Hid (v / 2 ^ (k + 1) = x / 2) := Lib.hid (by rw [hx, Nat.pow_succ, Nat.div_div_eq_div_mul])
      have XM := Lib.hid hme
      clear hx hM hc hme
      have m8 : m / 8 < M.length := by omega
      rcases Nat.mod_two_eq_zero_or_one x with h2 | h2
      · rw [h2] at lo
        have S2 := Lib.hid (ST.out 0 h2.symm)
        clear h2
        go_wp2_with (fail)
        go_roundw
        case rel => exact ⟨k + 1, by omega, by congr 1; have := XM.out; omega, by rw [XD.out]; simp, by rw [S2.out]; exact HR.out.set m8 _, mod_at HM.out _⟩
        case measure => simp [intOf]
      · rw [h2] at lo
        have S2 := Lib.hid (ST.out 1 h2.symm)
        clear h2
        go_wp2_with (fail)
        go_roundw
        case rel => exact ⟨k + 1, by omega, by congr 1; have := XM.out; omega, by rw [XD.out]; simp, by
          rw [S2.out]
          have := (HR.out.set m8 (byteB c (7 - m % 8) 0)).set (i := m / 8) (by rw [List.length_set]; exact m8) (byteB c (7 - m % 8) 1)
          rw [List.set_set] at this
          exact this, mod_at (mod_at HM.out _) _⟩
        case measure => simp [intOf]
    · obtain rfl : k = wd := by omega
      go_wp2_with (fail)
      go_end0
      exact ⟨⟨_, rfl⟩, HR.out, HM.out⟩
end Go.Proofs.Ytjeaccpocpfkgaa
