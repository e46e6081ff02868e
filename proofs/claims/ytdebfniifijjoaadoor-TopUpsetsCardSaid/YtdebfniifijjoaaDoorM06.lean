/-
  The walk of crc's bytes32. Conditions: none.
-/
import Derived.Test.YtdebfniifijjoaaDoorM05
namespace Go.Proofs.YtdebfniifijjoaaDoor
open Go.RowKit Kit Go.Shelf
set_option linter.unusedVariables false
/-- Cells with words. -/
def wfn (n : Nat) (g : Nat → Nat) : Array Value := Array.ofFn (n := n) fun i => .int .u32 (g i.val)
theorem wfn_size (n : Nat) (g : Nat → Nat) : (wfn n g).size = n := by simp [wfn]
theorem wfn_get (n : Nat) (g : Nat → Nat) (i : Nat) (h : i < n) : (wfn n g)[i]? = some (.int .u32 (g i)) := by simp [wfn, h]
theorem wfn_none (n : Nat) (g : Nat → Nat) (i : Nat) (h : n ≤ i) : (wfn n g)[i]? = none := Array.getElem?_eq_none (by simp [wfn_size]; omega)
theorem wfn_congr {n : Nat} {g g' : Nat → Nat} (h : ∀ j, j < n → g j = g' j) : wfn n g = wfn n g' := by
  apply Array.ext_getElem?
  intro i
  rcases Nat.lt_or_ge i n with hi | hi
  · rw [wfn_get _ _ _ hi, wfn_get _ _ _ hi, h i hi]
  · rw [wfn_none _ _ _ hi, wfn_none _ _ _ hi]
theorem wfn_set (n : Nat) (g : Nat → Nat) (i : Nat) (v : Nat) : (wfn n g).setIfInBounds i (.int .u32 v) = wfn n (fun j => if j = i then v else g j) := by
  apply Array.ext_getElem?
  intro j
  rcases Nat.lt_or_ge j n with hj | hj
  · rw [Array.getElem?_setIfInBounds, wfn_get _ _ _ hj, wfn_size]
    by_cases e : i = j
    · subst e; rw [if_pos rfl, if_pos hj, wfn_get _ _ _ hj, if_pos rfl]
    · rw [if_neg e, wfn_get _ _ _ hj, if_neg (fun h => e h.symm)]
  · rw [wfn_none _ _ _ hj, Array.getElem?_setIfInBounds, wfn_size]
    by_cases e : i = j
    · subst e; rw [if_pos rfl, if_neg (by omega)]
    · rw [if_neg e, wfn_none _ _ _ hj]
/-- A step of the register. -/
def tbS (r : Nat) : Nat := r / 2 ^^^ r % 2 * 3988292384
def tbK (i : Nat) : Nat → Nat
  | 0 => i
  | k + 1 => tbS (tbK i k)
/-- The table. -/
def tbl (i : Nat) : Nat := tbK i 8
theorem tbS_lt (r : Nat) (h : r < 4294967296) : tbS r < 4294967296 := by
  unfold tbS
  exact Nat.xor_lt_two_pow (n := 32) (by omega) (by omega)
theorem tbK_lt (i : Nat) (h : i < 4294967296) : ∀ k, tbK i k < 4294967296
  | 0 => h
  | k + 1 => tbS_lt _ (tbK_lt i h k)
theorem tb_round (r : Nat) (h : r < 4294967296) : ∃ b : Nat, bits BinOp.and IntKind.u32 (r : Int) 1 = (b : Int) ∧ b < 2 ∧ ∃ m : Nat, IntKind.u32.wrap ((b : Int) * 3988292384) = (m : Int) ∧ bits BinOp.xor IntKind.u32 ((r : Int) / 2) (m : Int) = ((tbS r : Nat) : Int) := by
  refine ⟨r % 2, ?_, by omega, r % 2 * 3988292384, ?_, ?_⟩
  · rw [show (1 : Int) = ((1 : Nat) : Int) from rfl, and_u32 _ _ h (by decide), Nat.and_one_is_mod]
  · rw [wrap_u32]; omega
  · rw [show (r : Int) / 2 = ((r / 2 : Nat) : Int) by omega, xor_u32 _ _ (by omega) (by omega)]; rfl
theorem zero152 (w : World) : Sem.run Tryd.prog (zeroValue 152) w = .ok (.agg (wfn 256 fun _ => 0)) w := by kernel_rfl
/-- In the loop. -/
structure TB (w : World) (k : Nat) (wr : World) : Prop where
  t0 : wr.heap[w.heap.size]? = some (.cells (wfn 256 fun _ => 0) 152)
  t1 : wr.heap[w.heap.size + 1]? = some (.cells (wfn 256 fun j => if j < k then tbl j else 0) 152)
  below : Below w.heap.size w wr
theorem TB.step {w wr : World} {k : Nat} (h : TB w k wr) : TB w (k + 1) (wr.setCell ⟨w.heap.size + 1, k, none⟩ (.int .u32 ((tbl k : Nat) : Int))) where
  t0 := hp_set_ne h.t0 (by omega) _
  t1 := by
    have := hp_set (i := k) h.t1 (.int .u32 ((tbl k : Nat) : Int))
    rw [wfn_set] at this
    have e : wfn 256 (fun j => if j = k then tbl k else if j < k then tbl j else 0) = wfn 256 (fun j => if j < k + 1 then tbl j else 0) := wfn_congr fun j hj => by
      by_cases h1 : j = k
      · rw [if_pos h1, if_pos (by omega), h1]
      · rw [if_neg h1]
        by_cases h2 : j < k
        · rw [if_pos h2, if_pos (by omega)]
        · rw [if_neg h2, if_neg (by omega)]
    rw [e] at this
    exact this
  below := bl_set h.below (by omega) _
set_option maxRecDepth 100000 in
set_option maxHeartbeats 1600000 in
theorem table_any (w : World) : Calls Tryd.prog 83 #[] w fun e w' => e = .returned (.agg (wfn 256 tbl)) ∧ Below w.heap.size w w' := by
  have hz := zero152
  have H0 : Hid (TB w 0 ((w.alloc (.cells (wfn 256 fun _ => 0) 152)).alloc (.cells (wfn 256 fun _ => 0) 152))) := Lib.hid ⟨hp_old (hp_new _ _) _, by have := hp_new (w.alloc (.cells (wfn 256 fun _ => 0) 152)) (.cells (wfn 256 fun _ => 0) 152); simpa using this, bl_alloc (bl_alloc (Below.refl _ _) _) _⟩
  go_enter Tryd.func83, Tryd.ntmps83
  go_wp2_with (fail)
  obtain ⟨w2, hw2⟩ : ∃ w2, (w.alloc (.cells (wfn 256 fun _ => 0) 152)).alloc (.cells (wfn 256 fun _ => 0) 152) = w2 := ⟨_, rfl⟩
  rw [hw2] at H0 ⊢
  clear hw2 hz
  go_loopw [5] (fun i wr => ∃ k : Nat, k ≤ 256 ∧ i = .int .i64 k ∧ TB w k wr) (fun i _ => 256 - (intOf i).toNat)
  case atStart => exact ⟨0, by omega, rfl, H0.out⟩
  case round =>
    clear H0
    obtain ⟨k, hk, rfl, hB⟩ := hrel
    have HB := Lib.hid hB
    clear hB
    by_cases hlt : k < 256
    · have dk : decide ((k : Int) < 256) = true := by simp; omega
      have WK : IntKind.u32.wrap (k : Int) = (k : Int) := by rw [wrap_u32]; omega
      obtain ⟨wo, hwo⟩ : ∃ wo : World, wo = wr := ⟨_, rfl⟩
      subst hwo
      go_wp2_with (fail)
      go_loopw [3, 10] (fun v i wr => ∃ m : Nat, m ≤ 8 ∧ i = .int .i64 m ∧ v = .int .u32 (tbK k m) ∧ wo = wr) (fun _ i _ => 8 - (intOf i).toNat)
      case atStart => exact ⟨0, by omega, rfl, by first | rfl | simp [tbK], rfl⟩
      case round =>
        obtain ⟨m, hm, rfl, rfl, rfl⟩ := hrel
        by_cases hlt2 : m < 8
        · have dm : decide ((m : Int) < 8) = true := by simp; omega
          obtain ⟨b, e1, hb, mm, e2, e3⟩ := tb_round (tbK k m) (tbK_lt k (by omega) m)
          have E3 := Lib.hid (show tbS (tbK k m) = tbK k (m + 1) from rfl)
          rw [E3.out] at e3
          go_wp2_with (fail)
          exact ⟨⟨m + 1, by omega, by go_num, rfl, trivial⟩, by simp [intOf]; omega⟩
        · have e : m = 8 := by omega
          subst e
          have hc : wo.cell? ⟨w.heap.size + 1, k, none⟩ = some (.int .u32 ((if k < k then tbl k else 0 : Nat) : Int)) := cell_of HB.out.t1 (wfn_get _ _ _ hlt)
          have hf : ∀ j, wo.frozen? ⟨w.heap.size + 1, j, none⟩ = false := fun j => free_of HB.out.t1
          have NX := Lib.hid HB.out.step
          rw [show tbK k 8 = tbl k from rfl]
          go_wp2_with (fail)
          exact ⟨⟨k + 1, by omega, by go_num, NX.out⟩, by simp [intOf]; omega⟩
    · have e : k = 256 := by omega
      subst e
      have dk : decide (((256 : Nat) : Int) < 256) = false := by decide
      have HA := Lib.hid HB.out.t0
      have HB' : Hid (wr.heap[w.heap.size + 1]? = some (.cells (wfn 256 tbl) 152)) := Lib.hid (by
        have e : wfn 256 (fun j => if j < 256 then tbl j else 0) = wfn 256 tbl := wfn_congr fun j hj => if_pos hj
        rw [← e]; exact HB.out.t1)
      have HW := Lib.hid HB.out.below
      clear HB
      go_wp2_with (first | (refine wpList_load_row rfl 152 _ rfl (w.heap.size + 1) rfl 152 _ _ _ HB'.out Tryd.underlying152 rfl (by rw [wfn_size]; kernel_rfl) ?_) | (refine wpList_store_row rfl 152 _ _ rfl w.heap.size (wfn 256 tbl) rfl rfl 152 _ HA.out (by rw [wfn_size]; kernel_rfl) (by rw [wfn_size, wfn_size]) (by kernel_rfl) ?_))
      refine bodyPost_ret (results_cell_row rfl _ _ w.heap.size 152 (wfn 256 tbl) (0, 0) _ rfl ?_ Tryd.underlying152 rfl (by rw [wfn_size]; kernel_rfl)) rfl ⟨rfl, bl_row HW.out (Nat.le_refl _) _⟩
      · exact setRow_heap _ _ _ _ _ _ HA.out
end Go.Proofs.YtdebfniifijjoaaDoor
/-
  The walks of crc's Next32 and Sum32. Conditions: strings of at most 100000 bytes.
-/
namespace Go.Proofs.YtdebfniifijjoaaDoor
open Go.RowKit Kit Go.Shelf
set_option linter.unusedVariables false
def bAt (d : ByteArray) (i : Nat) : Nat := (d.data.toList.getD i 0).toNat
theorem bAt_lt (d : ByteArray) (i : Nat) : bAt d i < 256 := UInt8.toNat_lt _
theorem bAt_get (d : ByteArray) (i : Nat) (h : i < d.size) : ((d[i]'h).toNat : Int) = ((bAt d i : Nat) : Int) := by
  unfold bAt
  have : d.data.toList.getD i 0 = d[i]'h := by
    rw [List.getD_eq_getElem?_getD, List.getElem?_eq_getElem (by simpa using h)]; rfl
  rw [this]
/-- The register behind k bytes. -/
def crF (d : ByteArray) : Nat → Nat
  | 0 => 4294967295
  | k + 1 => crF d k / 256 ^^^ tbl (crF d k % 256 ^^^ bAt d k)
theorem tbl_lt (i : Nat) (h : i < 256) : tbl i < 4294967296 := tbK_lt i (by omega) 8
theorem ix_lt (a b : Nat) (hb : b < 256) : a % 256 ^^^ b < 256 := Nat.xor_lt_two_pow (n := 8) (by omega) hb
theorem crF_lt (d : ByteArray) : ∀ k, crF d k < 4294967296
  | 0 => by simp [crF]
  | k + 1 => by
    have := crF_lt d k
    simp only [crF]
    exact Nat.xor_lt_two_pow (n := 32) (by omega) (tbl_lt _ (ix_lt _ _ (bAt_lt d k)))
/-- The checksum. -/
def crc (d : ByteArray) : Nat := 4294967295 - crF d d.size
theorem crc_lt (d : ByteArray) : crc d < 4294967296 := by unfold crc; omega
theorem wrap_u8 (n : Int) : IntKind.u8.wrap n = n % 256 := by simp [IntKind.wrap, IntKind.bits, IntKind.signed]
theorem xor_u8 (a b : Nat) (ha : a < 256) (hb : b < 256) : bits .xor .u8 (a : Int) (b : Int) = ((a ^^^ b : Nat) : Int) := by
  have hx : a ^^^ b < 2 ^ 8 := Nat.xor_lt_two_pow (by omega) (by omega)
  have h1 : (BitVec.ofInt 8 (a : Int)).toNat = a := by
    rw [BitVec.ofInt_natCast, BitVec.toNat_ofNat]; exact Nat.mod_eq_of_lt (by omega)
  have h2 : (BitVec.ofInt 8 (b : Int)).toNat = b := by
    rw [BitVec.ofInt_natCast, BitVec.toNat_ofNat]; exact Nat.mod_eq_of_lt (by omega)
  show IntKind.u8.wrap ((BitVec.ofInt 8 (a : Int) ^^^ BitVec.ofInt 8 (b : Int)).toNat : Int) = _
  rw [BitVec.toNat_xor, h1, h2, wrap_u8]
  omega
theorem cr_round (r y : Nat) (hr : r < 4294967296) (hy : y < 256) : ∃ p q x : Nat, p < 256 ∧ IntKind.u8.wrap (r : Int) = (p : Int) ∧ bits BinOp.xor IntKind.u8 (p : Int) (y : Int) = (q : Int) ∧ q < 256 ∧ q = r % 256 ^^^ y ∧
    bits BinOp.xor IntKind.u32 ((r : Int) / 256) ((tbl q : Nat) : Int) = ((r / 256 ^^^ tbl (r % 256 ^^^ y) : Nat) : Int) := by
  refine ⟨r % 256, r % 256 ^^^ y, 0, by omega, ?_, ?_, ix_lt _ _ hy, rfl, ?_⟩
  · rw [wrap_u8]; omega
  · exact xor_u8 _ _ (by omega) hy
  · rw [show (r : Int) / 256 = ((r / 256 : Nat) : Int) by omega, xor_u32 _ _ (by omega) (tbl_lt _ (ix_lt _ _ hy))]
theorem not_u32 (r : Nat) (hr : r < 4294967296) : bits BinOp.xor IntKind.u32 IntKind.u32.max (r : Int) = ((4294967295 - r : Nat) : Int) := by
  rw [show IntKind.u32.max = ((4294967295 : Nat) : Int) from rfl, xor_u32 _ _ (by decide) hr]
  congr 1
  apply Nat.eq_of_testBit_eq
  intro i
  have e1 : (4294967295 : Nat) = 2 ^ 32 - (0 + 1) := rfl
  have e2 : 4294967295 - r = 2 ^ 32 - (r + 1) := by omega
  rw [Nat.testBit_xor, e2, Nat.testBit_two_pow_sub_succ hr, e1, Nat.testBit_two_pow_sub_succ (by omega)]
  rcases Nat.lt_or_ge i 32 with h | h
  · simp [h]
  · have : r.testBit i = false := high r 32 i hr h
    simp [this]
set_option maxRecDepth 100000 in
set_option maxHeartbeats 1600000 in
theorem next_any (d : ByteArray) (hd : d.size ≤ 100000) (w : World) : Calls Tryd.prog 67 #[.int .u32 0, .string d] w fun e w' => e = .returned (.int .u32 (crc d)) ∧ Below w.heap.size w w' := by
  have TA := Lib.hid table_any
  have hz := zero152
  have CR := Lib.hid (fun k => cr_round (crF d k) (bAt d k) (crF_lt d k) (bAt_lt d k))
  have CE : Hid (crc d = 4294967295 - crF d d.size) := Lib.hid rfl
  go_enter Tryd.func67, Tryd.ntmps67
  go_wp2_with (fail)
  refine (TA.out w).mono ?_
  rintro e w1 ⟨rfl, b1⟩
  have B1 := Lib.hid b1
  clear b1 TA
  go_wp2_with (refine wpList_store_row rfl 152 _ _ rfl w1.heap.size (wfn 256 tbl) rfl rfl 152 _ (hp_new w1 (.cells (wfn 256 fun _ => 0) 152)) (by rw [wfn_size]; kernel_rfl) (by rw [wfn_size, wfn_size]) (by kernel_rfl) ?_)
  obtain ⟨w2, hw2⟩ : ∃ w2, (w1.alloc (.cells (wfn 256 fun _ => 0) 152)).setRow w1.heap.size (wfn 256 tbl) = w2 := ⟨_, rfl⟩
  have R2 : Hid (w2.heap[w1.heap.size]? = some (.cells (wfn 256 tbl) 152)) := Lib.hid (by rw [← hw2]; exact setRow_heap _ _ _ _ _ _ (hp_new w1 (.cells (wfn 256 fun _ => 0) 152)))
  have B2 : Hid (Below w.heap.size w w2) := Lib.hid (by rw [← hw2]; exact bl_row (bl_alloc B1.out _) B1.out.size _)
  rw [hw2]
  obtain ⟨g, hg⟩ : ∃ g, w1.heap.size = g := ⟨_, rfl⟩
  rw [hg] at R2 ⊢
  clear hw2 hg hz
  go_loopw [0, 12] (fun v i wr => ∃ k : Nat, k ≤ d.size ∧ i = .int .i64 k ∧ v = .int .u32 (crF d k) ∧ w2 = wr) (fun _ i _ => d.size - (intOf i).toNat)
  case atStart => exact ⟨0, by omega, rfl, by first | rfl | simp [crF], rfl⟩
  case round =>
    obtain ⟨k, hk, rfl, rfl, rfl⟩ := hrel
    by_cases hlt : k < d.size
    · have dk : decide ((k : Int) < (d.size : Int)) = true := by simp; omega
      have dk' : decide (k < d.size) = true := by simp; omega
      obtain ⟨p, q, x, hp, e1, e2, hq, hq2, e3⟩ := CR.out k
      have BG := bAt_get d k hlt
      have bl := bAt_lt d k
      have c0 : w2.cell? ⟨g, q, none⟩ = some (.int .u32 ((tbl q : Nat) : Int)) := cell_of R2.out (wfn_get _ _ _ hq)
      have E4 := Lib.hid (show (crF d k / 256 ^^^ tbl (crF d k % 256 ^^^ bAt d k)) = crF d (k + 1) from rfl)
      rw [E4.out] at e3
      clear hq2
      go_wp2_with (fail)
      exact ⟨⟨k + 1, by omega, by go_num, by first | rfl | (rw [e3]), trivial⟩, by simp [intOf]; omega⟩
    · have e : k = d.size := by omega
      have ce := CE.out
      rw [← e] at ce
      have cl := crF_lt d k
      have dk : decide ((k : Int) < (d.size : Int)) = false := by simp; omega
      have dk' : decide (k < d.size) = false := by simp; omega
      generalize crF d k = r at *
      clear e
      go_wp2_with (fail)
      go_ret
      exact ⟨by rw [ce, ← not_u32 r cl]; rfl, B2.out⟩
theorem crc_any (d : ByteArray) (hd : d.size ≤ 100000) (w : World) : Calls Tryd.prog 48 #[.string d] w fun e w' => e = .returned (.int .u32 (crc d)) ∧ Below w.heap.size w w' := by
  have NX := Lib.hid (next_any d hd w)
  clear hd
  go_enter Tryd.func48, Tryd.ntmps48
  go_wp2_with (fail)
  refine NX.out.mono ?_
  rintro e w3 ⟨rfl, b3⟩
  have B3 := Lib.hid b3
  clear b3
  go_wp2_with (fail)
  go_ret
  exact ⟨rfl, B3.out⟩
end Go.Proofs.YtdebfniifijjoaaDoor
