/-
  The walks of hamming's places and word. Conditions: coded words below 2^64.
-/
import Derived.Test.YtdebfniifijjoaaDoorM02
import Derived.Deep.Cut
import Derived.OwnWalk
namespace Go.Proofs.YtdebfniifijjoaaDoor
open Go.RowKit Kit Go.Shelf
set_option linter.unusedVariables false
def plV : Array Value := #[.int .i64 3, .int .i64 5, .int .i64 6, .int .i64 7, .int .i64 9, .int .i64 10, .int .i64 11, .int .i64 12, .int .i64 13, .int .i64 14, .int .i64 15, .int .i64 17, .int .i64 18, .int .i64 19, .int .i64 20, .int .i64 21, .int .i64 22, .int .i64 23, .int .i64 24, .int .i64 25, .int .i64 26, .int .i64 27, .int .i64 28, .int .i64 29, .int .i64 30, .int .i64 31, .int .i64 33, .int .i64 34, .int .i64 35, .int .i64 36, .int .i64 37, .int .i64 38]
def zV : Array Value := (List.replicate 32 (Value.int .i64 0)).toArray
theorem zero150 (w : World) : Sem.run Tryd.prog (zeroValue 150) w = .ok (.agg zV) w := by kernel_rfl
theorem plV_list : plV = (plL.map fun p : Nat => Value.int .i64 (p : Int)).toArray := rfl
theorem build150 (w : World) : (Instr.build 150 #[(0, .int .i64 3), (1, .int .i64 5), (2, .int .i64 6), (3, .int .i64 7), (4, .int .i64 9), (5, .int .i64 10), (6, .int .i64 11), (7, .int .i64 12), (8, .int .i64 13), (9, .int .i64 14), (10, .int .i64 15), (11, .int .i64 17), (12, .int .i64 18), (13, .int .i64 19), (14, .int .i64 20), (15, .int .i64 21), (16, .int .i64 22), (17, .int .i64 23), (18, .int .i64 24), (19, .int .i64 25), (20, .int .i64 26), (21, .int .i64 27), (22, .int .i64 28), (23, .int .i64 29), (24, .int .i64 30), (25, .int .i64 31), (26, .int .i64 33), (27, .int .i64 34), (28, .int .i64 35), (29, .int .i64 36), (30, .int .i64 37), (31, .int .i64 38)]).run Tryd.prog w = .ok (.agg plV) w := by kernel_rfl
theorem plV_at (i : Nat) (hi : i < 32) : plV[i]? = some (.int .i64 (pl i)) := by
  have hl : i < plL.length := hi
  rw [plV_list]
  unfold pl
  simp [List.getD_eq_getElem?_getD, hl]
theorem plV_size : plV.size = 32 := rfl
theorem zV_size : zV.size = 32 := by simp [zV]
theorem bl_row {a b : World} {B : Nat} (h : Below B a b) {g : Nat} (hg : B ≤ g) (cs : Array Value) : Below B a (b.setRow g cs) :=
  ⟨h.os, h.tape, h.output, by simpa [World.setRow] using h.size, fun k hk => by
    rw [← h.block k hk]
    unfold World.setRow
    simp only [Array.getElem?_modify]
    rw [if_neg (by omega)]⟩
set_option maxRecDepth 10000 in
set_option maxHeartbeats 400000 in
theorem places_any (w : World) : Calls Tryd.prog 82 #[] w fun e w' => e = .returned (.agg plV) ∧ Below w.heap.size w w' := by
  have HA := Lib.hid (hp_new w (.cells zV 150))
  have HB := Lib.hid (bl_alloc (Below.refl w.heap.size w) (.cells zV 150))
  have hz := zero150
  go_enter Tryd.func82, Tryd.ntmps82
  go_upto_region 1 with (fail)
  generalize w.alloc (.cells zV 150) = w1 at HA HB ⊢
  clear hz
  have hlt : w.heap.size < w1.heap.size := lt_of_obj HA.out
  go_wp2_with (refine wpList_store_row rfl 150 _ _ rfl w.heap.size plV rfl rfl 150 _ HA.out (by rw [plV_size]; kernel_rfl) (by rw [zV_size, plV_size]) (by kernel_rfl) ?_)
  refine bodyPost_ret (results_cell_row rfl _ _ w.heap.size 150 plV (0, 0) _ rfl ?_ Tryd.underlying150 rfl (by rw [plV_size]; kernel_rfl)) rfl ⟨rfl, bl_row HB.out (Nat.le_refl _) _⟩
  exact setRow_heap _ _ _ _ _ _ HA.out
theorem run_index150 (w : World) (k : Nat) (hk : k < 32) : (Instr.index 150 (.agg plV) (.int .i64 k)).run Tryd.prog w = .ok (.int .i64 (pl k)) w := by
  have hk' : (k : Int) < 32 := by omega
  have hs : k < plV.size := hk
  have h := plV_at k hk
  generalize plV = A at *
  simp [Instr.index, run_underlying Tryd.underlying150, asIntOf, part, h, go_sem]
  omega
end Go.Proofs.YtdebfniifijjoaaDoor
/-
  The walk of hamming's word. Conditions: coded words below 2^64.
-/
namespace Go.Proofs.YtdebfniifijjoaaDoor
open Go.RowKit Kit Go.Shelf
set_option linter.unusedVariables false
theorem wdF_lt (c k : Nat) : wdF c k < 2 ^ k := lt_of_high _ _ fun n hn => by rw [wdF_bit, decide_eq_false (by omega)]; rfl
theorem wdF_lt32 (c k : Nat) (hk : k ≤ 32) : wdF c k < 4294967296 := Nat.lt_of_lt_of_le (wdF_lt c k) (Nat.le_trans (Nat.pow_le_pow_right (by omega) hk) (by decide))
/-- What a round of word reckons. -/
theorem wd_round (c k : Nat) (hc : c < 18446744073709551616) (hk : k < 32) : ∃ q b r : Nat,
    Op.shift .shr .u64 (c : Int) .i64 (pl k : Int) = pure (.int .u64 (q : Int)) ∧ bits BinOp.and IntKind.u64 (q : Int) 1 = (b : Int) ∧ b < 2 ∧ IntKind.u32.wrap (b : Int) = (b : Int) ∧
    (b : Int) * 2 ^ k % 4294967296 = (r : Int) ∧ bits BinOp.or IntKind.u32 ((wdF c k : Nat) : Int) (r : Int) = ((wdF c (k + 1) : Nat) : Int) := by
  have hp := (pl_lt ⟨k, hk⟩).1
  simp only at hp
  have hq : c / 2 ^ pl k < 18446744073709551616 := Nat.lt_of_le_of_lt (Nat.div_le_self _ _) hc
  have hb : c / 2 ^ pl k % 2 = (c.testBit (pl k)).toNat := (Nat.toNat_testBit c (pl k)).symm
  have hb2 : (c.testBit (pl k)).toNat < 2 := by cases c.testBit (pl k) <;> decide
  have hpow : 2 ^ k < 4294967296 := Nat.lt_of_lt_of_le (Nat.pow_lt_pow_right (by omega) hk) (by decide)
  have hr : (c.testBit (pl k)).toNat * 2 ^ k < 4294967296 := by
    rcases (by omega : (c.testBit (pl k)).toNat = 0 ∨ (c.testBit (pl k)).toNat = 1) with e | e <;> rw [e] <;> omega
  refine ⟨c / 2 ^ pl k, (c.testBit (pl k)).toNat, (c.testBit (pl k)).toNat * 2 ^ k, ?_, ?_, hb2, ?_, ?_, ?_⟩
  · rw [shift_shr_u64 _ _ _ (by omega) (by omega)]
    simp
  · rw [show (1 : Int) = ((1 : Nat) : Int) from rfl, bits_and_u64_nat _ _ hq (by decide), Nat.and_one_is_mod, hb]
  · rw [wrap_u32]; omega
  · have : ((c.testBit (pl k)).toNat : Int) * 2 ^ k = (((c.testBit (pl k)).toNat * 2 ^ k : Nat) : Int) := by simp
    rw [this]
    omega
  · rw [or_u32 _ _ (wdF_lt32 c k (by omega)) hr]; rfl
set_option maxHeartbeats 800000 in
theorem word_any (c : Nat) (hc : c < 18446744073709551616) (w : World) : Calls Tryd.prog 65 #[.int .u64 c] w fun e w' => e = .returned (.int .u32 (wd c)) ∧ Below w.heap.size w w' := by
  have PL := Lib.hid places_any
  have IX := Lib.hid run_index150
  have WR := Lib.hid (fun k => wd_round c k hc)
  have W0 : Hid (wd c = wdF c 32) := Lib.hid rfl
  obtain ⟨A, hA⟩ : ∃ A, A = plV := ⟨_, rfl⟩
  rw [← hA] at PL IX
  clear hA hc
  go_enter Tryd.func65, Tryd.ntmps65
  go_wp2_with (fail)
  refine (PL.out _).mono ?_
  rintro e w1 ⟨rfl, b1⟩
  have B1 := Lib.hid b1
  clear b1 PL
  go_wp2_with (fail)
  go_loopw [3, 7] (fun v i wr => ∃ k : Nat, k ≤ 32 ∧ i = .int .i64 k ∧ v = .int .u32 (wdF c k) ∧ w1 = wr) (fun _ i _ => 32 - (intOf i).toNat)
  case atStart => exact ⟨0, by omega, rfl, rfl, rfl⟩
  case round =>
    obtain ⟨k, hk, rfl, rfl, rfl⟩ := hrel
    by_cases hlt : k < 32
    · have dk : decide ((k : Int) < 32) = true := by simp; omega
      obtain ⟨q, b, r, S1, S2, hb, S3, S4, S5⟩ := WR.out k hlt
      have ix := fun w => IX.out w k hlt
      generalize pl k = p at S1 ix
      go_wp2_with (fail)
      exact ⟨⟨k + 1, by omega, by go_num, rfl, trivial⟩, by simp [intOf]; omega⟩
    · have e : k = 32 := by omega
      subst e
      have dk : decide (((32 : Nat) : Int) < 32) = false := by decide
      go_wp2_with (fail)
      go_ret
      exact ⟨by rw [W0.out]; rfl, B1.out⟩
end Go.Proofs.YtdebfniifijjoaaDoor
/-
  The walk of hamming's Encode. Conditions: words below 2^32; the table of math/bits lies as it is laid.
-/
namespace Go.Proofs.YtdebfniifijjoaaDoor
open Go.RowKit Kit Go.Shelf
set_option linter.unusedVariables false
theorem c0F_lt (x k : Nat) (hk : k ≤ 32) : c0F x k < 549755813888 := lt_of_high _ 39 fun n hn => by
  rw [c0F_bit, List.any_eq_false]
  intro i hi
  have := (pl_lt ⟨i, by have : i < k := by simpa using hi
                        omega⟩).1
  simp only at this
  simp; omega
/-- What a round of Encode's first loop reckons. -/
theorem c0_round (x k : Nat) (hx : x < 4294967296) (hk : k < 32) : ∃ q b r : Nat,
    Op.shift .shr .u32 (x : Int) .i64 (k : Int) = pure (.int .u32 (q : Int)) ∧ (x : Int) / 2 ^ k = (q : Int) ∧ bits BinOp.and IntKind.u32 (q : Int) 1 = (b : Int) ∧ b < 2 ∧ IntKind.u64.wrap (b : Int) = (b : Int) ∧
    Op.shift .shl .u64 (b : Int) .i64 (pl k : Int) = pure (.int .u64 (r : Int)) ∧ bits BinOp.or IntKind.u64 ((c0F x k : Nat) : Int) (r : Int) = ((c0F x (k + 1) : Nat) : Int) := by
  have hp := (pl_lt ⟨k, hk⟩).1
  simp only at hp
  have hq : x / 2 ^ k < 4294967296 := Nat.lt_of_le_of_lt (Nat.div_le_self _ _) hx
  have hb : x / 2 ^ k % 2 = (x.testBit k).toNat := (Nat.toNat_testBit x k).symm
  have hb2 : (x.testBit k).toNat < 2 := by cases x.testBit k <;> decide
  have hpow : 2 ^ pl k < 549755813888 := Nat.lt_of_lt_of_le (Nat.pow_lt_pow_right (by omega) hp) (by decide)
  have hr : (x.testBit k).toNat * 2 ^ pl k < 549755813888 := by
    rcases (by omega : (x.testBit k).toNat = 0 ∨ (x.testBit k).toNat = 1) with e | e <;> rw [e] <;> omega
  have hqi : (x : Int) / 2 ^ k = ((x / 2 ^ k : Nat) : Int) := by simp
  refine ⟨x / 2 ^ k, (x.testBit k).toNat, (x.testBit k).toNat * 2 ^ pl k, ?_, hqi, ?_, hb2, ?_, ?_, ?_⟩
  · rw [shift_shr_u32 _ _ _ (by omega) (by omega)]
    simp
  · rw [show (1 : Int) = ((1 : Nat) : Int) from rfl, and_u32 _ _ hq (by decide), Nat.and_one_is_mod, hb]
  · rw [IntKind.wrap_u64]; omega
  · rw [shift_shl_u64 _ _ _ (by omega) (by omega)]
    have : ((x.testBit k).toNat : Int) * 2 ^ (pl k : Int).toNat = (((x.testBit k).toNat * 2 ^ pl k : Nat) : Int) := by simp
    rw [this, IntKind.wrap_u64]
    congr 2
    omega
  · rw [bits_or_u64_nat _ _ (Nat.lt_trans (c0F_lt x k (by omega)) (by decide)) (by omega)]; rfl
theorem qF_step : ∀ s : Fin 64, ∀ k : Fin 6, qF s.val (k.val + 1) < 8589934592 ∧ (s.val &&& 2 ^ k.val ≠ 0 ↔ s.val.testBit k.val = true) := by decide +kernel
/-- What a round of Encode's second loop reckons. -/
theorem q_round (x s k : Nat) (hs : s < 64) (hx : x < 549755813888) (hk : k < 6) : ∃ a j r : Nat, (2 ^ k : Nat) = j ∧ 1 ≤ j ∧ j ≤ 32 ∧ (2 ^ (k + 1) : Nat) = 2 * j ∧
    bits BinOp.and IntKind.i64 (s : Int) (j : Int) = (a : Int) ∧ IntKind.u64.wrap ((2 : Int) ^ j) = (r : Int) ∧
    ((a ≠ 0 ∧ bits BinOp.or IntKind.u64 ((x ||| qF s k : Nat) : Int) (r : Int) = ((x ||| qF s (k + 1) : Nat) : Int)) ∨ (a = 0 ∧ x ||| qF s k = x ||| qF s (k + 1))) := by
  have hj : 2 ^ k ≤ 32 ∧ 1 ≤ 2 ^ k := by
    rcases (by omega : k = 0 ∨ k = 1 ∨ k = 2 ∨ k = 3 ∨ k = 4 ∨ k = 5) with rfl | rfl | rfl | rfl | rfl | rfl <;> decide
  obtain ⟨hq, hbit⟩ := qF_step ⟨s, hs⟩ ⟨k, hk⟩
  simp only at hq hbit
  have hpow : 2 ^ 2 ^ k < 18446744073709551616 := Nat.lt_of_lt_of_le (Nat.pow_lt_pow_right (by omega) (show 2 ^ k < 33 by omega)) (by decide)
  refine ⟨s &&& 2 ^ k, 2 ^ k, 2 ^ 2 ^ k, rfl, hj.2, hj.1, by rw [Nat.pow_succ]; omega, and_i64 _ _ (by omega) (by omega), ?_, ?_⟩
  · rw [show (2 : Int) ^ (2 ^ k) = ((2 ^ 2 ^ k : Nat) : Int) by simp, IntKind.wrap_u64]
    generalize 2 ^ 2 ^ k = y at hpow
    omega
  · by_cases h : s &&& 2 ^ k = 0
    · right
      refine ⟨h, ?_⟩
      have : s.testBit k = false := by
        cases hb : s.testBit k with
        | false => rfl
        | true => exact absurd h (hbit.2 hb)
      simp only [qF, this, Bool.toNat_false, Nat.zero_mul, Nat.or_zero]
    · left
      refine ⟨h, ?_⟩
      have ht : s.testBit k = true := hbit.1 h
      have e : qF s (k + 1) = qF s k ||| 2 ^ 2 ^ k := by simp only [qF, ht, Bool.toNat_true, Nat.one_mul]
      have hqk : qF s k < 8589934592 := by
        have : qF s k ≤ qF s (k + 1) := by rw [e]; exact Nat.left_le_or
        omega
      have hor : x ||| qF s k < 2 ^ 39 := Nat.or_lt_two_pow hx (by omega)
      rw [bits_or_u64_nat _ _ (by omega) hpow, e, Nat.or_assoc]
set_option maxHeartbeats 1600000 in
theorem enc_any (x : Nat) (hx : x < 4294967296) (w : World) (hT : Tab w) : Calls Tryd.prog 66 #[.int .u32 x] w fun e w' => e = .returned (.int .u64 (enc x)) ∧ Below w.heap.size w w' := by
  have PL := Lib.hid places_any
  have IX := Lib.hid run_index150
  have C0 := Lib.hid (fun k => c0_round x k hx)
  have HT := Lib.hid hT
  obtain ⟨x0, hx0⟩ : ∃ x0, x0 = c0F x 32 := ⟨_, rfl⟩
  have hx0l : x0 < 549755813888 := by rw [hx0]; exact c0F_lt x 32 (by omega)
  have SY := Lib.hid (fun w h => syn_any x0 (by omega) w h)
  have hsl := syn_lt x0
  have QR := Lib.hid (fun k => q_round x0 (syn x0) k hsl hx0l)
  have HX0 := Lib.hid hx0.symm
  have E1 : Hid (c1 x = x0 ||| qF (syn x0) 6) := Lib.hid (by unfold c1; rw [← hx0])
  have E2 : Hid (enc x = c1 x ||| par (c1 x)) := Lib.hid rfl
  have hc1 : c1 x < 549755813888 := by
    rw [E1.out]; exact Nat.or_lt_two_pow (n := 39) hx0l (Nat.lt_of_lt_of_le (qF_bits ⟨syn x0, hsl⟩).2.2 (by decide))
  have CN := Lib.hid (fun w => cnt_any (c1 x) (by omega) w)
  have PA := Lib.hid (par_and (c1 x))
  have OR := Lib.hid (bits_or_u64_nat (c1 x) (par (c1 x)) (by omega) (by have := par_lt (c1 x); omega))
  have WP : Hid (IntKind.u64.wrap ((par (c1 x) : Nat) : Int) = ((par (c1 x) : Nat) : Int)) := Lib.hid (by have := par_lt (c1 x); rw [IntKind.wrap_u64]; omega)
  rw [← E2.out] at OR
  generalize syn x0 = s at *
  generalize c1 x = c at *
  generalize popF c 64 = pc at CN PA
  generalize par c = pa at *
  generalize enc x = en at *
  obtain ⟨A, hA⟩ : ∃ A, A = plV := ⟨_, rfl⟩
  rw [← hA] at PL IX
  clear hA hT hx0 E2 hsl hx0l hc1
  go_enter Tryd.func66, Tryd.ntmps66
  go_wp2_with (fail)
  refine (PL.out _).mono ?_
  rintro e w1 ⟨rfl, b1⟩
  have B1 := Lib.hid b1
  clear b1 PL
  go_wp2_with (fail)
  go_loopw [3, 10] (fun v i wr => ∃ k : Nat, k ≤ 32 ∧ i = .int .i64 k ∧ v = .int .u64 (c0F x k) ∧ w1 = wr) (fun _ i _ => 32 - (intOf i).toNat)
  case atStart => exact ⟨0, by omega, rfl, rfl, rfl⟩
  case round =>
    obtain ⟨k, hk, rfl, rfl, rfl⟩ := hrel
    by_cases hlt : k < 32
    · have dk : decide ((k : Int) < 32) = true := by simp; omega
      obtain ⟨q, b, r, S1, S1', S2, hb, S3, S4, S5⟩ := C0.out k hlt
      have ix := fun w => IX.out w k hlt
      generalize pl k = p at S4 ix
      go_wp2_with (fail)
      exact ⟨⟨k + 1, by omega, by go_num, rfl, trivial⟩, by simp [intOf]; omega⟩
    · have e : k = 32 := by omega
      subst e
      have dk : decide (((32 : Nat) : Int) < 32) = false := by decide
      rw [HX0.out]
      go_wp2_with (fail)
      refine (SY.out _ (HT.out.below B1.out)).mono ?_
      rintro e w2 ⟨rfl, b2⟩
      have B2 := Lib.hid (bl_step B1.out b2)
      clear b2 SY
      go_wp2_with (fail)
      go_loopw [3, 8] (fun v i wr => ∃ k : Nat, k ≤ 6 ∧ i = .int .i64 ((2 ^ k : Nat) : Int) ∧ v = .int .u64 ((x0 ||| qF s k : Nat) : Int) ∧ w2 = wr) (fun _ i _ => 64 - (intOf i).toNat)
      case atStart => exact ⟨0, by omega, rfl, by simp [qF], rfl⟩
      case round =>
        obtain ⟨k, hk, rfl, rfl, rfl⟩ := hrel
        by_cases hlt : k < 6
        · obtain ⟨a, j, r, h1, h2, h3, h4, S1, S2, S3⟩ := QR.out k hlt
          rw [h1]
          have H4 := Lib.hid h4
          have dj : decide ((j : Int) ≤ 32) = true := by simp; omega
          clear h1 h4
          rcases S3 with ⟨ha, S3⟩ | ⟨ha, S3⟩
          · have da : ((a : Int) != 0) = true := by simp; omega
            have da' : (a != 0) = true := by simpa using ha
            clear ha
            go_wp2_with (fail)
            exact ⟨⟨k + 1, by omega, by rw [H4.out]; congr 1; omega, rfl, trivial⟩, by simp [intOf]; omega⟩
          · have S3' := Lib.hid S3
            subst ha
            clear S3
            go_wp2_with (fail)
            exact ⟨⟨k + 1, by omega, by rw [H4.out]; congr 1; omega, by rw [S3'.out], trivial⟩, by simp [intOf]; omega⟩
        · have e : k = 6 := by omega
          subst e
          rw [← E1.out]
          go_wp2_with (fail)
          refine (CN.out _).mono ?_
          rintro e _ ⟨rfl, rfl⟩
          have pa1 := PA.out; have or1 := OR.out; have wp1 := WP.out
          go_wp2_with (fail)
          go_ret
          exact ⟨rfl, B2.out⟩
end Go.Proofs.YtdebfniifijjoaaDoor
/-
  The walk of hamming's Decode. Conditions: coded words below 2^64; the table of math/bits lies as it is laid.
-/
namespace Go.Proofs.YtdebfniifijjoaaDoor
open Go.RowKit Kit Go.Shelf
set_option linter.unusedVariables false
theorem len_any (c : Nat) (h : c < 18446744073709551616) (w : World) : Calls Tryd.prog 63 #[.int .u64 c] w fun e w' => e = .returned (.int .i64 (Lib.bitLen c)) ∧ w' = w := by
  have := Any.bits_Len64 Tryd.lays129 (c : Int) w (by omega) (by omega)
  rw [Int.toNat_natCast] at this
  exact this
/-- What Decode returns at a coded word of 39 bits: the word and what it is. -/
def decV (c : Nat) : Nat × Nat := if par c = 1 ∧ syn c < 39 then (wd (c ^^^ 2 ^ syn c), 1) else if par c = 0 ∧ syn c = 0 then (wd c, 0) else (0, 2)
theorem decV_enc (x : Nat) (hx : x < 4294967296) : decV (enc x) = (x, 0) := by
  unfold decV
  rw [if_neg (by rw [enc_par]; omega), if_pos ⟨enc_par x, enc_syn x⟩, wd_enc x hx]
theorem decV_flip (x b : Nat) (hx : x < 4294967296) (hb : b < 39) : decV (enc x ^^^ 2 ^ b) = (x, 1) := by
  obtain ⟨h1, h2, _, h4⟩ := flip_syn x b hb
  unfold decV
  rw [h1, h2, if_pos ⟨rfl, hb⟩, h4, wd_enc x hx]
set_option maxHeartbeats 800000 in
theorem dec_any (c : Nat) (hc : c < 549755813888) (w : World) (hT : Tab w) : Calls Tryd.prog 45 #[.int .u64 c] w fun e w' => e = .returned (.tuple #[.int .u32 ((decV c).1 : Nat), .int .i64 ((decV c).2 : Nat), .int .i64 0]) ∧ Below w.heap.size w w' := by
  have LN := Lib.hid (fun w => len_any c (by omega) w)
  have hl : Lib.bitLen c ≤ 39 := Lib.bitLen_le c 39 (by omega) hc
  have SY := Lib.hid (fun w h => syn_any c (by omega) w h)
  have hs := syn_lt c
  have hp := par_lt c
  have HT := Lib.hid hT
  have W1 := Lib.hid (fun w => word_any c (by omega) w)
  have W2 := Lib.hid (fun w (h : syn c < 39) => word_any (c ^^^ 2 ^ syn c) (Nat.lt_trans (Nat.xor_lt_two_pow (n := 39) hc (Nat.pow_lt_pow_right (by omega) h)) (by decide)) w)
  have XR : Hid (syn c < 39 → bits BinOp.xor IntKind.u64 (c : Int) (IntKind.u64.wrap ((2 : Int) ^ syn c)) = ((c ^^^ 2 ^ syn c : Nat) : Int)) := Lib.hid (fun h => by
    have hpow : 2 ^ syn c < 549755813888 := Nat.lt_of_lt_of_le (Nat.pow_lt_pow_right (by omega) h) (by decide)
    have : IntKind.u64.wrap ((2 : Int) ^ syn c) = ((2 ^ syn c : Nat) : Int) := by
      rw [show (2 : Int) ^ syn c = ((2 ^ syn c : Nat) : Int) by simp, IntKind.wrap_u64]
      generalize 2 ^ syn c = y at hpow
      omega
    rw [this, bits_xor_u64_nat c _ (by omega) (by omega)])
  have DV : Hid (decV c = if par c = 1 ∧ syn c < 39 then (wd (c ^^^ 2 ^ syn c), 1) else if par c = 0 ∧ syn c = 0 then (wd c, 0) else (0, 2)) := Lib.hid rfl
  generalize decV c = dv at *
  generalize wd (c ^^^ 2 ^ syn c) = d1 at *
  generalize c ^^^ 2 ^ syn c = c' at *
  generalize Lib.bitLen c = l at LN hl
  generalize syn c = s at *
  generalize par c = q at *
  clear hT hc
  by_cases h1 : q = 1 ∧ s < 39
  · obtain ⟨rfl, h1⟩ := h1
    have e : dv = (d1, 1) := by rw [DV.out, if_pos ⟨rfl, h1⟩]
    subst e
    have w2 := Lib.hid (fun w => W2.out w h1)
    have xr := XR.out h1
    have ds : decide ((s : Int) < 39) = true := by simp; omega
    clear DV W1 W2 XR
    go_enter Tryd.func45, Tryd.ntmps45
    go_wp2_with (fail)
    refine (LN.out _).mono ?_
    rintro e _ ⟨rfl, rfl⟩
    go_wp2_with (fail)
    refine (SY.out _ HT.out).mono ?_
    rintro e w3 ⟨rfl, b3⟩
    have B3 := Lib.hid b3
    clear b3
    go_wp2_with (fail)
    refine (w2.out _).mono ?_
    rintro e w4 ⟨rfl, b4⟩
    have B4 := Lib.hid (bl_step B3.out b4)
    clear b4
    go_wp2_with (fail)
    go_ret3
    exact ⟨rfl, B4.out⟩
  · by_cases h2 : q = 0 ∧ s = 0
    · obtain ⟨rfl, rfl⟩ := h2
      have e : dv = (wd c, 0) := by rw [DV.out, if_neg (by omega), if_pos ⟨rfl, rfl⟩]
      subst e
      clear DV W2 XR
      go_enter Tryd.func45, Tryd.ntmps45
      go_wp2_with (fail)
      refine (LN.out _).mono ?_
      rintro e _ ⟨rfl, rfl⟩
      go_wp2_with (fail)
      refine (SY.out _ HT.out).mono ?_
      rintro e w3 ⟨rfl, b3⟩
      have B3 := Lib.hid b3
      clear b3
      go_wp2_with (fail)
      refine (W1.out _).mono ?_
      rintro e w4 ⟨rfl, b4⟩
      have B4 := Lib.hid (bl_step B3.out b4)
      clear b4
      go_wp2_with (fail)
      go_ret3
      exact ⟨rfl, B4.out⟩
    · have e : dv = (0, 2) := by rw [DV.out, if_neg h1, if_neg h2]
      subst e
      clear DV W1 W2 XR
      rcases (by omega : (q = 1 ∧ 39 ≤ s) ∨ (q = 0 ∧ s ≠ 0)) with ⟨rfl, h3⟩ | ⟨rfl, h3⟩
      · have ds : decide ((s : Int) < 39) = false := by simp; omega
        clear h1 h2
        go_enter Tryd.func45, Tryd.ntmps45
        go_wp2_with (fail)
        refine (LN.out _).mono ?_
        rintro e _ ⟨rfl, rfl⟩
        go_wp2_with (fail)
        refine (SY.out _ HT.out).mono ?_
        rintro e w3 ⟨rfl, b3⟩
        have B3 := Lib.hid b3
        clear b3
        go_wp2_with (fail)
        go_ret3
        exact ⟨rfl, B3.out⟩
      · have ds : ((s : Int) == 0) = false := by simp; omega
        have ds' : (s == 0) = false := by simpa using h3
        clear h1 h2
        go_enter Tryd.func45, Tryd.ntmps45
        go_wp2_with (fail)
        refine (LN.out _).mono ?_
        rintro e _ ⟨rfl, rfl⟩
        go_wp2_with (fail)
        refine (SY.out _ HT.out).mono ?_
        rintro e w3 ⟨rfl, b3⟩
        have B3 := Lib.hid b3
        clear b3
        go_wp2_with (fail)
        go_ret3
        exact ⟨rfl, B3.out⟩
end Go.Proofs.YtdebfniifijjoaaDoor
