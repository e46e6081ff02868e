/-
  DERIVED: THE SHELF's CONTRACTS AT THIS DUMP, IN PLAIN WORDS (tools/lay-plain.mjs out of 'YtdebfniifijjoaaDoorShelf.lean', which tools/lay-shelf.mjs wrote): THE SAME DECLARATIONS UNDER THE SAME NAMES: 'import', 'namespace', 'open', 'def', 'theorem' AND NOTHING ELSE: no command of the shelf's: FOR A HAND-IN. Each laying: the table of numbers ('.._ren') and one theorem, a field a fact of the dump's own or the kernel's comparison; each contract: ONE APPLICATION.
-/
import Derived.Shelf.Strconv.Itoa0
import Derived.Shelf.Spec.TrailingZeros
import Derived.Test.YtdebfniifijjoaaDoorProg
import Derived.Test.YtdebfniifijjoaaDoorM01
namespace Go.Proofs
open Go.Shelf
def Tryd.lays129_ren : Go.Shelf.Ren := ⟨fun | 129 => 63 | n => n, fun | 53 => 80 | 3 => 3 | 4 => 4 | 46 => 148 | 5 => 5 | 9 => 9 | n => n, fun | n => n⟩
theorem Tryd.lays129 : Go.Proofs.Lays.n129 Tryd.prog Tryd.lays129_ren := {
  mixed := by kernel_rfl
  f129 := Tryd.func63.trans (congrArg some (by kernel_rfl))
  t3 := Tryd.underlying3
  a3 := Tryd.isAgg3
  z3 := Tryd.sizeOf3
  v3 := Tryd.zeroValue3
  t4 := Tryd.underlying4
  a4 := Tryd.isAgg4
  z4 := Tryd.sizeOf4
  v4 := Tryd.zeroValue4
  t5 := Tryd.underlying5
  a5 := Tryd.isAgg5
  z5 := Tryd.sizeOf5
  v5 := Tryd.zeroValue5
  t9 := Tryd.underlying9
  a9 := Tryd.isAgg9
  z9 := Tryd.sizeOf9
  v9 := Tryd.zeroValue9
  t46 := Tryd.underlying148
  a46 := Tryd.isAgg148
  z46 := Tryd.sizeOf148
  v46 := Tryd.zeroValue148
  t53 := Tryd.underlying80
  a53 := Tryd.isAgg80
  z53 := Tryd.sizeOf80
  v53 := Tryd.zeroValue80 }
def Tryd.lays29_ren : Go.Shelf.Ren := ⟨fun | 29 => 89 | n => n, fun | 22 => 80 | 3 => 3 | 4 => 4 | 25 => 148 | 54 => 160 | 0 => 0 | 5 => 5 | n => n, fun | 1 => 0 | n => n⟩
theorem Tryd.lays29 : Go.Proofs.Lays7.n29 Tryd.prog Tryd.lays29_ren := {
  mixed := by kernel_rfl
  f29 := Tryd.func89.trans (congrArg some (by kernel_rfl))
  t0 := Tryd.underlying0
  a0 := Tryd.isAgg0
  z0 := Tryd.sizeOf0
  v0 := Tryd.zeroValue0
  i0 := by kernel_rfl
  t3 := Tryd.underlying3
  a3 := Tryd.isAgg3
  z3 := Tryd.sizeOf3
  v3 := Tryd.zeroValue3
  i3 := by kernel_rfl
  t4 := Tryd.underlying4
  a4 := Tryd.isAgg4
  z4 := Tryd.sizeOf4
  v4 := Tryd.zeroValue4
  i4 := by kernel_rfl
  t5 := Tryd.underlying5
  a5 := Tryd.isAgg5
  z5 := Tryd.sizeOf5
  v5 := Tryd.zeroValue5
  i5 := by kernel_rfl
  t22 := Tryd.underlying80
  a22 := Tryd.isAgg80
  z22 := Tryd.sizeOf80
  v22 := Tryd.zeroValue80
  i22 := by kernel_rfl
  t25 := Tryd.underlying148
  a25 := Tryd.isAgg148
  z25 := Tryd.sizeOf148
  v25 := Tryd.zeroValue148
  i25 := by kernel_rfl
  t54 := Tryd.underlying160
  a54 := Tryd.isAgg160
  z54 := Tryd.sizeOf160
  g1 := by kernel_rfl }
end Go.Proofs
/-
  The walk of math/bits.OnesCount64. Conditions: none.
-/
namespace Go.Proofs.YtdebfniifijjoaaDoor
open Go.RowKit Kit
set_option linter.unusedVariables false
theorem and_lit (x : Int) (a n : Nat) (k : Int) (hx : x = (a : Int)) (hk : k = (n : Int)) (ha : a < 18446744073709551616) (hn : n < 18446744073709551616) : bits BinOp.and IntKind.u64 x k = ((a &&& n : Nat) : Int) := by
  rw [hx, hk]; exact bits_and_u64_nat a n ha hn
theorem wrap_sum (x y : Int) (a b : Nat) (hx : x = (a : Int)) (hy : y = (b : Int)) (h : a + b < 18446744073709551616) : IntKind.u64.wrap (x + y) = ((a + b : Nat) : Int) := by
  rw [hx, hy, IntKind.wrap_u64]; omega
/-- The steps as numbers. -/
structure PopS (c a1 a2 y1 b1 b2 y2 z y3 y4 y5 y6 : Nat) : Prop where
  A1 : bits BinOp.and IntKind.u64 ((c : Int) / 2) 6148914691236517205 = (a1 : Int)
  A2 : bits BinOp.and IntKind.u64 (c : Int) 6148914691236517205 = (a2 : Int)
  Y1 : IntKind.u64.wrap ((a1 : Int) + (a2 : Int)) = (y1 : Int)
  B1 : bits BinOp.and IntKind.u64 ((y1 : Int) / 4) 3689348814741910323 = (b1 : Int)
  B2 : bits BinOp.and IntKind.u64 (y1 : Int) 3689348814741910323 = (b2 : Int)
  Y2 : IntKind.u64.wrap ((b1 : Int) + (b2 : Int)) = (y2 : Int)
  Z : IntKind.u64.wrap ((y2 : Int) / 16 + (y2 : Int)) = (z : Int)
  Y3 : bits BinOp.and IntKind.u64 (z : Int) 1085102592571150095 = (y3 : Int)
  Y4 : IntKind.u64.wrap ((y3 : Int) + (y3 : Int) / 256) = (y4 : Int)
  Y5 : IntKind.u64.wrap ((y4 : Int) + (y4 : Int) / 65536) = (y5 : Int)
  Y6 : IntKind.u64.wrap ((y5 : Int) + (y5 : Int) / 4294967296) = (y6 : Int)
  C : IntKind.i64.wrap (y6 : Int) = (y6 : Int)
  D : bits BinOp.and IntKind.i64 (y6 : Int) 127 = ((popF c 64 : Nat) : Int)
theorem lit1 : (6148914691236517205 : Int) = ((6148914691236517205 : Nat) : Int) := rfl
theorem lit2 : (3689348814741910323 : Int) = ((3689348814741910323 : Nat) : Int) := rfl
theorem lit3 : (1085102592571150095 : Int) = ((1085102592571150095 : Nat) : Int) := rfl
theorem popS (c : Nat) (h : c < 18446744073709551616) : ∃ a1 a2 y1 b1 b2 y2 z y3 y4 y5 y6, PopS c a1 a2 y1 b1 b2 y2 z y3 y4 y5 y6 := by
  obtain ⟨q3, q4, q5, q6, q7⟩ := pop_all c h _ _ _ _ _ _ rfl rfl rfl rfl rfl rfl
  have l1 : (c / 2 &&& 6148914691236517205) ≤ 6148914691236517205 := Nat.and_le_right
  have l2 : (c &&& 6148914691236517205) ≤ 6148914691236517205 := Nat.and_le_right
  obtain ⟨a1, e1⟩ : ∃ a1, a1 = c / 2 &&& 6148914691236517205 := ⟨_, rfl⟩
  obtain ⟨a2, e2⟩ : ∃ a2, a2 = c &&& 6148914691236517205 := ⟨_, rfl⟩
  rw [← e1, ← e2] at q3 q4 q5 q6 q7
  rw [← e1] at l1
  rw [← e2] at l2
  obtain ⟨y1, f1⟩ : ∃ y1, y1 = a1 + a2 := ⟨_, rfl⟩
  rw [← f1] at q3 q4 q5 q6 q7
  have l3 : (y1 / 4 &&& 3689348814741910323) ≤ 3689348814741910323 := Nat.and_le_right
  have l4 : (y1 &&& 3689348814741910323) ≤ 3689348814741910323 := Nat.and_le_right
  obtain ⟨b1, e3⟩ : ∃ b1, b1 = y1 / 4 &&& 3689348814741910323 := ⟨_, rfl⟩
  obtain ⟨b2, e4⟩ : ∃ b2, b2 = y1 &&& 3689348814741910323 := ⟨_, rfl⟩
  rw [← e3, ← e4] at q3 q4 q5 q6 q7
  rw [← e3] at l3
  rw [← e4] at l4
  obtain ⟨y2, f2⟩ : ∃ y2, y2 = b1 + b2 := ⟨_, rfl⟩
  rw [← f2] at q3 q4 q5 q6 q7
  obtain ⟨z, f3⟩ : ∃ z, z = y2 / 16 + y2 := ⟨_, rfl⟩
  rw [← f3] at q3 q4 q5 q6 q7
  obtain ⟨y3, e5⟩ : ∃ y3, y3 = z &&& 1085102592571150095 := ⟨_, rfl⟩
  rw [← e5] at q3 q4 q5 q6 q7
  obtain ⟨y4, f4⟩ : ∃ y4, y4 = y3 + y3 / 256 := ⟨_, rfl⟩
  rw [← f4] at q4 q5 q6 q7
  obtain ⟨y5, f5⟩ : ∃ y5, y5 = y4 + y4 / 65536 := ⟨_, rfl⟩
  rw [← f5] at q5 q6 q7
  obtain ⟨y6, f6⟩ : ∃ y6, y6 = y5 + y5 / 4294967296 := ⟨_, rfl⟩
  rw [← f6] at q6 q7
  have k1 : y1 < 18446744073709551616 := by omega
  have k2 : z < 18446744073709551616 := by omega
  refine ⟨a1, a2, y1, b1, b2, y2, z, y3, y4, y5, y6, ?_⟩
  constructor
  · rw [and_lit _ (c / 2) _ _ (by omega) lit1 (by omega) (by decide), e1]
  · rw [and_lit _ c _ _ rfl lit1 h (by decide), e2]
  · rw [wrap_sum _ _ a1 a2 rfl rfl (by omega), f1]
  · rw [and_lit _ (y1 / 4) _ _ (by omega) lit2 (by omega) (by decide), e3]
  · rw [and_lit _ y1 _ _ rfl lit2 k1 (by decide), e4]
  · rw [wrap_sum _ _ b1 b2 rfl rfl (by omega), f2]
  · rw [wrap_sum _ _ (y2 / 16) y2 (by omega) rfl (by omega), f3]
  · rw [and_lit _ z _ _ rfl lit3 k2 (by decide), e5]
  · rw [wrap_sum _ _ y3 (y3 / 256) rfl (by omega) (by omega), f4]
  · rw [wrap_sum _ _ y4 (y4 / 65536) rfl (by omega) (by omega), f5]
  · rw [wrap_sum _ _ y5 (y5 / 4294967296) rfl (by omega) (by omega), f6]
  · exact IntWalk.i64_in _ (by omega)
  · rw [← q7, show (127 : Int) = ((127 : Nat) : Int) from rfl, and_i64 _ _ q6 (by decide)]; exact congrArg _ (Nat.and_two_pow_sub_one_eq_mod y6 7)
set_option maxHeartbeats 400000 in
theorem cnt_any (c : Nat) (h : c < 18446744073709551616) (w : World) : Calls Tryd.prog 81 #[.int .u64 c] w fun e w' => e = .returned (.int .i64 ((popF c 64 : Nat) : Int)) ∧ w = w' := by
  obtain ⟨a1, a2, y1, b1, b2, y2, z, y3, y4, y5, y6, A1, A2, Y1, B1, B2, Y2, Z, Y3, Y4, Y5, Y6, C, D⟩ := popS c h
  clear h
  generalize popF c 64 = r at D
  go_enter Tryd.func81, Tryd.ntmps81
  go_wp2_with (fail)
  go_ret
  exact ⟨rfl, rfl⟩
end Go.Proofs.YtdebfniifijjoaaDoor
/-
  The walks of hamming's ones and syndrome. Conditions: coded words below 2^64; the table of math/bits lies as it is laid.
-/
namespace Go.Proofs.YtdebfniifijjoaaDoor
open Go.RowKit Kit Go.Shelf
set_option linter.unusedVariables false
def Tab (w : World) : Prop := TabAt 0 Lib.deBruijn64tab w
theorem tz_any (x : Nat) (hx : x < 18446744073709551616) (w : World) (hT : Tab w) : Calls Tryd.prog 89 #[.int .u64 x] w fun e w' => e = .returned (.int .i64 (Lib.ctz 64 x)) ∧ w' = w :=
  Any7.bits_TrailingZeros64 Tryd.lays29 x hx w (fun _ => hT)
theorem zero3 (w : World) : Sem.run Tryd.prog (zeroValue 3) w = .ok (.int .i64 0) w := by kernel_rfl
theorem clos80 (i s : Nat) (hi : i < 64) (hs : s < 64) (b : Nat) (w : World) (hb : w.heap[b]? = some (.cells #[.int .i64 s] 3)) :
    Calls Tryd.prog 80 #[.int .i64 i, .pointer (some ⟨b, 0, none⟩)] w fun e w' => e = .returned (.tuple #[]) ∧ (w'.heap[b]? = some (.cells #[.int .i64 ((s ^^^ i : Nat) : Int)] 3) ∧ Mod (fun k => k = b) w w') := by
  have c0 : w.cell? ⟨b, 0, none⟩ = some (.int .i64 s) := cell_of hb rfl
  have f0 : w.frozen? ⟨b, 0, none⟩ = false := free_of hb
  have X := xor_i64 s i (by omega) (by omega)
  have HS : Hid ((w.setCell ⟨b, 0, none⟩ (.int .i64 ((s ^^^ i : Nat) : Int))).heap[b]? = some (.cells #[.int .i64 ((s ^^^ i : Nat) : Int)] 3)) := Lib.hid (by have := hp_set (i := 0) hb (.int .i64 ((s ^^^ i : Nat) : Int)); simpa using this)
  generalize s ^^^ i = r at X HS
  clear hb
  go_enter Tryd.func80, Tryd.ntmps80
  go_wp2_with (fail)
  go_end0
  exact ⟨rfl, HS.out, mod_at (Mod.refl _ _) _⟩
/-- The number without its lowest bit. -/
theorem low_off (c : Nat) (h0 : c ≠ 0) (h : c < 18446744073709551616) : c &&& (c - 1) = c ^^^ 2 ^ Lib.ctz 64 c ∧ c &&& (c - 1) < c ∧ Lib.ctz 64 c < 64 := by
  have e : Lib.ctz 64 c = Lib.ctzFrom 64 c := by simp [Lib.ctz, h0]
  obtain ⟨m, hm, hk⟩ := Lib.ctzFrom_spec 64 c (by omega) h
  rw [e]
  generalize Lib.ctzFrom 64 c = t at hm hk
  have hp : 0 < 2 ^ t := Nat.two_pow_pos t
  have e1 : c - 1 = 2 ^ t * (2 * m) + (2 ^ t - 1) := by rw [hm, Nat.mul_add]; omega
  have key : c &&& (c - 1) = 2 ^ t * (2 * m) := by
    apply Nat.eq_of_testBit_eq
    intro j
    have b1 : c.testBit j = if j < t then false else (2 * m + 1).testBit (j - t) := by
      have := Nat.testBit_two_pow_mul_add (2 * m + 1) (b := 0) (i := t) (by omega) j
      rw [Nat.add_zero, ← hm] at this
      rw [this]; simp
    have b2 := Nat.testBit_two_pow_mul_add (2 * m) (b := 2 ^ t - 1) (i := t) (by omega) j
    have b3 := Nat.testBit_two_pow_mul_add (2 * m) (b := 0) (i := t) (by omega) j
    rw [Nat.add_zero] at b3
    rw [Nat.testBit_and, b1, e1, b2, b3]
    split
    · simp
    · cases hj : j - t with
      | zero => simp
      | succ n => rw [Nat.testBit_succ, Nat.testBit_succ, show (2 * m + 1) / 2 = m by omega, show 2 * m / 2 = m by omega]; simp
  have x : c ^^^ 2 ^ t = 2 ^ t * (2 * m) := by
    apply Nat.eq_of_testBit_eq
    intro j
    have b1 : c.testBit j = if j < t then false else (2 * m + 1).testBit (j - t) := by
      have := Nat.testBit_two_pow_mul_add (2 * m + 1) (b := 0) (i := t) (by omega) j
      rw [Nat.add_zero, ← hm] at this
      rw [this]; simp
    have b3 := Nat.testBit_two_pow_mul_add (2 * m) (b := 0) (i := t) (by omega) j
    rw [Nat.add_zero] at b3
    rw [Nat.testBit_xor, b1, Nat.testBit_two_pow, b3]
    rcases Nat.lt_trichotomy j t with hj | hj | hj
    · rw [if_pos hj, if_pos hj, decide_eq_false (by omega)]; simp
    · subst hj; simp
    · rw [if_neg (by omega), if_neg (by omega), decide_eq_false (by omega)]
      obtain ⟨n, hn⟩ : ∃ n, j - t = n + 1 := ⟨j - t - 1, by omega⟩
      rw [hn, Nat.testBit_succ, Nat.testBit_succ, show (2 * m + 1) / 2 = m by omega, show 2 * m / 2 = m by omega]; simp
  refine ⟨by rw [key, x], ?_, hk⟩
  rw [key, hm, Nat.mul_add]; omega
theorem syn_off (c : Nat) (h0 : c ≠ 0) (h : c < 18446744073709551616) (a : Nat) : (a ^^^ Lib.ctz 64 c) ^^^ syn (c &&& (c - 1)) = a ^^^ syn c := by
  obtain ⟨h1, _, h3⟩ := low_off c h0 h
  rw [h1]
  unfold syn
  rw [synF_xor, synF_pow, if_pos h3]
  generalize synF c 64 = q
  generalize Lib.ctz 64 c = t
  apply Nat.eq_of_testBit_eq
  intro j
  simp only [Nat.testBit_xor]
  cases a.testBit j <;> cases q.testBit j <;> cases t.testBit j <;> rfl
theorem syn_zero : syn 0 = 0 := by decide +kernel
theorem Tab.mod {w w' : World} {b : Nat} (h : Tab w) (hb : b ≠ 0) (hm : Mod (fun k => k = b) w w') : Tab w' := fun j hj => by
  have h1 := h j hj
  have hlt := World.block_lt_of_cell? w _ h1
  rw [hm.cell hlt (fun e => hb e.symm)]; exact h1
set_option maxHeartbeats 800000 in
theorem ones_any (c0 : Nat) (h : c0 < 18446744073709551616) (b : Nat) (hb : b ≠ 0) (w : World) (hT : Tab w) (hw : w.heap[b]? = some (.cells #[.int .i64 0] 3)) :
    Calls Tryd.prog 79 #[.int .u64 c0, .func (.func 80) #[] #[.pointer (some ⟨b, 0, none⟩)]] w fun e w' => e = .returned (.tuple #[]) ∧ (w'.heap[b]? = some (.cells #[.int .i64 (syn c0)] 3) ∧ Mod (fun k => k = b) w w') := by
  have HT := Lib.hid hT
  have HW := Lib.hid hw
  have H := Lib.hid h
  clear hT hw h
  go_enter Tryd.func79, Tryd.ntmps79
  go_wp2_with (fail)
  go_loopw [0] (fun v wr => ∃ c s : Nat, v = .int .u64 c ∧ c < 18446744073709551616 ∧ s < 64 ∧ s ^^^ syn c = syn c0 ∧ wr.heap[b]? = some (.cells #[.int .i64 s] 3) ∧ Mod (fun k => k = b) w wr) (fun v _ => (intOf v).toNat)
  case atStart => exact ⟨c0, 0, rfl, H.out, by omega, by simp, HW.out, Mod.refl _ _⟩
  case round =>
    obtain ⟨c, s, rfl, hc, hs, he, hB, hM⟩ := hrel
    have HE := Lib.hid he; have HB := Lib.hid hB; have HM := Lib.hid hM
    clear he hB hM
    by_cases h0 : c = 0
    · subst h0
      go_wp2_with (fail)
      go_end0
      have e := HE.out
      rw [syn_zero, Nat.xor_zero] at e
      exact ⟨rfl, by rw [← e]; exact HB.out, HM.out⟩
    · have g0 : ((c : Int) != 0) = true := by simp; omega
      have g1 : (c != 0) = true := by simpa using h0
      obtain ⟨l1, l2, l3⟩ := low_off c h0 hc
      have SO := Lib.hid (syn_off c h0 hc s)
      have TZ := Lib.hid (tz_any c hc wr (HT.out.mod hb HM.out))
      have CA := Lib.hid (fun w hb => clos80 (Lib.ctz 64 c) s l3 hs b w hb)
      have hx64 : s ^^^ Lib.ctz 64 c < 64 := Nat.xor_lt_two_pow (n := 6) hs l3
      have W1 : IntKind.u64.wrap ((c : Int) - 1) = ((c - 1 : Nat) : Int) := by rw [IntKind.wrap_u64]; omega
      have A1 := bits_and_u64_nat c (c - 1) hc (by omega)
      generalize c &&& (c - 1) = c' at A1 SO l2
      have HX := Lib.hid hx64
      generalize s ^^^ Lib.ctz 64 c = s' at CA SO HX
      generalize Lib.ctz 64 c = t at TZ CA
      clear l1 l3 hx64 h0
      go_wp2_with (fail)
      refine TZ.out.mono ?_
      rintro e _ ⟨rfl, rfl⟩
      go_wp2_with (fail)
      refine (CA.out _ HB.out).mono ?_
      rintro e w5 ⟨rfl, b5, m5⟩
      have B5 := Lib.hid b5; have M5 := Lib.hid m5
      clear b5 m5
      go_wp2_with (fail)
      exact ⟨⟨c', s', rfl, by omega, HX.out, SO.out.trans HE.out, B5.out, HM.out.trans M5.out (fun _ _ h => h)⟩, by simp [intOf]; omega⟩
theorem popF_le (c : Nat) : ∀ k, popF c k ≤ k
  | 0 => by simp [popF]
  | k + 1 => by have := popF_le c k; simp only [popF]; split <;> omega
theorem par_and (c : Nat) : bits BinOp.and IntKind.i64 ((popF c 64 : Nat) : Int) 1 = ((par c : Nat) : Int) := by
  have := popF_le c 64
  rw [show (1 : Int) = ((1 : Nat) : Int) from rfl, and_i64 _ _ (by omega) (by decide), Nat.and_one_is_mod]; rfl
theorem Tab.pos {w : World} (h : Tab w) : 0 < w.heap.size := World.block_lt_of_cell? w _ (h 0 (by decide))
theorem Tab.below {w w' : World} (h : Tab w) (hb : Below w.heap.size w w') : Tab w' := fun j hj => by
  have h1 := h j hj
  rw [(bcell hb).1 0 _ h.pos]; exact h1
set_option maxHeartbeats 400000 in
theorem syn_any (c : Nat) (h : c < 18446744073709551616) (w : World) (hT : Tab w) : Calls Tryd.prog 64 #[.int .u64 c] w fun e w' => e = .returned (.tuple #[.int .i64 (syn c), .int .i64 (par c)]) ∧ Below w.heap.size w w' := by
  have h0 := hT.pos
  have HA := Lib.hid (bl_alloc (Below.refl w.heap.size w) (.cells #[.int .i64 0] 3))
  have ON := Lib.hid (ones_any c h w.heap.size (by omega) (w.alloc (.cells #[.int .i64 0] 3)) (hT.below HA.out) (hp_new _ _))
  have CN := Lib.hid (fun w => cnt_any c h w)
  have PA := par_and c
  generalize popF c 64 = pc at CN PA
  generalize par c = q at PA
  generalize syn c = s at ON
  clear hT h
  go_enter Tryd.func64, Tryd.ntmps64
  go_wp2_with (fail)
  refine ON.out.mono ?_
  rintro e w5 ⟨rfl, b5, m5⟩
  have B5 := Lib.hid (bl_mod HA.out m5 (Nat.le_refl _))
  have c5 : w5.cell? ⟨w.heap.size, 0, none⟩ = some (.int .i64 s) := cell_of b5 rfl
  have hl5 : w.heap.size < w5.heap.size := lt_of_obj b5
  clear b5 m5 ON HA
  go_wp2_with (fail)
  refine region_calm (by kernel_rfl) (by kernel_rfl) ?_
  repeat (quiet_step ((go_at_call 81; exact calm_same (CN.out _))))
  refine wpQuiet_nil ?_; intro _ hw'; obtain ⟨xq, hw''⟩ := hw'; subst hw''
  go_wp2_with (fail)
  go_ret2
  exact ⟨rfl, bl_step B5.out (below_ext _ _)⟩
end Go.Proofs.YtdebfniifijjoaaDoor
