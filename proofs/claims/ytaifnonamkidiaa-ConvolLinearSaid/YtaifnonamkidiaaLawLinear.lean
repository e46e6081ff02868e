/-
  The walk of the law ConvolLinear. Conditions: none.
-/
import Derived.Test.YtaifnonamkidiaaFill
namespace Go.Proofs.Ytaifnonamkidiaa
open Go.RowKit Kit
set_option linter.unusedVariables false
def mn (x y : Int) : Int := min x y
def mx (x y : Int) : Int := max x y
theorem run_max3 (P : Program) (w : World) (ts : Array TypeId) (t : TypeId) (k k' k'' : IntKind) (x y z : Int) : (Builtin.max_ ts t #[.int k x, .int k' y, .int k'' z]).run P w = .ok (.int k (mx (mx x y) z)) w := by
  simp [Builtin.max_, Builtin.max2, mx]; omega
theorem run_min_mn (P : Program) (w : World) (ts : Array TypeId) (t : TypeId) (k k' : IntKind) (x y : Int) : (Builtin.min_ ts t #[.int k x, .int k' y]).run P w = .ok (.int k (mn x y)) w := by
  simp [Builtin.min_, Builtin.min2, mn]; omega
theorem xor_lt64 {x y : Nat} (hx : x < 64) (hy : y < 64) : x ^^^ y < 64 := Nat.xor_lt_two_pow (n := 6) hx hy
theorem xor_lt2 {x y : Nat} (hx : x < 2) (hy : y < 2) : x ^^^ y < 2 := Nat.xor_lt_two_pow (n := 1) hx hy
theorem stS_lt (f : Nat → Nat) (hf : ∀ i, f i < 2) (k : Nat) : stS f k < 64 := by
  induction k with
  | zero => show 0 < 64; omega
  | succ k ih => have := hf k; show nx (stS f k) (f k) < 64; unfold nx; omega
theorem stS_lin (f g h : Nat → Nat) (hf : ∀ i, f i < 2) (hg : ∀ i, g i < 2) (hh : ∀ i, h i < 2) (k : Nat) :
    stS (fun i => f i ^^^ g i ^^^ h i) k = stS f k ^^^ stS g k ^^^ stS h k := by
  induction k with
  | zero => simp [stS]
  | succ k ih =>
    have a1 := stS_lt f hf k; have a2 := stS_lt g hg k; have a3 := stS_lt h hh k
    simp only [stS]
    rw [ih]
    have e1 := nx_lin ⟨stS f k ^^^ stS g k, xor_lt64 a1 a2⟩ ⟨stS h k, a3⟩ ⟨f k ^^^ g k, xor_lt2 (hf k) (hg k)⟩ ⟨h k, hh k⟩
    have e2 := nx_lin ⟨stS f k, a1⟩ ⟨stS g k, a2⟩ ⟨f k, hf k⟩ ⟨g k, hg k⟩
    simp only at e1 e2
    rw [e1, e2]
theorem one_one (x y z : Nat) (hx : x < 2) (hy : y < 2) (hz : z < 2) : 1 ^^^ (1 ^^^ x ^^^ y) ^^^ z = x ^^^ y ^^^ z := by
  have : ∀ x y z : Fin 2, 1 ^^^ (1 ^^^ x.val ^^^ y.val) ^^^ z.val = x.val ^^^ y.val ^^^ z.val := by decide
  exact this ⟨x, hx⟩ ⟨y, hy⟩ ⟨z, hz⟩
theorem outF_lin (f g h : Nat → Nat) (hf : ∀ i, f i < 2) (hg : ∀ i, g i < 2) (hh : ∀ i, h i < 2) (i : Nat) :
    outF (fun i => f i ^^^ g i ^^^ h i) i = outF f i ^^^ outF g i ^^^ outF h i := by
  obtain ⟨k, hk⟩ : ∃ k, k = i / 2 := ⟨_, rfl⟩
  have a1 := stS_lt f hf k; have a2 := stS_lt g hg k; have a3 := stS_lt h hh k
  unfold outF
  rw [← hk, stS_lin f g h hf hg hh]
  split
  · have e1 := o1_lin ⟨stS f k ^^^ stS g k, xor_lt64 a1 a2⟩ ⟨stS h k, a3⟩ ⟨f k ^^^ g k, xor_lt2 (hf k) (hg k)⟩ ⟨h k, hh k⟩
    have e2 := o1_lin ⟨stS f k, a1⟩ ⟨stS g k, a2⟩ ⟨f k, hf k⟩ ⟨g k, hg k⟩
    simp only at e1 e2
    rw [e1, e2]
  · have e1 := o2_lin ⟨stS f k ^^^ stS g k, xor_lt64 a1 a2⟩ ⟨stS h k, a3⟩ ⟨f k ^^^ g k, xor_lt2 (hf k) (hg k)⟩ ⟨h k, hh k⟩
    have e2 := o2_lin ⟨stS f k, a1⟩ ⟨stS g k, a2⟩ ⟨f k, hf k⟩ ⟨g k, hg k⟩
    simp only at e1 e2
    rw [e1, e2]
    exact one_one _ _ _ (by unfold o2; omega) (by unfold o2; omega) (by unfold o2; omega)
theorem stS_congr {f g : Nat → Nat} (h : ∀ i, f i = g i) (k : Nat) : stS f k = stS g k := by rw [show f = g from funext h]
/-- The plain law: the symbols of the combined strings. -/
theorem linear_plain (a b c : ByteArray) (n : Nat) (ha : a.size = n) (hb : b.size = n) (hc : c.size = n) (N : Nat) :
    strF (xor3 (strF (outF (bitAt a)) N) (strF (outF (bitAt b)) N) (strF (outF (bitAt c)) N)) N = strF (outF (bitAt (strF (xor3 a b c) n))) N := by
  apply strF_congr
  intro i hi
  have l : ∀ f i, outF f i < 256 := fun f i => Nat.lt_trans (outF_lt f i) (by omega)
  have e : bitAt (strF (xor3 a b c) n) = fun i => bitAt a i ^^^ bitAt b i ^^^ bitAt c i := by
    funext k
    rw [bitAt_F _ _ _ (xor3_lt a b c)]
    by_cases hk : k / 8 < n
    · rw [if_pos hk]
      unfold xor3
      rw [bit_xor, bit_xor]
      have key : ∀ d : ByteArray, d.size = n → byteAt d (k / 8) / 2 ^ (7 - k % 8) % 2 = bitAt d k := fun d hd => by
        unfold bitAt byteAt; rw [if_pos (by omega)]
      rw [key a ha, key b hb, key c hc]
    · rw [if_neg hk]
      have key : ∀ d : ByteArray, d.size = n → bitAt d k = 0 := fun d hd => by unfold bitAt; rw [if_neg (by omega)]
      rw [key a ha, key b hb, key c hc]; rfl
  rw [e, outF_lin _ _ _ (bitAt_lt a) (bitAt_lt b) (bitAt_lt c)]
  unfold xor3
  rw [strF_at _ _ _ (l _ _), strF_at _ _ _ (l _ _), strF_at _ _ _ (l _ _), if_pos hi, if_pos hi, if_pos hi]
set_option maxHeartbeats 3200000 in
theorem ConvolLinear_walk (a0 : ByteArray) (a1 : ByteArray) (a2 : ByteArray) (w : World) (w0 : a0.size ≤ maxLen) (w1 : a1.size ≤ maxLen) (w2 : a2.size ≤ maxLen) :
    Calls Try.prog 5 #[.string a0, .string a1, .string a2] w fun e w' => e = .returned (.bool true) ∧ Below w.heap.size w w' := by
  have gmn := fun w x y => run_min_mn Try.prog w #[3, 3] 3 .i64 .i64 x y
  have gmx := fun w x y z => run_max3 Try.prog w #[3, 3, 3] 3 .i64 .i64 .i64 x y z
  obtain ⟨n, hn⟩ : ∃ n : Nat, mn 1000 (mx (mx (a0.size : Int) (a1.size : Int)) (a2.size : Int)) = (n : Int) := ⟨(mn 1000 (mx (mx (a0.size : Int) (a1.size : Int)) (a2.size : Int))).toNat, by unfold mn mx; omega⟩
  have hn1 : n ≤ 1000 := by unfold mn at hn; omega
  have NN := Lib.hid hn
  clear hn
  obtain ⟨N, hN⟩ : ∃ N, N = 16 * n + 12 := ⟨_, rfl⟩
  have hsym : Hid (symN (n : Int) = (N : Int)) := Lib.hid (by unfold symN; rw [if_pos ⟨by omega, by omega⟩]; omega)
  have hN2 : N ≤ 100000 := by omega
  have HN := Lib.hid hN; clear hN
  obtain ⟨b0, hb0⟩ : ∃ b, Hid (b = fillB a0 n) := ⟨_, Lib.hid rfl⟩
  obtain ⟨b1, hb1⟩ : ∃ b, Hid (b = fillB a1 n) := ⟨_, Lib.hid rfl⟩
  obtain ⟨b2, hb2⟩ : ∃ b, Hid (b = fillB a2 n) := ⟨_, Lib.hid rfl⟩
  have z0 : Hid (b0.size = n) := Lib.hid (by rw [hb0.out]; exact strF_size _ _)
  have z1 : Hid (b1.size = n) := Lib.hid (by rw [hb1.out]; exact strF_size _ _)
  have z2 : Hid (b2.size = n) := Lib.hid (by rw [hb2.out]; exact strF_size _ _)
  obtain ⟨x0, hx0⟩ : ∃ x, Hid (x = strF (outF (bitAt b0)) N) := ⟨_, Lib.hid rfl⟩
  obtain ⟨x1, hx1⟩ : ∃ x, Hid (x = strF (outF (bitAt b1)) N) := ⟨_, Lib.hid rfl⟩
  obtain ⟨x2, hx2⟩ : ∃ x, Hid (x = strF (outF (bitAt b2)) N) := ⟨_, Lib.hid rfl⟩
  obtain ⟨b3, hb3⟩ : ∃ b, Hid (b = strF (xor3 b0 b1 b2) n) := ⟨_, Lib.hid rfl⟩
  have z3 : Hid (b3.size = n) := Lib.hid (by rw [hb3.out]; exact strF_size _ _)
  obtain ⟨x3, hx3⟩ : ∃ x, Hid (x = strF (outF (bitAt b3)) N) := ⟨_, Lib.hid rfl⟩
  have f0 : Hid (∀ w, Calls Try.prog 16 #[.string a0, .int .i64 n] w fun e w' => e = .returned (.string b0) ∧ Below w.heap.size w w') := Lib.hid (fun w => by rw [hb0.out]; exact filled_any a0 n hn1 w0 w)
  have f1 : Hid (∀ w, Calls Try.prog 16 #[.string a1, .int .i64 n] w fun e w' => e = .returned (.string b1) ∧ Below w.heap.size w w') := Lib.hid (fun w => by rw [hb1.out]; exact filled_any a1 n hn1 w1 w)
  have f2 : Hid (∀ w, Calls Try.prog 16 #[.string a2, .int .i64 n] w fun e w' => e = .returned (.string b2) ∧ Below w.heap.size w w') := Lib.hid (fun w => by rw [hb2.out]; exact filled_any a2 n hn1 w2 w)
  have g0 : Hid (∀ w, Calls Try.prog 14 #[.string b0] w fun e w' => e = .returned (.tuple #[.string x0, .int .i64 0]) ∧ Below w.heap.size w w') := Lib.hid (fun w => by rw [hx0.out, HN.out]; exact encode_idx b0 n z0.out hn1 w)
  have g1 : Hid (∀ w, Calls Try.prog 14 #[.string b1] w fun e w' => e = .returned (.tuple #[.string x1, .int .i64 0]) ∧ Below w.heap.size w w') := Lib.hid (fun w => by rw [hx1.out, HN.out]; exact encode_idx b1 n z1.out hn1 w)
  have g2 : Hid (∀ w, Calls Try.prog 14 #[.string b2] w fun e w' => e = .returned (.tuple #[.string x2, .int .i64 0]) ∧ Below w.heap.size w w') := Lib.hid (fun w => by rw [hx2.out, HN.out]; exact encode_idx b2 n z2.out hn1 w)
  have g3 : Hid (∀ w, Calls Try.prog 14 #[.string b3] w fun e w' => e = .returned (.tuple #[.string x3, .int .i64 0]) ∧ Below w.heap.size w w') := Lib.hid (fun w => by rw [hx3.out, HN.out]; exact encode_idx b3 n z3.out hn1 w)
  have c1 : Hid (∀ w, Calls Try.prog 17 #[.string b0, .string b1, .string b2] w fun e w' => e = .returned (.string b3) ∧ Below w.heap.size w w') := Lib.hid (fun w => by rw [hb3.out]; exact combined_any b0 b1 b2 n z0.out z1.out z2.out (by omega) w)
  have y0 : Hid (x0.size = N) := Lib.hid (by rw [hx0.out]; exact strF_size _ _)
  have y1 : Hid (x1.size = N) := Lib.hid (by rw [hx1.out]; exact strF_size _ _)
  have y2 : Hid (x2.size = N) := Lib.hid (by rw [hx2.out]; exact strF_size _ _)
  have c2 : Hid (∀ w, Calls Try.prog 17 #[.string x0, .string x1, .string x2] w fun e w' => e = .returned (.string x3) ∧ Below w.heap.size w w') := Lib.hid (fun w => by
    have := combined_any x0 x1 x2 N y0.out y1.out y2.out hN2 w
    have l := linear_plain b0 b1 b2 n z0.out z1.out z2.out N
    rw [← hx0.out, ← hx1.out, ← hx2.out, ← hb3.out, ← hx3.out] at l
    rw [l] at this
    exact this)
  have s0 : Hid ((x0.size : Int) = (N : Int)) := Lib.hid (by rw [y0.out])
  have s1 : Hid ((x1.size : Int) = (N : Int)) := Lib.hid (by rw [y1.out])
  have s2 : Hid ((x2.size : Int) = (N : Int)) := Lib.hid (by rw [y2.out])
  clear hb0 hb1 hb2 hb3 hx0 hx1 hx2 hx3 z0 z1 z2 z3 y0 y1 y2 w0 w1 w2
  go_enter Try.func5, Try.ntmps5
  go_wp2_with (fail)
  rw [NN.out]
  refine (f0.out _).mono ?_
  rintro e v1 ⟨rfl, hv⟩
  have V1 := Lib.hid hv; clear hv
  go_wp2_with (fail)
  refine (f1.out _).mono ?_
  rintro e v2 ⟨rfl, hv⟩
  have V2 := Lib.hid (bl_step V1.out hv); clear hv V1
  go_wp2_with (fail)
  refine (f2.out _).mono ?_
  rintro e v3 ⟨rfl, hv⟩
  have V3 := Lib.hid (bl_step V2.out hv); clear hv V2
  go_wp2_with (fail)
  refine (g0.out _).mono ?_
  rintro e v4 ⟨rfl, hv⟩
  have V4 := Lib.hid (bl_step V3.out hv); clear hv V3
  go_wp2_with (fail)
  refine (g1.out _).mono ?_
  rintro e v5 ⟨rfl, hv⟩
  have V5 := Lib.hid (bl_step V4.out hv); clear hv V4
  go_wp2_with (fail)
  refine (g2.out _).mono ?_
  rintro e v6 ⟨rfl, hv⟩
  have V6 := Lib.hid (bl_step V5.out hv); clear hv V5
  go_wp2_with (fail)
  refine (c1.out _).mono ?_
  rintro e v7 ⟨rfl, hv⟩
  have V7 := Lib.hid (bl_step V6.out hv); clear hv V6
  go_wp2_with (fail)
  refine (g3.out _).mono ?_
  rintro e v8 ⟨rfl, hv⟩
  have V8 := Lib.hid (bl_step V7.out hv); clear hv V7
  go_wp2_with (fail)
  refine (symbols_any _ _).mono ?_
  rintro e _ ⟨rfl, rfl⟩
  rw [hsym.out]
  have t0 := s0.out; have t1 := s1.out; have t2 := s2.out
  go_wp2_with (fail)
  refine (c2.out _).mono ?_
  rintro e v9 ⟨rfl, hv⟩
  have V9 := Lib.hid (bl_step V8.out hv); clear hv V8
  go_wp2_with (fail)
  refine (awake_any _).mono ?_
  rintro e v10 ⟨rfl, hv⟩
  have V10 := Lib.hid (bl_step V9.out hv); clear hv V9
  go_wp2_with (fail)
  go_ret
  exact ⟨rfl, V10.out⟩
end Go.Proofs.Ytaifnonamkidiaa
