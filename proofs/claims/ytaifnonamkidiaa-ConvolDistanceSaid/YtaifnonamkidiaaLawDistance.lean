/-
  The walk of the law ConvolDistance. Conditions: none.
-/
import Derived.Test.YtaifnonamkidiaaFill
namespace Go.Proofs.Ytaifnonamkidiaa
open Go.RowKit Kit
set_option linter.unusedVariables false
def mn (x y : Int) : Int := min x y
def mx (x y : Int) : Int := max x y
theorem run_max_mx (P : Program) (w : World) (ts : Array TypeId) (t : TypeId) (k k' : IntKind) (x y : Int) : (Builtin.max_ ts t #[.int k x, .int k' y]).run P w = .ok (.int k (mx x y)) w := by
  simp [Builtin.max_, Builtin.max2, mx]; omega
theorem run_min_mn (P : Program) (w : World) (ts : Array TypeId) (t : TypeId) (k k' : IntKind) (x y : Int) : (Builtin.min_ ts t #[.int k x, .int k' y]).run P w = .ok (.int k (mn x y)) w := by
  simp [Builtin.min_, Builtin.min2, mn]; omega
theorem xor_lt64 {x y : Nat} (hx : x < 64) (hy : y < 64) : x ^^^ y < 64 := Nat.xor_lt_two_pow (n := 6) hx hy
theorem xor_lt2 {x y : Nat} (hx : x < 2) (hy : y < 2) : x ^^^ y < 2 := Nat.xor_lt_two_pow (n := 1) hx hy
theorem stS_lt (f : Nat → Nat) (hf : ∀ i, f i < 2) (k : Nat) : stS f k < 64 := by
  induction k with
  | zero => show 0 < 64; omega
  | succ k ih => have := hf k; show nx (stS f k) (f k) < 64; unfold nx; omega
/-- In how many of the first k two strings differ. -/
def cnt (f g : Nat → Nat) : Nat → Nat
  | 0 => 0
  | k + 1 => cnt f g k + if f k = g k then 0 else 1
theorem cnt_le (f g : Nat → Nat) (k : Nat) : cnt f g k ≤ k := by
  induction k with
  | zero => exact Nat.le_refl _
  | succ k ih => unfold cnt; split <;> omega
theorem cnt_same (f : Nat → Nat) (k : Nat) : cnt f f k = 0 := by
  induction k with
  | zero => rfl
  | succ k ih => unfold cnt; rw [ih, if_pos rfl]
theorem cnt_congr {f g f' g' : Nat → Nat} (k : Nat) (h : ∀ i, i < k → f i = f' i ∧ g i = g' i) : cnt f g k = cnt f' g' k := by
  induction k with
  | zero => rfl
  | succ k ih => unfold cnt; rw [ih (fun i hi => h i (by omega)), (h k (by omega)).1, (h k (by omega)).2]
/-- The least number of differences with which a state is reached. -/
def fine : List Nat := [10, 8, 7, 7, 7, 5, 6, 6, 5, 7, 4, 8, 4, 6, 5, 7, 3, 7, 6, 6, 4, 4, 7, 7, 4, 6, 5, 7, 5, 7, 6, 6, 2, 8, 5, 7, 5, 5, 4, 6, 3, 7, 4, 8, 6, 6, 7, 7, 3, 5, 6, 4, 4, 6, 7, 7, 4, 4, 5, 7, 5, 5, 6, 6]
def fi (s : Nat) : Nat := fine.getD s 0
/-- In how many symbols two steps differ. -/
def dd (s t b c : Nat) : Nat := (if o1 s b = o1 t c then 0 else 1) + (if o2 s b = o2 t c then 0 else 1)
def dz (s b : Nat) : Nat := (if o1 s b = 0 then 0 else 1) + (if o2 s b = 1 then 0 else 1)
theorem dd_dz : ∀ s t : Fin 64, ∀ b c : Fin 2, dd s.val t.val b.val c.val = dz (s.val ^^^ t.val) (b.val ^^^ c.val) := by decide +kernel
theorem fi_step : ∀ s : Fin 64, ∀ b : Fin 2, fi (nx s.val b.val) ≤ fi s.val + dz s.val b.val := by decide +kernel
theorem fi_first : dz 0 0 = 0 ∧ nx 0 0 = 0 ∧ fi (nx 0 1) ≤ dz 0 1 := by decide +kernel
theorem cnt_two (f g : Nat → Nat) (k : Nat) : cnt (outF f) (outF g) (2 * (k + 1)) = cnt (outF f) (outF g) (2 * k) + dd (stS f k) (stS g k) (f k) (g k) := by
  rw [show 2 * (k + 1) = 2 * k + 1 + 1 by omega]
  have e1 : ∀ f, outF f (2 * k) = o1 (stS f k) (f k) := fun f => by
    unfold outF; rw [if_pos (by omega), show 2 * k / 2 = k by omega]
  have e2 : ∀ f, outF f (2 * k + 1) = o2 (stS f k) (f k) := fun f => by
    unfold outF; rw [if_neg (by omega), show (2 * k + 1) / 2 = k by omega]
  simp only [cnt, e1, e2, dd]
  omega
theorem dist_inv (f g : Nat → Nat) (hf : ∀ i, f i < 2) (hg : ∀ i, g i < 2) (k : Nat) :
    ((∀ i, i < k → f i = g i) ∧ stS f k ^^^ stS g k = 0) ∨ fi (stS f k ^^^ stS g k) ≤ cnt (outF f) (outF g) (2 * k) := by
  induction k with
  | zero => left; exact ⟨fun i hi => by omega, by simp [stS]⟩
  | succ k ih =>
    have a1 := stS_lt f hf k; have a2 := stS_lt g hg k
    rw [cnt_two]
    have e1 := dd_dz ⟨stS f k, a1⟩ ⟨stS g k, a2⟩ ⟨f k, hf k⟩ ⟨g k, hg k⟩
    have e2 := nx_lin ⟨stS f k, a1⟩ ⟨stS g k, a2⟩ ⟨f k, hf k⟩ ⟨g k, hg k⟩
    have e3 := fi_step ⟨stS f k ^^^ stS g k, xor_lt64 a1 a2⟩ ⟨f k ^^^ g k, xor_lt2 (hf k) (hg k)⟩
    simp only at e1 e2 e3
    have e4 : stS f (k + 1) ^^^ stS g (k + 1) = nx (stS f k ^^^ stS g k) (f k ^^^ g k) := by rw [e2]; rfl
    rw [e4, e1]
    rcases ih with ⟨h1, h2⟩ | h
    · rw [h2]
      obtain ⟨q1, q2, q3⟩ := fi_first
      by_cases hk : f k = g k
      · left
        rw [hk, Nat.xor_self]
        exact ⟨fun i hi => by rcases Nat.lt_or_ge i k with h | h; exact h1 i h; rw [show i = k by omega, hk], q2⟩
      · right
        have : f k ^^^ g k = 1 := by
          have key : ∀ x y : Fin 2, x ≠ y → x.val ^^^ y.val = 1 := by decide
          exact key ⟨f k, hf k⟩ ⟨g k, hg k⟩ (by simpa using hk)
        rw [this]
        omega
    · right; omega
theorem stS_tail (f : Nat → Nat) (hf : ∀ i, f i < 2) (k : Nat) (h : ∀ i, k ≤ i → f i = 0) : stS f (k + 6) = 0 := by
  have a := stS_lt f hf k
  have z : ∀ j, f (k + j) = 0 := fun j => h _ (by omega)
  have e : ∀ j, stS f (k + j + 1) = stS f (k + j) / 2 := fun j => by
    show nx (stS f (k + j)) (f (k + j)) = _
    rw [z]; unfold nx; simp
  have e0 := e 0; have e1 := e 1; have e2 := e 2; have e3 := e 3; have e4 := e 4; have e5 := e 5
  simp only [Nat.add_assoc, Nat.reduceAdd, Nat.add_zero] at e0 e1 e2 e3 e4 e5
  omega
theorem bits_eq {a b : ByteArray} {n : Nat} (ha : a.size = n) (hb : b.size = n) (h : ∀ i, i < 8 * n + 6 → bitAt a i = bitAt b i) : a = b := by
  apply ba_ext (by omega)
  intro i hi
  have la := byteAt_lt a i
  have lb := byteAt_lt b i
  have key : ∀ d : ByteArray, d.size = n → ∀ j, j < 8 → bitAt d (8 * i + j) = byteAt d i / 2 ^ (7 - j) % 2 := fun d hd j hj => by
    unfold bitAt byteAt
    rw [if_pos (by omega), show (8 * i + j) / 8 = i by omega, show (8 * i + j) % 8 = j by omega]
  have e : ∀ j, j < 8 → byteAt a i / 2 ^ (7 - j) % 2 = byteAt b i / 2 ^ (7 - j) % 2 := fun j hj => by
    rw [← key a ha j hj, ← key b hb j hj]; exact h _ (by omega)
  have h0 := e 0 (by omega); have h1 := e 1 (by omega); have h2 := e 2 (by omega); have h3 := e 3 (by omega)
  have h4 := e 4 (by omega); have h5 := e 5 (by omega); have h6 := e 6 (by omega); have h7 := e 7 (by omega)
  simp only [Nat.reduceSub, Nat.reducePow] at h0 h1 h2 h3 h4 h5 h6 h7
  omega
/-- The plain law. -/
theorem dist_plain (a b : ByteArray) (n : Nat) (ha : a.size = n) (hb : b.size = n) :
    (a = b → cnt (outF (bitAt a)) (outF (bitAt b)) (16 * n + 12) = 0) ∧ (a ≠ b → 10 ≤ cnt (outF (bitAt a)) (outF (bitAt b)) (16 * n + 12)) := by
  refine ⟨fun h => by rw [h]; exact cnt_same _ _, fun h => ?_⟩
  have t : ∀ d : ByteArray, d.size = n → stS (bitAt d) (8 * n + 6) = 0 := fun d hd => stS_tail _ (bitAt_lt d) _ (fun i hi => by unfold bitAt; rw [if_neg (by omega)])
  have := dist_inv (bitAt a) (bitAt b) (bitAt_lt a) (bitAt_lt b) (8 * n + 6)
  rw [t a ha, t b hb] at this
  rcases this with ⟨h1, _⟩ | h1
  · exact (h (bits_eq ha hb h1)).elim
  · rw [show 16 * n + 12 = 2 * (8 * n + 6) by omega]
    exact h1
theorem toList_ne {a b : ByteArray} (h : ¬ a = b) : (a.toList == b.toList) = false := by
  rw [beq_eq_false_iff_ne, ByteArray.toList_eq, ByteArray.toList_eq]
  exact fun e => h (Go.WideShapes.bytes_inj e)
set_option maxHeartbeats 3200000 in
theorem ConvolDistance_walk (a0 : ByteArray) (a1 : ByteArray) (w : World) (w0 : a0.size ≤ maxLen) (w1 : a1.size ≤ maxLen) :
    Calls Try.prog 7 #[.string a0, .string a1] w fun e w' => e = .returned (.bool true) ∧ Below w.heap.size w w' := by
  have gmn := fun w x y => run_min_mn Try.prog w #[3, 3] 3 .i64 .i64 x y
  have gmx := fun w x y => run_max_mx Try.prog w #[3, 3] 3 .i64 .i64 x y
  obtain ⟨n, hn⟩ : ∃ n : Nat, mn 1000 (mx (a0.size : Int) (a1.size : Int)) = (n : Int) := ⟨(mn 1000 (mx (a0.size : Int) (a1.size : Int))).toNat, by unfold mn mx; omega⟩
  have hn1 : n ≤ 1000 := by unfold mn at hn; omega
  have NN := Lib.hid hn
  clear hn
  obtain ⟨N, hN⟩ : ∃ N, N = 16 * n + 12 := ⟨_, rfl⟩
  have hN2 : N ≤ 100000 := by omega
  have HN := Lib.hid hN; clear hN
  obtain ⟨b0, hb0⟩ : ∃ b, Hid (b = fillB a0 n) := ⟨_, Lib.hid rfl⟩
  obtain ⟨b1, hb1⟩ : ∃ b, Hid (b = fillB a1 n) := ⟨_, Lib.hid rfl⟩
  have z0 : Hid (b0.size = n) := Lib.hid (by rw [hb0.out]; exact strF_size _ _)
  have z1 : Hid (b1.size = n) := Lib.hid (by rw [hb1.out]; exact strF_size _ _)
  obtain ⟨x0, hx0⟩ : ∃ x, Hid (x = strF (outF (bitAt b0)) N) := ⟨_, Lib.hid rfl⟩
  obtain ⟨x1, hx1⟩ : ∃ x, Hid (x = strF (outF (bitAt b1)) N) := ⟨_, Lib.hid rfl⟩
  have f0 : Hid (∀ w, Calls Try.prog 16 #[.string a0, .int .i64 n] w fun e w' => e = .returned (.string b0) ∧ Below w.heap.size w w') := Lib.hid (fun w => by rw [hb0.out]; exact filled_any a0 n hn1 w0 w)
  have f1 : Hid (∀ w, Calls Try.prog 16 #[.string a1, .int .i64 n] w fun e w' => e = .returned (.string b1) ∧ Below w.heap.size w w') := Lib.hid (fun w => by rw [hb1.out]; exact filled_any a1 n hn1 w1 w)
  have g0 : Hid (∀ w, Calls Try.prog 14 #[.string b0] w fun e w' => e = .returned (.tuple #[.string x0, .int .i64 0]) ∧ Below w.heap.size w w') := Lib.hid (fun w => by rw [hx0.out, HN.out]; exact encode_idx b0 n z0.out hn1 w)
  have g1 : Hid (∀ w, Calls Try.prog 14 #[.string b1] w fun e w' => e = .returned (.tuple #[.string x1, .int .i64 0]) ∧ Below w.heap.size w w') := Lib.hid (fun w => by rw [hx1.out, HN.out]; exact encode_idx b1 n z1.out hn1 w)
  have y0 : Hid (x0.size = N) := Lib.hid (by rw [hx0.out]; exact strF_size _ _)
  have y1 : Hid (x1.size = N) := Lib.hid (by rw [hx1.out]; exact strF_size _ _)
  have l : ∀ f i, outF f i < 256 := fun f i => Nat.lt_trans (outF_lt f i) (by omega)
  have D : Hid ((b0 = b1 → cnt (byteAt x0) (byteAt x1) N = 0) ∧ (b0 ≠ b1 → 10 ≤ cnt (byteAt x0) (byteAt x1) N)) := Lib.hid (by
    have d := dist_plain b0 b1 n z0.out z1.out
    rw [← HN.out] at d
    rw [cnt_congr (f' := outF (bitAt b0)) (g' := outF (bitAt b1)) N (fun i hi => by rw [hx0.out, hx1.out, strF_at _ _ _ (l _ _), strF_at _ _ _ (l _ _), if_pos hi, if_pos hi]; exact ⟨rfl, rfl⟩)]
    exact d)
  have s0 : Hid ((x0.size : Int) = (N : Int)) := Lib.hid (by rw [y0.out])
  have s1 : Hid ((x1.size : Int) = (N : Int)) := Lib.hid (by rw [y1.out])
  clear hb0 hb1 hx0 hx1 z0 z1 w0 w1 l
  go_enter Try.func7, Try.ntmps7
  go_wp2_with (fail)
  rw [NN.out]
  refine (f0.out _).mono ?_
  rintro e v1 ⟨rfl, hv⟩
  have V1 := Lib.hid hv; clear hv
  go_wp2_with (fail)
  refine (f1.out _).mono ?_
  rintro e v2 ⟨rfl, hv⟩
  have V2 := Lib.hid (bl_step V1.out hv); clear hv V1
  go_wp2_with (fail)
  refine (g0.out _).mono ?_
  rintro e v4 ⟨rfl, hv⟩
  have V4 := Lib.hid (bl_step V2.out hv); clear hv V2
  go_wp2_with (fail)
  refine (g1.out _).mono ?_
  rintro e v5 ⟨rfl, hv⟩
  have V5 := Lib.hid (bl_step V4.out hv); clear hv V4
  have t0 := s0.out; have t1 := s1.out
  go_wp2_with (fail)
  go_loopw [10, 11] (fun m i wr => ∃ k : Nat, k ≤ N ∧ i = .int .i64 k ∧ m = .int .i64 (cnt (byteAt x0) (byteAt x1) k) ∧ Below w.heap.size w wr) (fun _ i _ => N - (intOf i).toNat)
  case atStart => exact ⟨0, by omega, rfl, rfl, V5.out⟩
  case round =>
    clear V5
    obtain ⟨k, hk, rfl, rfl, hB⟩ := hrel
    have HB := Lib.hid hB; clear hB
    by_cases hlt : k < N
    · have g2 : k < x0.size := by omega
      have g3 : k < x1.size := by omega
      have ca := byte_get x0 k g2
      have cb := byte_get x1 k g3
      have ck : Hid (cnt (byteAt x0) (byteAt x1) (k + 1) = cnt (byteAt x0) (byteAt x1) k + if byteAt x0 k = byteAt x1 k then 0 else 1) := Lib.hid rfl
      have cl := cnt_le (byteAt x0) (byteAt x1) k
      obtain ⟨m, hm⟩ : ∃ m, Hid (m = cnt (byteAt x0) (byteAt x1) k) := ⟨_, Lib.hid rfl⟩
      rw [← hm.out] at ck cl ⊢
      obtain ⟨p, hp⟩ : ∃ p, p = byteAt x0 k := ⟨_, rfl⟩
      obtain ⟨q, hq⟩ : ∃ p, p = byteAt x1 k := ⟨_, rfl⟩
      rw [← hp, ← hq] at ck
      rw [← hp] at ca
      rw [← hq] at cb
      clear hp hq
      by_cases hpq : p = q
      · have e : ((x0[k].toNat : Int) != (x1[k].toNat : Int)) = false := by rw [ca, cb, hpq]; simp
        have CK : Hid (cnt (byteAt x0) (byteAt x1) (k + 1) = m) := Lib.hid (by rw [ck.out, if_pos hpq]; rfl)
        clear ca cb hpq
        go_wp2_with (fail)
        go_quiet (fail)
        go_wp2_with (fail)
        go_roundw
        case rel => exact ⟨k + 1, by omega, by go_num, by rw [CK.out], below_drewN HB.out _⟩
        case measure => simp [intOf]; omega
      · have e : ((x0[k].toNat : Int) != (x1[k].toNat : Int)) = true := by rw [ca, cb]; simp; omega
        have CK : Hid (cnt (byteAt x0) (byteAt x1) (k + 1) = m + 1) := Lib.hid (by rw [ck.out, if_neg hpq])
        clear ca cb hpq
        go_wp2_with (fail)
        go_quiet (fail)
        go_wp2_with (fail)
        go_roundw
        case rel => exact ⟨k + 1, by omega, by go_num, by rw [CK.out]; go_num, below_drewN HB.out _⟩
        case measure => simp [intOf]; omega
    · have he : k = N := by omega
      subst he
      by_cases hab : b0 = b1
      · rw [D.out.1 hab]
        subst hab
        go_wp2_with (fail)
        refine (awake_any _).mono ?_
        rintro e v10 ⟨rfl, hv⟩
        have V10 := Lib.hid (bl_step HB.out hv); clear hv
        go_wp2_with (fail)
        go_ret
        exact ⟨rfl, V10.out⟩
      · have dm := D.out.2 hab
        obtain ⟨m, hm⟩ : ∃ m, Hid (m = cnt (byteAt x0) (byteAt x1) k) := ⟨_, Lib.hid rfl⟩
        rw [← hm.out] at dm ⊢
        have e1 : (b0.toList == b1.toList) = false := toList_ne hab
        have e3 : ((m : Int) == 0) = false := by simp; omega
        have dm' : (10 : Int) ≤ (m : Int) := by omega
        clear hab
        go_wp2_with (fail)
        refine (awake_any _).mono ?_
        rintro e v10 ⟨rfl, hv⟩
        have V10 := Lib.hid (bl_step HB.out hv); clear hv
        go_wp2_with (fail)
        go_ret
        exact ⟨rfl, V10.out⟩
end Go.Proofs.Ytaifnonamkidiaa
