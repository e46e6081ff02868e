/-
  The law FieldsDistance: its walk. Conditions: those of its arguments.
-/
import Derived.Test.YtjeaccpocpfkgaaLawReads
namespace Go.Proofs.Ytjeaccpocpfkgaa
open Go.RowKit Kit
set_option linter.unusedVariables false
theorem df_comm (a b : Nat) : df a b = df b a := by unfold df; by_cases h : a = b <;> simp [h, eq_comm]
theorem distB_comm (L M : List Nat) : ∀ k, distB L M k = distB M L k
  | 0 => rfl
  | k + 1 => by rw [distB, distB, distB_comm L M k, df_comm]
theorem distB_zero {L M : List Nat} : ∀ k, distB L M k = 0 → ∀ i, i < k → bitOf L i = bitOf M i
  | 0, _, _, h => by omega
  | k + 1, h, i, hi => by
    rw [distB] at h
    rcases Nat.lt_succ_iff_lt_or_eq.1 hi with h' | rfl
    · exact distB_zero k (by omega) i h'
    · have h2 : df (bitOf L i) (bitOf M i) = 0 := by omega
      unfold df at h2
      by_cases e : bitOf L i = bitOf M i
      · exact e
      · rw [if_neg e] at h2; cases h2
theorem distB_self (L : List Nat) : ∀ k, distB L L k = 0
  | 0 => rfl
  | k + 1 => by rw [distB, distB_self L k]; unfold df; rw [if_pos rfl]
theorem dist_ne {a b : ByteArray} (hs : a.size = b.size) (h : ¬ a = b) : distB (lst a) (lst b) (8 * a.size) ≠ 0 := fun e => h (by
  have := bits_ext (L := lst a) (M := lst b) (by rw [lst_len, lst_len, hs]) (lst_ok a) (lst_ok b) (fun j hj => distB_zero _ e j (by rw [lst_len] at hj; exact hj))
  rw [← strB_lst a, ← strB_lst b, this])
/-- A list with one bit inverted. -/
def flp (L : List Nat) (a : Nat) : List Nat := put L a 1 (1 - bitOf L a)
theorem flp_bit {L : List Nat} (h : okL L) {a : Nat} (ha : a < 8 * L.length) (j : Nat) : bitOf (flp L a) j = if j = a then 1 - bitOf L a else bitOf L j := by
  unfold flp
  rw [put_bit h _ _ (by omega)]
  have := bitOf_lt L a
  by_cases e : j = a
  · subst e
    rw [if_pos (by omega), if_pos rfl, show j + 1 - 1 - j = 0 by omega, Nat.pow_zero, Nat.div_one, Nat.mod_eq_of_lt (by omega)]
  · rw [if_neg (by omega), if_neg e]
theorem flp_ok {L : List Nat} (h : okL L) (a : Nat) : okL (flp L a) := put_ok h _ _ _
theorem flp_len (L : List Nat) (a : Nat) : (flp L a).length = L.length := put_len _ _ _ _
theorem flp_flp {L : List Nat} (h : okL L) {a : Nat} (ha : a < 8 * L.length) : flp (flp L a) a = L := by
  refine bits_ext (by rw [flp_len, flp_len]) (flp_ok (flp_ok h _) _) h (fun j _ => ?_)
  rw [flp_bit (flp_ok h a) (by rw [flp_len]; exact ha), flp_bit h ha, flp_bit h ha]
  have := bitOf_lt L a
  by_cases e : j = a
  · subst e; simp; omega
  · rw [if_neg e, if_neg e]
theorem dist_flp {L : List Nat} (h : okL L) {a : Nat} (ha : a < 8 * L.length) : ∀ k, distB L (flp L a) k = if a < k then 1 else 0
  | 0 => rfl
  | k + 1 => by
    rw [distB, dist_flp h ha k, flp_bit h ha]
    have := bitOf_lt L a
    unfold df
    by_cases e : k = a
    · subst e
      rw [if_pos rfl, if_neg (by omega), if_neg (by omega), if_pos (by omega)]
    · rw [if_neg e, if_pos rfl]
      by_cases e2 : a < k
      · rw [if_pos e2, if_pos (by omega)]
      · rw [if_neg e2, if_neg (by omega)]
theorem dist_flp2 {L : List Nat} (h : okL L) {a : Nat} (ha : a < 8 * L.length) (M : List Nat) : ∀ k, (k ≤ a ∧ distB (flp L a) M k = distB L M k) ∨ (a < k ∧ (distB (flp L a) M k = distB L M k + 1 ∨ distB (flp L a) M k + 1 = distB L M k))
  | 0 => .inl ⟨by omega, rfl⟩
  | k + 1 => by
    have ih := dist_flp2 h ha M k
    rw [distB, distB, flp_bit h ha]
    have h1 := bitOf_lt L a
    have h2 := bitOf_lt M a
    by_cases e : k = a
    · subst e
      rcases ih with ⟨_, ih⟩ | ⟨h', _⟩
      · right
        refine ⟨by omega, ?_⟩
        rw [if_pos rfl, ih]
        have : df (1 - bitOf L k) (bitOf M k) = df (bitOf L k) (bitOf M k) + 1 ∨ df (1 - bitOf L k) (bitOf M k) + 1 = df (bitOf L k) (bitOf M k) := by
          unfold df
          by_cases c1 : bitOf L k = bitOf M k
          · rw [if_neg (by omega), if_pos c1]; left; rfl
          · rw [if_pos (by omega), if_neg c1]; right; rfl
        omega
      · omega
    · rw [if_neg e]
      rcases ih with ⟨h', ih⟩ | ⟨h', ih⟩
      · left; refine ⟨by omega, by rw [ih]⟩
      · right; refine ⟨by omega, by omega⟩
theorem flipR_ok {d : ByteArray} {a : Nat} (hc : chk d.size (a : Int) 1 = 0) : flipR d (a : Int) = .tuple #[.string (strB (flp (lst d) a)), .int .i64 0] := by
  unfold flipR flp; rw [if_pos hc, Int.toNat_natCast]
theorem flipR_form (d : ByteArray) (a : Int) : ∃ x e, flipR d a = .tuple #[.string x, .int .i64 e] := by unfold flipR emp; split <;> exact ⟨_, _, rfl⟩
theorem distR_eq {a b : ByteArray} (ha : a.size ≤ 5000) (hs : a.size = b.size) : distR a b = .tuple #[.int .i64 (distB (lst a) (lst b) (8 * a.size) : Nat), .int .i64 0] := by
  unfold distR; rw [if_neg (by omega), if_pos hs]
theorem distR_ne {a b : ByteArray} (ha : a.size ≤ 5000) (hb : b.size ≤ 5000) (hs : a.size ≠ b.size) : distR a b = .tuple #[.int .i64 0, .int .i64 2] := by
  unfold distR; rw [if_neg (by omega), if_neg hs]
/-- What the law's calls return. -/
structure Facts (a b : ByteArray) (at_ : Int) (x : ByteArray) (er s g : Int) : Prop where
  fl : ∀ w, Calls Try.prog 18 #[.string a, .int .i64 at_] w fun e w' => e = .returned (.tuple #[.string x, .int .i64 er]) ∧ Below w.heap.size w w'
  rf : ∀ w, Calls Try.prog 19 #[.string a, .int .i64 at_] w fun e w' => e = .returned (.tuple #[.string x, .int .i64 er]) ∧ Below w.heap.size w w'
  di : ∀ w, Calls Try.prog 20 #[.string a, .string b] w fun e w' => e = .returned (.tuple #[.int .i64 s, .int .i64 g]) ∧ ∃ n, w' = w.drewN n
  rd : ∀ w, Calls Try.prog 21 #[.string a, .string b] w fun e w' => e = .returned (.tuple #[.int .i64 s, .int .i64 g]) ∧ w = w'
  dj : ∀ w, Calls Try.prog 20 #[.string b, .string a] w fun e w' => e = .returned (.tuple #[.int .i64 s, .int .i64 g]) ∧ ∃ n, w' = w.drewN n
set_option maxRecDepth 100000 in
set_option maxHeartbeats 1600000 in
theorem dist_other (a b : ByteArray) (at_ : Int) (x : ByteArray) (er : Int) (w : World) (F : Facts a b at_ x er 0 2) (ha : (a.size : Int) ≤ 5000) (hb : (b.size : Int) ≤ 5000) :
    Calls Try.prog 6 #[.string a, .string b, .int .i64 at_] w fun e w' => e = .returned (.bool true) ∧ Below w.heap.size w w' := by
  have FL := Lib.hid F.fl; have RF := Lib.hid F.rf; have DI := Lib.hid F.di; have RD := Lib.hid F.rd; have DJ := Lib.hid F.dj
  clear F
  by_cases he : er = 0
  · subst he
    go_enter Try.func6, Try.ntmps6
    go_wp2_with (fail)
    refine (FL.out _).mono ?_
    rintro e w1 ⟨rfl, b1⟩
    have B1 := Lib.hid b1
    clear b1
    go_wp2_with (fail)
    refine (RF.out _).mono ?_
    rintro e w2 ⟨rfl, b2⟩
    have B2 := Lib.hid (bl_step B1.out b2)
    clear b2 B1
    go_wp2_with (fail)
    refine (DI.out _).mono ?_
    rintro e _ ⟨rfl, n3, rfl⟩
    go_wp2_with (fail)
    refine (RD.out _).mono ?_
    rintro e _ ⟨rfl, rfl⟩
    go_wp2_with (fail)
    refine (DJ.out _).mono ?_
    rintro e _ ⟨rfl, n4, rfl⟩
    have B4 := Lib.hid (below_drewN B2.out (n3 + n4))
    clear B2
    go_wp2_with (fail)
    refine (awake_any _).mono ?_
    rintro e w9 ⟨rfl, b9⟩
    have B9 := Lib.hid (bl_step B4.out b9)
    clear b9
    go_wp2_with (fail)
    go_ret
    exact ⟨rfl, B9.out⟩
  · have hne : (er != 0) = true := by simpa using he
    clear he
    go_enter Try.func6, Try.ntmps6
    go_wp2_with (fail)
    refine (FL.out _).mono ?_
    rintro e w1 ⟨rfl, b1⟩
    have B1 := Lib.hid b1
    clear b1
    go_wp2_with (fail)
    refine (RF.out _).mono ?_
    rintro e w2 ⟨rfl, b2⟩
    have B2 := Lib.hid (bl_step B1.out b2)
    clear b2 B1
    go_wp2_with (fail)
    refine (DI.out _).mono ?_
    rintro e _ ⟨rfl, n3, rfl⟩
    go_wp2_with (fail)
    refine (RD.out _).mono ?_
    rintro e _ ⟨rfl, rfl⟩
    go_wp2_with (fail)
    refine (DJ.out _).mono ?_
    rintro e _ ⟨rfl, n4, rfl⟩
    have B4 := Lib.hid (below_drewN B2.out (n3 + n4))
    clear B2
    go_wp2_with (fail)
    refine (awake_any _).mono ?_
    rintro e w9 ⟨rfl, b9⟩
    have B9 := Lib.hid (bl_step B4.out b9)
    clear b9
    go_wp2_with (fail)
    go_ret
    exact ⟨rfl, B9.out⟩
set_option maxRecDepth 100000 in
set_option maxHeartbeats 1600000 in
theorem dist_err (a b : ByteArray) (at_ : Int) (x : ByteArray) (er s : Int) (w : World) (F : Facts a b at_ x er s 0) (ha : (a.size : Int) ≤ 5000) (hb : (b.size : Int) ≤ 5000) (he : er ≠ 0) (q : (s == 0) = (a.toList == b.toList)) :
    Calls Try.prog 6 #[.string a, .string b, .int .i64 at_] w fun e w' => e = .returned (.bool true) ∧ Below w.heap.size w w' := by
  have FL := Lib.hid F.fl; have RF := Lib.hid F.rf; have DI := Lib.hid F.di; have RD := Lib.hid F.rd; have DJ := Lib.hid F.dj
  clear F
  have hne : (er != 0) = true := by simpa using he
  clear he
  go_enter Try.func6, Try.ntmps6
  go_wp2_with (fail)
  refine (FL.out _).mono ?_
  rintro e w1 ⟨rfl, b1⟩
  have B1 := Lib.hid b1
  clear b1
  go_wp2_with (fail)
  refine (RF.out _).mono ?_
  rintro e w2 ⟨rfl, b2⟩
  have B2 := Lib.hid (bl_step B1.out b2)
  clear b2 B1
  go_wp2_with (fail)
  refine (DI.out _).mono ?_
  rintro e _ ⟨rfl, n3, rfl⟩
  go_wp2_with (fail)
  refine (RD.out _).mono ?_
  rintro e _ ⟨rfl, rfl⟩
  go_wp2_with (fail)
  refine (DJ.out _).mono ?_
  rintro e _ ⟨rfl, n4, rfl⟩
  have B4 := Lib.hid (below_drewN B2.out (n3 + n4))
  clear B2
  go_wp2_with (fail)
  refine (awake_any _).mono ?_
  rintro e w9 ⟨rfl, b9⟩
  have B9 := Lib.hid (bl_step B4.out b9)
  clear b9
  go_wp2_with (fail)
  go_ret
  exact ⟨rfl, B9.out⟩
set_option maxRecDepth 100000 in
set_option maxHeartbeats 1600000 in
theorem dist_good (a b : ByteArray) (at_ : Int) (x : ByteArray) (s p : Int) (w : World) (F : Facts a b at_ x 0 s 0) (ha : (a.size : Int) ≤ 5000) (hb : (b.size : Int) ≤ 5000) (q : (s == 0) = (a.toList == b.toList)) (hs : 0 ≤ s ∧ s ≤ 40000)
    (D1 : Hid (∀ w, Calls Try.prog 20 #[.string a, .string x] w fun e w' => e = .returned (.tuple #[.int .i64 1, .int .i64 0]) ∧ ∃ n, w' = w.drewN n))
    (D2 : Hid (∀ w, Calls Try.prog 20 #[.string x, .string b] w fun e w' => e = .returned (.tuple #[.int .i64 p, .int .i64 0]) ∧ ∃ n, w' = w.drewN n))
    (F2 : Hid (∀ w, Calls Try.prog 18 #[.string x, .int .i64 at_] w fun e w' => e = .returned (.tuple #[.string a, .int .i64 0]) ∧ Below w.heap.size w w')) (hp : p = s + 1 ∨ p = s - 1) :
    Calls Try.prog 6 #[.string a, .string b, .int .i64 at_] w fun e w' => e = .returned (.bool true) ∧ Below w.heap.size w w' := by
  have FL := Lib.hid F.fl; have RF := Lib.hid F.rf; have DI := Lib.hid F.di; have RD := Lib.hid F.rd; have DJ := Lib.hid F.dj
  clear F
  rcases hp with rfl | rfl
  · have h1 : (s + 1 == s + 1) = true := by simp
    go_enter Try.func6, Try.ntmps6
    go_wp2_with (fail)
    refine (FL.out _).mono ?_
    rintro e w1 ⟨rfl, b1⟩
    have B1 := Lib.hid b1
    clear b1
    go_wp2_with (fail)
    refine (RF.out _).mono ?_
    rintro e w2 ⟨rfl, b2⟩
    have B2 := Lib.hid (bl_step B1.out b2)
    clear b2 B1
    go_wp2_with (fail)
    refine (DI.out _).mono ?_
    rintro e _ ⟨rfl, n3, rfl⟩
    go_wp2_with (fail)
    refine (RD.out _).mono ?_
    rintro e _ ⟨rfl, rfl⟩
    go_wp2_with (fail)
    refine (DJ.out _).mono ?_
    rintro e _ ⟨rfl, n4, rfl⟩
    have B4 := Lib.hid (below_drewN B2.out (n3 + n4))
    clear B2
    go_wp2_with (fail)
    refine (D1.out _).mono ?_
    rintro e _ ⟨rfl, n5, rfl⟩
    go_wp2_with (fail)
    refine (D2.out _).mono ?_
    rintro e _ ⟨rfl, n6, rfl⟩
    go_wp2_with (fail)
    refine (F2.out _).mono ?_
    rintro e w7 ⟨rfl, b7⟩
    have B8 := Lib.hid (bl_step (below_drewN B4.out (n5 + n6)) (by simpa only [World.drewN_drewN, Nat.add_assoc] using b7))
    clear b7
    go_wp2_with (fail)
    refine (awake_any _).mono ?_
    rintro e w9 ⟨rfl, b9⟩
    have B9 := Lib.hid (bl_step B8.out b9)
    clear b9
    go_wp2_with (fail)
    go_ret
    exact ⟨rfl, B9.out⟩
  · have h1 : (s - 1 == s + 1) = false := by rw [beq_eq_false_iff_ne]; omega
    go_enter Try.func6, Try.ntmps6
    go_wp2_with (fail)
    refine (FL.out _).mono ?_
    rintro e w1 ⟨rfl, b1⟩
    have B1 := Lib.hid b1
    clear b1
    go_wp2_with (fail)
    refine (RF.out _).mono ?_
    rintro e w2 ⟨rfl, b2⟩
    have B2 := Lib.hid (bl_step B1.out b2)
    clear b2 B1
    go_wp2_with (fail)
    refine (DI.out _).mono ?_
    rintro e _ ⟨rfl, n3, rfl⟩
    go_wp2_with (fail)
    refine (RD.out _).mono ?_
    rintro e _ ⟨rfl, rfl⟩
    go_wp2_with (fail)
    refine (DJ.out _).mono ?_
    rintro e _ ⟨rfl, n4, rfl⟩
    have B4 := Lib.hid (below_drewN B2.out (n3 + n4))
    clear B2
    go_wp2_with (fail)
    refine (D1.out _).mono ?_
    rintro e _ ⟨rfl, n5, rfl⟩
    go_wp2_with (fail)
    refine (D2.out _).mono ?_
    rintro e _ ⟨rfl, n6, rfl⟩
    go_wp2_with (fail)
    refine (F2.out _).mono ?_
    rintro e w7 ⟨rfl, b7⟩
    have B8 := Lib.hid (bl_step (below_drewN B4.out (n5 + n6)) (by simpa only [World.drewN_drewN, Nat.add_assoc] using b7))
    clear b7
    go_wp2_with (fail)
    refine (awake_any _).mono ?_
    rintro e w9 ⟨rfl, b9⟩
    have B9 := Lib.hid (bl_step B8.out b9)
    clear b9
    go_wp2_with (fail)
    go_ret
    exact ⟨rfl, B9.out⟩
theorem toList_eq_iff (a b : ByteArray) : (a.toList == b.toList) = decide (a = b) := by
  by_cases h : a = b
  · subst h; simp
  · rw [toList_ne h, decide_eq_false h]
theorem FieldsDistance_walk (a0 : ByteArray) (a1 : ByteArray) (a2 : Int) (w : World) (w0 : a0.size ≤ maxLen) (w1 : a1.size ≤ maxLen) (w2 : (Lit.int .i64 a2).wf = true) :
    Calls Try.prog 6 #[.string a0, .string a1, .int .i64 a2] w fun e w' => e = .returned (.bool true) ∧ Below w.heap.size w w' := by
  have W0 := Lib.hid w0; have W1 := Lib.hid w1
  by_cases h0 : (5000 : Int) < (a0.size : Int)
  · unfold maxLen at w0 w1
    go_enter Try.func6, Try.ntmps6
    go_wp2_with (fail)
    refine (awake_any _).mono ?_
    rintro e w9 ⟨rfl, b9⟩
    have B9 := Lib.hid b9
    clear b9
    go_wp2_with (fail)
    go_ret
    exact ⟨rfl, B9.out⟩
  · by_cases h1 : (5000 : Int) < (a1.size : Int)
    · unfold maxLen at w0 w1
      go_enter Try.func6, Try.ntmps6
      go_wp2_with (fail)
      refine (awake_any _).mono ?_
      rintro e w9 ⟨rfl, b9⟩
      have B9 := Lib.hid b9
      clear b9
      go_wp2_with (fail)
      go_ret
      exact ⟨rfl, B9.out⟩
    · have ha : a0.size ≤ 5000 := by omega
      have hb : a1.size ≤ 5000 := by omega
      by_cases hs : a0.size = a1.size
      · have e1 := distR_eq ha hs
        have e2 := distR_eq hb hs.symm
        rw [distB_comm, ← hs] at e2
        have q : ((((distB (lst a0) (lst a1) (8 * a0.size) : Nat) : Int)) == 0) = (a0.toList == a1.toList) := by
          rw [toList_eq_iff, Bool.eq_iff_iff, beq_iff_eq, decide_eq_true_eq]
          constructor
          · intro h
            exact Classical.byContradiction fun hn => dist_ne hs hn (by omega)
          · rintro rfl; rw [distB_self]; rfl
        by_cases hc : chk a0.size a2 1 = 0
        · obtain ⟨k1, k2, k3, k4, k5⟩ := chk_in hc
          obtain ⟨a, rfl⟩ := Int.eq_ofNat_of_zero_le k4
          have hl : a < 8 * (lst a0).length := by rw [lst_len]; omega
          have f1 := flipR_ok hc
          obtain ⟨x, hx⟩ : ∃ x, x = strB (flp (lst a0) a) := ⟨_, rfl⟩
          rw [← hx] at f1
          have hxs : x.size = a0.size := by rw [hx, strB_size, flp_len, lst_len]
          have hxl : lst x = flp (lst a0) a := by rw [hx, lst_strB (flp_ok (lst_ok a0) a)]
          have f2 : flipR x (a : Int) = .tuple #[.string a0, .int .i64 0] := by
            rw [flipR_ok (by rw [hxs]; exact hc), hxl, flp_flp (lst_ok a0) hl, strB_lst]
          have g1 := distR_eq (a := a0) (b := x) ha hxs.symm
          rw [hxl, dist_flp (lst_ok a0) hl, if_pos (by omega)] at g1
          have g2 := distR_eq (a := x) (b := a1) (by omega) (by omega)
          rw [hxl, hxs] at g2
          have hp := dist_flp2 (lst_ok a0) hl (lst a1) (8 * a0.size)
          have hle := distB_le (lst a0) (lst a1) (8 * a0.size)
          have hmx : x.size ≤ maxLen := by rw [hxs]; exact w0
          refine dist_good a0 a1 a x _ _ w ⟨fun W => f1 ▸ flip_any a0 a W w0, fun W => f1 ▸ refflip_any a0 a W w0, fun W => e1 ▸ dist_any a0 a1 W w0 w1, fun W => e1 ▸ refdist_any a0 a1 W w0 w1, fun W => e2 ▸ dist_any a1 a0 W w1 w0⟩ (by omega) (by omega) q (by omega)
            (Lib.hid (fun W => g1 ▸ dist_any a0 x W w0 hmx)) (Lib.hid (fun W => g2 ▸ dist_any x a1 W hmx w1)) (Lib.hid (fun W => f2 ▸ flip_any x a W hmx)) (by omega)
        · have f1 : flipR a0 a2 = .tuple #[emp, .int .i64 (chk a0.size a2 1)] := by unfold flipR; rw [if_neg hc]
          unfold emp at f1
          exact dist_err a0 a1 a2 _ _ _ w ⟨fun W => f1 ▸ flip_any a0 a2 W w0, fun W => f1 ▸ refflip_any a0 a2 W w0, fun W => e1 ▸ dist_any a0 a1 W w0 w1, fun W => e1 ▸ refdist_any a0 a1 W w0 w1, fun W => e2 ▸ dist_any a1 a0 W w1 w0⟩ (by omega) (by omega) hc q
      · have e1 := distR_ne ha hb hs
        have e2 := distR_ne hb ha (Ne.symm hs)
        obtain ⟨x, er, f1⟩ := flipR_form a0 a2
        exact dist_other a0 a1 a2 x er w ⟨fun W => f1 ▸ flip_any a0 a2 W w0, fun W => f1 ▸ refflip_any a0 a2 W w0, fun W => e1 ▸ dist_any a0 a1 W w0 w1, fun W => e1 ▸ refdist_any a0 a1 W w0 w1, fun W => e2 ▸ dist_any a1 a0 W w1 w0⟩ (by omega) (by omega)
end Go.Proofs.Ytjeaccpocpfkgaa
