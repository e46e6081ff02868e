/-
  The law FieldsKeeps: its walk. Conditions: those of its arguments.
-/
import Derived.Test.YtjeaccpocpfkgaaLawPuts
namespace Go.Proofs.Ytjeaccpocpfkgaa
open Go.RowKit Kit
set_option linter.unusedVariables false
def errP (n a wd : Int) (v : Nat) : Int := if chk n a wd = 0 then if v < 2 ^ wd.toNat then 0 else 7 else chk n a wd
def putS (d : ByteArray) (a wd : Int) (v : Nat) : ByteArray := if errP d.size a wd v = 0 then strB (put (lst d) a.toNat wd.toNat v) else ⟨#[]⟩
theorem putR_eq (d : ByteArray) (a wd : Int) (v : Nat) : putR d a wd v = .tuple #[.string (putS d a wd v), .int .i64 (errP d.size a wd v)] := by
  unfold putR putS errP emp
  by_cases h : chk d.size a wd = 0
  · rw [if_pos h, if_pos h]
    by_cases h2 : v < 2 ^ wd.toNat
    · rw [if_pos h2, if_pos h2]; rfl
    · rw [if_neg h2, if_neg h2]; rfl
  · rw [if_neg h, if_neg h, if_neg h]
theorem errP_zero {n a wd : Int} {v : Nat} (h : errP n a wd v = 0) : chk n a wd = 0 ∧ v < 2 ^ wd.toNat := by
  unfold errP at h
  by_cases h1 : chk n a wd = 0
  · rw [if_pos h1] at h
    by_cases h2 : v < 2 ^ wd.toNat
    · exact ⟨h1, h2⟩
    · rw [if_neg h2] at h; cases h
  · rw [if_neg h1] at h; exact absurd h h1
theorem putS_size (d : ByteArray) (a wd : Int) (v : Nat) (h : errP d.size a wd v = 0) : (putS d a wd v).size = d.size := by
  unfold putS; rw [if_pos h, strB_size, put_len, lst_len]
theorem lst_putS (d : ByteArray) (a wd : Int) (v : Nat) (h : errP d.size a wd v = 0) : lst (putS d a wd v) = put (lst d) a.toNat wd.toNat v := by
  unfold putS; rw [if_pos h, lst_strB (put_ok (lst_ok d) _ _ _)]
/-- Two changes lie in blocks made since. -/
structure Chg2 (w0 : World) (B : Nat) (d : ByteArray) (a wd v : Int) (d' : ByteArray) (a' wd' v' : Int) (w : World) : Prop where
  one : ChgI w0 B d a wd v w
  two : ChgI w0 (B + 1) d' a' wd' v' w
theorem Chg2.step {w0 w w' : World} {B : Nat} {d : ByteArray} {a wd v : Int} {d' : ByteArray} {a' wd' v' : Int} (h : Chg2 w0 B d a wd v d' a' wd' v' w) (hb : Below w.heap.size w w') : Chg2 w0 B d a wd v d' a' wd' v' w' := ⟨h.one.step hb, h.two.step hb⟩
theorem Chg2.new (w : World) (t : TypeId) (d : ByteArray) (a wd v : Int) (d' : ByteArray) (a' wd' v' : Int) :
    Chg2 w w.heap.size d a wd v d' a' wd' v' ((w.alloc (.cells #[.string d, .int .i64 a, .int .i64 wd, .int .u64 v] t)).alloc (.cells #[.string d', .int .i64 a', .int .i64 wd', .int .u64 v'] t)) :=
  ⟨(ChgI.new w t d a wd v).step (bl_alloc (Below.refl _ _) _), by
    have h := ChgI.new (w.alloc (.cells #[.string d, .int .i64 a, .int .i64 wd, .int .u64 v] t)) t d' a' wd' v'
    rw [World.size_alloc] at h
    exact ⟨h.chg, h.lt, bl_alloc (bl_alloc (Below.refl _ _) _) _⟩⟩
theorem num_one (L : List Nat) (a : Nat) : numB L a 1 = bitOf L a := by simp [numB]
theorem get_bit (d : ByteArray) (i : Nat) (hd : d.size ≤ 5000) (hi : i < 8 * d.size) : getR d (i : Int) 1 = .tuple #[.int .u64 (bitOf (lst d) i : Nat), .int .i64 0] := by
  unfold getR
  rw [if_pos (by unfold chk; rw [if_neg (by omega), if_neg (by omega)])]
  rw [Int.toNat_natCast, show (1 : Int).toNat = 1 from rfl, num_one]
set_option maxRecDepth 100000 in
set_option maxHeartbeats 3200000 in
theorem keeps_good (d : ByteArray) (a wd : Int) (v : Nat) (d' : ByteArray) (a' wd' : Int) (v' : Nat) (w : World) (hd : d.size ≤ 5000) (hv : v < 18446744073709551616) (hv' : v' < 18446744073709551616) (he : errP d.size a wd v = 0) :
    Calls Try.prog 5 #[.agg #[.string d, .int .i64 a, .int .i64 wd, .int .u64 (v : Int)], .agg #[.string d', .int .i64 a', .int .i64 wd', .int .u64 (v' : Int)]] w fun e w' => e = .returned (.bool true) ∧ Below w.heap.size w w' := by
  obtain ⟨hc, hf⟩ := errP_zero he
  obtain ⟨k1, k2, k3, k4, k5⟩ := chk_in hc
  obtain ⟨a, rfl⟩ := Int.eq_ofNat_of_zero_le k4
  obtain ⟨wd, rfl⟩ := Int.eq_ofNat_of_zero_le (show 0 ≤ wd by omega)
  rw [Int.toNat_natCast] at hf
  have hml : d.size ≤ maxLen := by unfold maxLen; omega
  have P1 := Lib.hid (fun W => put_any d a wd v hv W hml)
  rw [putR_eq, he] at P1
  have hbs := putS_size d a wd v he
  have hbl := lst_putS d a wd v he
  rw [Int.toNat_natCast, Int.toNat_natCast] at hbl
  obtain ⟨b, hbE⟩ : ∃ b, b = putS d a wd v := ⟨_, rfl⟩
  rw [← hbE] at P1 hbs hbl
  have hmlb : b.size ≤ maxLen := by rw [hbs]; exact hml
  have G1 := Lib.hid (fun W => get_any b a wd W hmlb)
  have hg1 : getR b (a : Int) (wd : Int) = .tuple #[.int .u64 (v : Int), .int .i64 0] := by
    unfold getR
    rw [hbs, if_pos hc, Int.toNat_natCast, Int.toNat_natCast, hbl, numB_put (lst_ok d) (by rw [lst_len]; omega) hf]
  rw [hg1] at G1
  have GB : Hid (∀ (i : Nat), i < 8 * b.size → ∀ W, Calls Try.prog 10 #[.string b, .int .i64 (i : Int), .int .i64 1] W fun e w' => e = .returned (.tuple #[.int .u64 (bitOf (lst b) i : Nat), .int .i64 0]) ∧ Below W.heap.size W w') := Lib.hid (fun i hi W => by
    have := get_any b (i : Int) 1 W hmlb
    rw [get_bit b i (by omega) hi] at this
    exact this)
  have GD : Hid (∀ (i : Nat), i < 8 * d.size → ∀ W, Calls Try.prog 10 #[.string d, .int .i64 (i : Int), .int .i64 1] W fun e w' => e = .returned (.tuple #[.int .u64 (bitOf (lst d) i : Nat), .int .i64 0]) ∧ Below W.heap.size W w') := Lib.hid (fun i hi W => by
    have := get_any d (i : Int) 1 W hml
    rw [get_bit d i (by omega) hi] at this
    exact this)
  have BITS : Hid (∀ i, (i < a ∨ a + wd ≤ i) → bitOf (lst b) i = bitOf (lst d) i) := Lib.hid (fun i hi => by
    rw [hbl, put_bit (lst_ok d) _ _ (by rw [lst_len]; omega), if_neg (by omega)])
  have P2 := Lib.hid (fun W => put_any b a' wd' v' hv' W hmlb)
  have P3 := Lib.hid (fun W => put_any d a' wd' v' hv' W hml)
  rw [putR_eq] at P2 P3
  rw [hbs] at P2
  have P4 := Lib.hid (fun W => put_any (putS d a' wd' v') a wd v hv W)
  have HBL := Lib.hid hbl; have HBS := Lib.hid hbs; have HC := Lib.hid hc
  have hsb : (b.size : Int) = (d.size : Int) := by omega
  have HV := Lib.hid hv; have HML := Lib.hid hml; have HF := Lib.hid hf
  clear hg1 hbl hbE he hmlb hml hv hv' hc
  go_enter Try.func5, Try.ntmps5
  go_wp2_with (fail)
  obtain ⟨W, hW⟩ : ∃ W, W = (w.alloc (.cells #[.string d, .int .i64 a, .int .i64 wd, .int .u64 (v : Int)] 31)).alloc (.cells #[.string d', .int .i64 a', .int .i64 wd', .int .u64 (v' : Int)] 31) := ⟨_, rfl⟩
  have C1 : Hid (Chg2 w w.heap.size d a wd v d' a' wd' v' W) := Lib.hid (by rw [hW]; exact Chg2.new w 31 _ _ _ _ _ _ _ _)
  obtain ⟨B, hB⟩ : ∃ B, B = w.heap.size := ⟨_, rfl⟩
  rw [← hB] at C1
  rw [← hW, ← hB]
  clear hW hB
  refine (P1.out _).mono ?_
  rintro e w5 ⟨rfl, b5⟩
  have C5 := Lib.hid (C1.out.step b5)
  clear b5 C1
  have d0 := C5.out.one.chg.c0; have d1 := C5.out.one.chg.c1; have d2 := C5.out.one.chg.c2; have d3 := C5.out.one.chg.c3; have dl := C5.out.one.lt
  go_wp2_with (fail)
  clear d0 d1 d2 d3 dl
  refine (G1.out _).mono ?_
  rintro e w6 ⟨rfl, b6⟩
  have C6 := Lib.hid (C5.out.step b6)
  clear b6 C5
  have d0 := C6.out.one.chg.c0; have d1 := C6.out.one.chg.c1; have d2 := C6.out.one.chg.c2; have d3 := C6.out.one.chg.c3; have dl := C6.out.one.lt
  go_wp2_with (fail)
  clear d0 d1 d2 d3 dl
  go_loopw [9, 10, 11, 12, 13] (fun i _ _ _ _ wr => ∃ k : Nat, k ≤ 8 * b.size ∧ i = .int .i64 k ∧ Chg2 w B d a wd v d' a' wd' v' wr) (fun i _ _ _ _ _ => 8 * b.size - (intOf i).toNat)
  case atStart => exact ⟨0, by omega, rfl, C6.out⟩
  case round =>
    clear C6
    obtain ⟨k, hk, rfl, hC⟩ := hrel
    have C6 := Lib.hid hC
    clear hC
    by_cases hlt : k < 8 * b.size
    · have hlt' : (k : Int) < 8 * (b.size : Int) := by omega
      have hltd : k < 8 * d.size := by omega
      go_wp2_with (fail)
      refine (GB.out k hlt _).mono ?_
      rintro e w7 ⟨rfl, b7⟩
      have C7 := Lib.hid (C6.out.step b7)
      clear b7 C6
      have d0 := C7.out.one.chg.c0; have d1 := C7.out.one.chg.c1; have d2 := C7.out.one.chg.c2; have d3 := C7.out.one.chg.c3; have dl := C7.out.one.lt
      go_wp2_with (fail)
      clear d0 d1 d2 d3 dl
      refine (GD.out k hltd _).mono ?_
      rintro e w8 ⟨rfl, b8⟩
      have C8 := Lib.hid (C7.out.step b8)
      clear b8 C7
      have d0 := C8.out.one.chg.c0; have d1 := C8.out.one.chg.c1; have d2 := C8.out.one.chg.c2; have d3 := C8.out.one.chg.c3; have dl := C8.out.one.lt
      by_cases hin : k < a ∨ a + wd ≤ k
      · rw [BITS.out k hin]
        rcases hin with h1 | h1
        · have h1' : (k : Int) < (a : Int) := by omega
          go_wp2_with (fail)
          go_roundw
          case rel => exact ⟨k + 1, by omega, by simp, C8.out⟩
          case measure => simp [intOf]; omega
        · have h1' : (a : Int) + (wd : Int) ≤ (k : Int) := by omega
          have h2' : ¬ (k : Int) < (a : Int) := by omega
          go_wp2_with (fail)
          go_roundw
          case rel => exact ⟨k + 1, by omega, by simp, C8.out⟩
          case measure => simp [intOf]; omega
      · have h1' : ¬ (a : Int) + (wd : Int) ≤ (k : Int) := by omega
        have h2' : ¬ (k : Int) < (a : Int) := by omega
        clear hin
        go_wp2_with (fail)
        go_roundw
        case rel => exact ⟨k + 1, by omega, by simp, C8.out⟩
        case measure => simp [intOf]; omega
    · have hlt' : ¬ (k : Int) < 8 * (b.size : Int) := by omega
      have d0 := C6.out.two.chg.c0; have d1 := C6.out.two.chg.c1; have d2 := C6.out.two.chg.c2; have d3 := C6.out.two.chg.c3; have dl := C6.out.two.lt
      go_wp2_with (fail)
      clear d0 d1 d2 d3 dl
      have hbe : errP (b.size : Int) a' wd' v' = errP (d.size : Int) a' wd' v' := by rw [hsb]
      have LS1 : Hid (errP (d.size : Int) a' wd' v' = 0 → putS b a' wd' v' = strB (put (put (lst d) a wd v) a'.toNat wd'.toNat v')) := Lib.hid (fun h => by unfold putS; rw [hbe, if_pos h, HBL.out])
      have LS2 : Hid (errP (d.size : Int) a' wd' v' = 0 → (putS d a' wd' v').size = d.size ∧ lst (putS d a' wd' v') = put (lst d) a'.toNat wd'.toNat v') := Lib.hid (fun h => ⟨putS_size d a' wd' v' h, lst_putS d a' wd' v' h⟩)
      have CE : Hid (errP (d.size : Int) a' wd' v' = 0 → 1 ≤ wd' ∧ wd' ≤ 64 ∧ 0 ≤ a' ∧ a' + wd' ≤ 8 * d.size) := Lib.hid (fun h => (chk_in (errP_zero h).1).2)
      have P5 : Hid (errP (d.size : Int) a' wd' v' = 0 → (a + wd ≤ a'.toNat ∨ a'.toNat + wd'.toNat ≤ a) → ∀ W, Calls Try.prog 14 #[.string (putS d a' wd' v'), .int .i64 (a : Int), .int .i64 (wd : Int), .int .u64 (v : Int)] W fun e w' => e = .returned (.tuple #[.string (putS b a' wd' v'), .int .i64 0]) ∧ Below W.heap.size W w') := Lib.hid (fun h hdj W => by
        obtain ⟨h1, h2⟩ := LS2.out h
        obtain ⟨c1, c2, c3, c4⟩ := CE.out h
        have := P4.out W (by rw [h1]; exact HML.out)
        unfold putR at this
        rw [h1, HC.out, if_pos rfl, Int.toNat_natCast, Int.toNat_natCast, if_pos HF.out, h2, put_comm (lst_ok d) (by rw [lst_len]; omega) (by rw [lst_len]; omega) (by omega), ← LS1.out h] at this
        exact this)
      obtain ⟨E, hE⟩ : ∃ E, E = errP (d.size : Int) a' wd' v' := ⟨_, rfl⟩
      obtain ⟨S1, hS1⟩ : ∃ S, S = putS b a' wd' v' := ⟨_, rfl⟩
      obtain ⟨S2, hS2⟩ : ∃ S, S = putS d a' wd' v' := ⟨_, rfl⟩
      rw [← hS1] at P2 P5
      rw [← hS2] at P3 P5
      rw [← hE] at P2 P3 P5 CE
      clear LS1 LS2 P4 hS1 hS2 hE hbe P1 G1 GB GD BITS HBL HBS HC HV HF
      refine (P2.out _).mono ?_
      rintro e w9 ⟨rfl, b9⟩
      have C9 := Lib.hid (C6.out.step b9)
      clear b9 C6
      have d0 := C9.out.one.chg.c0; have dl := C9.out.one.lt
      have f1 := C9.out.two.chg.c1; have f2 := C9.out.two.chg.c2; have f3 := C9.out.two.chg.c3; have fl := C9.out.two.lt
      go_wp2_with (fail)
      clear d0 dl f1 f2 f3 fl
      refine (P3.out _).mono ?_
      rintro e w10 ⟨rfl, b10⟩
      have C10 := Lib.hid (C9.out.step b10)
      clear b10 C9
      by_cases hE : E = 0
      · subst hE
        obtain ⟨c1, c2, c3, c4⟩ := CE.out rfl
        have d0 := C10.out.one.chg.c0; have d1 := C10.out.one.chg.c1; have d2 := C10.out.one.chg.c2; have d3 := C10.out.one.chg.c3; have dl := C10.out.one.lt
        have f1 := C10.out.two.chg.c1; have f2 := C10.out.two.chg.c2; have f3 := C10.out.two.chg.c3; have fl := C10.out.two.lt
        have c5 : ¬ 8 * (b.size : Int) < a' := by omega
        by_cases o1 : a' < (a : Int) + (wd : Int)
        · by_cases o2 : (a : Int) < a' + wd'
          · go_wp2_with (fail)
            refine (awake_any _).mono ?_
            rintro e w11 ⟨rfl, b11⟩
            have C11 := Lib.hid (C10.out.step b11)
            clear b11
            go_wp2_with (fail)
            go_ret
            exact ⟨rfl, C11.out.one.below⟩
          · have P6 := Lib.hid (P5.out rfl (by omega))
            go_wp2_with (fail)
            refine (P6.out _).mono ?_
            rintro e w11 ⟨rfl, b11⟩
            have C11 := Lib.hid (C10.out.step b11)
            clear b11
            go_wp2_with (fail)
            refine (awake_any _).mono ?_
            rintro e w12 ⟨rfl, b12⟩
            have C12 := Lib.hid (C11.out.step b12)
            clear b12
            go_wp2_with (fail)
            go_ret
            exact ⟨rfl, C12.out.one.below⟩
        · have P6 := Lib.hid (P5.out rfl (by omega))
          go_wp2_with (fail)
          refine (P6.out _).mono ?_
          rintro e w11 ⟨rfl, b11⟩
          have C11 := Lib.hid (C10.out.step b11)
          clear b11
          go_wp2_with (fail)
          refine (awake_any _).mono ?_
          rintro e w12 ⟨rfl, b12⟩
          have C12 := Lib.hid (C11.out.step b12)
          clear b12
          go_wp2_with (fail)
          go_ret
          exact ⟨rfl, C12.out.one.below⟩
      · have hne : (E != 0) = true := by simpa using hE
        clear hE
        go_wp2_with (fail)
        refine (awake_any _).mono ?_
        rintro e w11 ⟨rfl, b11⟩
        have C11 := Lib.hid (C10.out.step b11)
        clear b11
        go_wp2_with (fail)
        go_ret
        exact ⟨rfl, C11.out.one.below⟩
set_option maxRecDepth 100000 in
set_option maxHeartbeats 1600000 in
theorem FieldsKeeps_walk (a0_0 : ByteArray) (a0_1 : Int) (a0_2 : Int) (a0_3 : Int) (a1_0 : ByteArray) (a1_1 : Int) (a1_2 : Int) (a1_3 : Int) (w : World) (w0_0 : a0_0.size ≤ maxLen) (w0_1 : (Lit.int .i64 a0_1).wf = true) (w0_2 : (Lit.int .i64 a0_2).wf = true) (w0_3 : (Lit.int .u64 a0_3).wf = true) (w1_0 : a1_0.size ≤ maxLen) (w1_1 : (Lit.int .i64 a1_1).wf = true) (w1_2 : (Lit.int .i64 a1_2).wf = true) (w1_3 : (Lit.int .u64 a1_3).wf = true) :
    Calls Try.prog 5 #[.agg #[.string a0_0, .int .i64 a0_1, .int .i64 a0_2, .int .u64 a0_3], .agg #[.string a1_0, .int .i64 a1_1, .int .i64 a1_2, .int .u64 a1_3]] w fun e w' => e = .returned (.bool true) ∧ Below w.heap.size w w' := by
  have W0 := Lib.hid w0_0
  have hv := wfu64 w0_3
  obtain ⟨v, rfl⟩ := Int.eq_ofNat_of_zero_le hv.1
  have hv' := wfu64 w1_3
  obtain ⟨v', rfl⟩ := Int.eq_ofNat_of_zero_le hv'.1
  unfold maxLen at w0_0 w1_0
  by_cases hl : (5000 : Int) < (a0_0.size : Int)
  · clear hv hv' w0_3 w1_3
    go_enter Try.func5, Try.ntmps5
    go_wp2_with (fail)
    refine (awake_any _).mono ?_
    rintro e w9 ⟨rfl, b9⟩
    have B9 := Lib.hid b9
    clear b9
    go_wp2_with (fail)
    go_ret
    exact ⟨rfl, bl_step (bl_alloc (bl_alloc (Below.refl _ _) _) _) B9.out⟩
  · by_cases he : errP a0_0.size a0_1 a0_2 v = 0
    · exact keeps_good a0_0 a0_1 a0_2 v a1_0 a1_1 a1_2 v' w (by omega) (by omega) (by omega) he
    · have P1 := Lib.hid (fun W => put_any a0_0 a0_1 a0_2 v (by omega) W W0.out)
      rw [putR_eq] at P1
      have hS : putS a0_0 a0_1 a0_2 v = ⟨#[]⟩ := by unfold putS; rw [if_neg he]
      rw [hS] at P1
      obtain ⟨E, hE⟩ : ∃ E, E = errP (a0_0.size : Int) a0_1 a0_2 v := ⟨_, rfl⟩
      rw [← hE] at P1 he
      have hne : (E != 0) = true := by simpa using he
      clear hv hv' w0_3 w1_3 he hE hS
      go_enter Try.func5, Try.ntmps5
      go_wp2_with (fail)
      refine (P1.out _).mono ?_
      rintro e w8 ⟨rfl, b8⟩
      have B8 := Lib.hid b8
      clear b8
      go_wp2_with (fail)
      refine (awake_any _).mono ?_
      rintro e w9 ⟨rfl, b9⟩
      have B9 := Lib.hid (bl_step (bl_step (bl_alloc (bl_alloc (Below.refl _ _) _) _) B8.out) b9)
      clear b9
      go_wp2_with (fail)
      go_ret
      exact ⟨rfl, B9.out⟩
end Go.Proofs.Ytjeaccpocpfkgaa
