/-
  The walk of the law that Pack and Unpack return what the document says. Conditions: none.
-/
import Derived.Test.YtjeaccpocpfkgaaLend
namespace Go.Proofs.Ytjeaccpocpfkgaa
open Go.RowKit Kit
set_option linter.unusedVariables false
set_option maxRecDepth 100000 in
set_option maxHeartbeats 1600000 in
theorem packs_in (a a' : Option Addr) (n n' c c' : Nat) (X V : List Int) (b : ByteArray) (w : World) (hX : Nums .i64 w a n c X) (hV : Nums .u64 w a' n' c' V) (hV64 : ∀ x ∈ V, 0 ≤ x ∧ x < 18446744073709551616) (hz : a = none → n = 0 ∧ c = 0) (hz' : a' = none → n' = 0 ∧ c' = 0) (h1 : n ≤ 500) (h2 : n' ≤ 500) (h3 : b.size ≤ 5000) :
    Calls Try.prog 7 #[.slice a n c, .slice a' n' c', .string b] w fun e w' => e = .returned (.bool true) ∧ Below w.heap.size w w' := by
  obtain ⟨i0, hi, hz0, hz1, hz2⟩ := info_parts info23
  have l4 : n ≤ 1000 := by omega
  have l5 : b.size ≤ maxLen := by unfold maxLen; omega
  obtain ⟨S, E, hp, _⟩ := packR_form X V
  have PA := Lib.hid (fun W q q' qc qc' h h' => pack_any X V q q' n n' qc qc' W h h' l4 (by omega) hV64)
  have PR := Lib.hid (fun W h h' => refpack_any X V a a' n n' c c' W h h' l4 (by omega) hV64)
  rw [hp] at PA PR
  have UA := Lib.hid (fun W q qc h => (un_any X q n qc b W h l4 l5).mono (fun e w' h => up_all h))
  have UR := Lib.hid (fun W h => (refun_any X a n c b W h l4 l5).mono (fun e w' h => up_all h))
  have hul := upL_len X b
  obtain ⟨L, hL⟩ : ∃ L, L = upL X b := ⟨_, rfl⟩
  obtain ⟨F, hF⟩ : ∃ F, F = upE X b := ⟨_, rfl⟩
  rw [← hL, ← hF] at UA UR
  rw [← hL, ← hX.1] at hul
  have l1 : ¬ (500 : Int) < (n : Int) := by omega
  have l2 : ¬ (500 : Int) < (n' : Int) := by omega
  have l3 : ¬ (5000 : Int) < (b.size : Int) := by omega
  have LA := Lib.hid (fun W h => lend_any X a n c W h l4 hz)
  have HX := Lib.hid hX; have HV := Lib.hid hV; have N1 := Lib.hid hX.1; have N2 := Lib.hid hV.1; have V64 := Lib.hid hV64; have HZ' := Lib.hid hz'
  have LL := Lib.hid (And.intro h1 (And.intro h2 (And.intro l4 hul)))
  have hcap2 := hV.2.2.1
  clear hX hV hp hV64 h1 h3 l4 l5 hz hz' hL hF hul
  go_enter Try.func7, Try.ntmps7
  go_wp2_with (fail)
  refine (LA.out _ HX.out).mono ?_
  rintro e w1 ⟨v, rfl, hl, b1⟩
  obtain ⟨q, qc, rfl, hq⟩ := hl.nums N1.out
  have B1 := Lib.hid b1; have HL := Lib.hid hl; have HQ := Lib.hid hq
  have HV1 := Lib.hid (HV.out.below b1)
  clear b1 hl hq
  go_wp2_with (at_builtin; refine wpList_append_own_any _ rfl _ _ 42 rfl w.heap.size 23 i0 _ 1 8 Try.underlying42 hi hz0 hz1 hz2 rfl (by decide) _ _ _ rfl (World.ownsRow_made w1 #[] 0 B1.out.size (by simp [maxLen]) rfl) a' n' c' (V.map (Value.int .u64)) rfl (by rw [List.length_map, N2.out, Nat.mul_one]) HZ'.out (fun ad e => by subst e; exact (HV1.out.below (bl_alloc (Below.refl _ _) _)).src) (ints_oneCell _ _) (by unfold maxLen; omega) (by omega) (Nat.le_trans B1.out.size (by simp)) ?_; intro g w2 hown2 hg2; replace hg2 := Lib.hid hg2; rw [Nat.zero_add, List.nil_append] at hown2; replace hown2 := Lib.hid hown2)
  obtain ⟨q', qc', rfl, hG⟩ := own_nums (k := .u64) hown2.out
  have d2 : Below w1.heap.size w1 w2 := (bl_alloc (Below.refl _ _) _).grown hg2.out (by simp) (fun k e => by cases e; exact Nat.le_refl _)
  have B2 := Lib.hid (bl_step B1.out d2)
  have HL2 := Lib.hid (HL.out.calm d2); have HQ2 := Lib.hid (HQ.out.below d2); have HG2 := Lib.hid hG
  clear d2 hG hg2
  refine (PA.out _ _ _ _ _ HQ2.out HG2.out).mono ?_
  rintro e w3 ⟨rfl, b3⟩
  have B3 := Lib.hid (bl_step B2.out b3); have HL3 := Lib.hid (HL2.out.calm b3); have HQ3 := Lib.hid (HQ2.out.below b3); have HG3 := Lib.hid (HG2.out.below b3)
  clear b3
  go_wp2_with (fail)
  refine (PR.out _ (HX.out.below B3.out) (HV.out.below B3.out)).mono ?_
  rintro e w4 ⟨rfl, b4⟩
  have B4 := Lib.hid (bl_step B3.out b4); have HL4 := Lib.hid (HL3.out.calm b4); have HQ4 := Lib.hid (HQ3.out.below b4); have HG4 := Lib.hid (HG3.out.below b4)
  clear b4
  go_wp2_with (fail)
  refine (UA.out _ _ _ HQ4.out).mono ?_
  rintro e w5 ⟨u, uc, rfl, hu, b5⟩
  have B5 := Lib.hid (bl_step B4.out b5); have HL5 := Lib.hid (HL4.out.calm b5); have HG5 := Lib.hid (HG4.out.below b5); have HU5 := Lib.hid hu
  clear b5 hu
  go_wp2_with (fail)
  refine (UR.out _ (HX.out.below B5.out)).mono ?_
  rintro e w6 ⟨y, yc, rfl, hy, b6⟩
  have B6 := Lib.hid (bl_step B5.out b6); have HL6 := Lib.hid (HL5.out.calm b6); have HG6 := Lib.hid (HG5.out.below b6); have HU6 := Lib.hid (HU5.out.below b6); have HY6 := Lib.hid hy
  clear b6 hy
  go_wp2_with (fail)
  refine (same_any L L u y L.length L.length uc yc _ HU6.out HY6.out (by have := LL.out; omega) (by have := LL.out; omega)).mono ?_
  rintro e _ ⟨rfl, nq, rfl⟩
  have b7 := below_drewN (Below.refl w6.heap.size w6) nq
  have B7 := Lib.hid (bl_step B6.out b7); have HL7 := Lib.hid (HL6.out.calm b7); have HG7 := Lib.hid (HG6.out.below b7)
  obtain ⟨w7, hw7⟩ : ∃ w7, w7 = w6.drewN nq := ⟨_, rfl⟩
  rw [← hw7] at B7 HL7 HG7 ⊢
  clear hw7 b7
  rw [decide_eq_true rfl]
  go_wp2_with (fail)
  refine (same_any V V q' a' n' n' qc' c' _ HG7.out (HV.out.below B7.out) (by omega) (by omega)).mono ?_
  rintro e _ ⟨rfl, nq2, rfl⟩
  have b8 := below_drewN (Below.refl w7.heap.size w7) nq2
  have B8 := Lib.hid (bl_step B7.out b8); have HL8 := Lib.hid (HL7.out.calm b8)
  obtain ⟨w8, hw8⟩ : ∃ w8, w8 = w7.drewN nq2 := ⟨_, rfl⟩
  rw [← hw8] at B8 HL8 ⊢
  clear hw8 b8
  rw [decide_eq_true rfl]
  go_wp2_with (fail)
  refine (kept_any _ X a _ n c _ HL8.out (HX.out.below B8.out) LL.out.2.2.1).mono ?_
  rintro e w9 ⟨rfl, b9⟩
  have B9 := Lib.hid (bl_step B8.out b9)
  clear b9
  go_wp2_with (fail)
  refine (awake_any _).mono ?_
  rintro e w10 ⟨rfl, b10⟩
  have B10 := Lib.hid (bl_step B9.out b10)
  clear b10
  go_wp2_with (fail)
  go_ret
  exact ⟨rfl, B10.out⟩
set_option maxRecDepth 100000 in
set_option maxHeartbeats 1600000 in
theorem FieldsPacks_walk (a0 : Value) (a1 : Value) (a2 : ByteArray) (w : World) (w0 : Kit.SlIn [.inl .i64] w a0) (w1 : Kit.SlIn [.inl .u64] w a1) (w2 : a2.size ≤ maxLen) :
    Calls Try.prog 7 #[a0, a1, .string a2] w fun e w' => e = .returned (.bool true) ∧ Below w.heap.size w w' := by
  obtain ⟨a, n, c, X, rfl, hX, _, hz⟩ := slIn_nums w0
  obtain ⟨a', n', c', V, rfl, hV, hV64, hz'⟩ := slIn_nums w1
  by_cases h1 : n ≤ 500
  · by_cases h2 : n' ≤ 500
    · by_cases h3 : a2.size ≤ 5000
      · exact packs_in a a' n n' c c' X V a2 w hX hV (wf_u64s hV64) hz hz' h1 h2 h3
      · unfold maxLen at w2
        have l1 : ¬ (500 : Int) < (n : Int) := by omega
        have l2 : ¬ (500 : Int) < (n' : Int) := by omega
        have l3 : (5000 : Int) < (a2.size : Int) := by omega
        clear w0 w1 hX hV hV64 h1 h2 h3
        go_enter Try.func7, Try.ntmps7
        go_wp2_with (fail)
        refine (awake_any _).mono ?_
        rintro e w7 ⟨rfl, b7⟩
        go_wp2_with (fail)
        go_ret
        exact ⟨rfl, b7⟩
    · have hc1 := hV.2.1
      have hc2 := hV.2.2.1
      unfold maxLen at hc2
      have l1 : ¬ (500 : Int) < (n : Int) := by omega
      have l2 : (500 : Int) < (n' : Int) := by omega
      clear w0 w1 hX hV hV64 h1 h2
      go_enter Try.func7, Try.ntmps7
      go_wp2_with (fail)
      refine (awake_any _).mono ?_
      rintro e w7 ⟨rfl, b7⟩
      go_wp2_with (fail)
      go_ret
      exact ⟨rfl, b7⟩
  · have hc1 := hX.2.1
    have hc2 := hX.2.2.1
    unfold maxLen at hc2
    have l1 : (500 : Int) < (n : Int) := by omega
    clear w0 w1 hX hV hV64 h1
    go_enter Try.func7, Try.ntmps7
    go_wp2_with (fail)
    refine (awake_any _).mono ?_
    rintro e w7 ⟨rfl, b7⟩
    go_wp2_with (fail)
    go_ret
    exact ⟨rfl, b7⟩
end Go.Proofs.Ytjeaccpocpfkgaa
