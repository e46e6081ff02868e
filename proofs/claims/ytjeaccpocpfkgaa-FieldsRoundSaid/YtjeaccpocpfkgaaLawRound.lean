/-
  The walk of the law that Pack and Unpack invert each other. Conditions: none.
-/
import Derived.Test.YtjeaccpocpfkgaaArgs
namespace Go.Proofs.Ytjeaccpocpfkgaa
open Go.RowKit Kit
set_option linter.unusedVariables false
theorem unK_64 {X : List Int} {d : ByteArray} (h : upE X d = 0) : ∀ x ∈ unK X d X.length, 0 ≤ x ∧ x < 18446744073709551616 := by
  obtain ⟨h1, h2, h3, h4⟩ := upE_ok h
  intro x hx
  unfold unK at hx
  obtain ⟨i, hi, rfl⟩ := List.mem_map.1 hx
  have hi := List.mem_range.1 hi
  have h5 := numB_lt (lst d) (offs (wid X) i) (wid X i)
  have h6 : wid X i ≤ 64 := by have := h2 i hi; unfold wid; omega
  have h7 : 2 ^ wid X i ≤ 2 ^ 64 := Nat.pow_le_pow_right (by decide) h6
  have h8 : (2 : Nat) ^ 64 = 18446744073709551616 := by decide
  omega
set_option maxRecDepth 100000 in
set_option maxHeartbeats 1600000 in
theorem round_in (a a' : Option Addr) (n n' c c' : Nat) (X V : List Int) (b : ByteArray) (w : World) (hX : Nums .i64 w a n c X) (hV : Nums .u64 w a' n' c' V) (hV64 : ∀ x ∈ V, 0 ≤ x ∧ x < 18446744073709551616) (h1 : n ≤ 500) (h2 : n' ≤ 500) (h3 : b.size ≤ 5000) :
    Calls Try.prog 8 #[.slice a n c, .slice a' n' c', .string b] w fun e w' => e = .returned (.bool true) ∧ Below w.heap.size w w' := by
  obtain ⟨S, E, hp, hE⟩ := packR_form X V
  have PA := Lib.hid (fun W h h' => pack_any X V a a' n n' c c' W h h' (by omega) (by omega) hV64)
  rw [hp] at PA
  have l1 : ¬ (500 : Int) < (n : Int) := by omega
  have l2 : ¬ (500 : Int) < (n' : Int) := by omega
  have l3 : ¬ (5000 : Int) < (b.size : Int) := by omega
  have l4 : n ≤ 1000 := by omega
  have l5 : b.size ≤ maxLen := by unfold maxLen; omega
  have HX := Lib.hid hX; have HV := Lib.hid hV; have HE := Lib.hid hE; have N1 := Lib.hid hX.1; have N2 := Lib.hid hV.1; have V64 := Lib.hid hV64
  have UB := Lib.hid (fun W h => un_any X a n c b W h l4 l5)
  have L := Lib.hid (And.intro h1 (And.intro l4 l5))
  clear hX hV hE hp hV64 h1 h2 h3 l4 l5
  go_enter Try.func8, Try.ntmps8
  go_wp2_with (fail)
  refine (PA.out _ HX.out HV.out).mono ?_
  rintro e w1 ⟨rfl, b1⟩
  have B1 := Lib.hid b1
  clear b1
  have rest : ∀ W : World, Below w.heap.size w W → True := fun _ _ => trivial
  by_cases h0 : E = 0
  · subst h0
    obtain ⟨k1, k2, k3, k4, rfl⟩ := HE.out rfl
    have hun := pack_un X V k1 (fun x hx => (V64.out x hx).1) k4
    have hup := pack_upE X V k2 k3
    have hsz := packB_size X V
    have US := Lib.hid (fun W h => (un_any X a n c (packB X V) W h L.out.2.1 (by unfold maxLen; omega)).mono (fun e w' h => up_cases h hup))
    rw [hun] at US
    obtain ⟨S, hS⟩ : ∃ S, S = packB X V := ⟨_, rfl⟩
    rw [← hS] at US ⊢
    clear k1 k2 k3 k4 hun hup hsz hS
    go_wp2_with (fail)
    refine (US.out _ (HX.out.below B1.out)).mono ?_
    rintro e w2 ⟨q, qc, rfl, hq, b2⟩
    have B2 := Lib.hid (bl_step B1.out b2)
    have HQ := Lib.hid hq
    clear b2 hq
    go_wp2_with (fail)
    refine (same_any V V q a' X.length n' qc c' _ HQ.out (HV.out.below B2.out) (by have := N1.out; have := L.out.1; omega) (by omega)).mono ?_
    rintro e _ ⟨rfl, nq, rfl⟩
    have B3 := Lib.hid (below_drewN B2.out nq)
    obtain ⟨w3, hw3⟩ : ∃ w3, w3 = w2.drewN nq := ⟨_, rfl⟩
    rw [← hw3] at B3 ⊢
    clear hw3
    rw [decide_eq_true rfl]
    go_wp2_with (fail)
    by_cases hu : upE X b = 0
    · have UC := Lib.hid ((UB.out _ (HX.out.below B3.out)).mono (fun e w' h => up_cases h hu))
      have hpk := un_pack X b hu
      have hul := unK_len X b X.length
      have h64 : ∀ x ∈ unK X b X.length, 0 ≤ x ∧ x < 18446744073709551616 := Lib.hid (unK_64 hu) |>.out
      obtain ⟨V2, hV2⟩ : ∃ V2, V2 = unK X b X.length := ⟨_, rfl⟩
      rw [← hV2] at UC hpk hul h64
      have PB := Lib.hid (fun W q qc h h' => pack_any X V2 a q n X.length c qc W h h' (by have := L.out.2.1; omega) (by have := L.out.2.1; have := N1.out; omega) h64)
      rw [hpk] at PB
      clear hu hpk hul h64 hV2
      refine UC.out.mono ?_
      rintro e w5 ⟨q, qc, rfl, hq, b5⟩
      have B5 := Lib.hid (bl_step B3.out b5)
      have HQ := Lib.hid hq
      clear b5 hq
      go_wp2_with (fail)
      refine (PB.out _ _ _ (HX.out.below B5.out) HQ.out).mono ?_
      rintro e w6 ⟨rfl, b6⟩
      have B6 := Lib.hid (bl_step B5.out b6)
      clear b6
      go_wp2_with (fail)
      refine (awake_any _).mono ?_
      rintro e w7 ⟨rfl, b7⟩
      have B7 := Lib.hid (bl_step B6.out b7)
      clear b7
      go_wp2_with (fail)
      go_ret
      exact ⟨rfl, B7.out⟩
    · have UC := Lib.hid ((UB.out _ (HX.out.below B3.out)).mono (fun e w' h => And.intro (h.1 hu) h.2.2))
      obtain ⟨E2, hE2⟩ : ∃ E2, E2 = upE X b := ⟨_, rfl⟩
      rw [← hE2] at UC hu
      have hE3 : ((E2 : Int) != 0) = true := by simpa using hu
      clear hE2 hu
      refine UC.out.mono ?_
      rintro e w5 ⟨rfl, b5⟩
      have B5 := Lib.hid (bl_step B3.out b5)
      clear b5
      go_wp2_with (fail)
      refine (awake_any _).mono ?_
      rintro e w7 ⟨rfl, b7⟩
      have B7 := Lib.hid (bl_step B5.out b7)
      clear b7
      go_wp2_with (fail)
      go_ret
      exact ⟨rfl, B7.out⟩
  · have hE0 : ((E : Int) == 0) = false := by simpa using h0
    clear h0
    go_wp2_with (fail)
    by_cases hu : upE X b = 0
    · have UC := Lib.hid ((UB.out _ (HX.out.below B1.out)).mono (fun e w' h => up_cases h hu))
      have hpk := un_pack X b hu
      have hul := unK_len X b X.length
      have h64 : ∀ x ∈ unK X b X.length, 0 ≤ x ∧ x < 18446744073709551616 := Lib.hid (unK_64 hu) |>.out
      obtain ⟨V2, hV2⟩ : ∃ V2, V2 = unK X b X.length := ⟨_, rfl⟩
      rw [← hV2] at UC hpk hul h64
      have PB := Lib.hid (fun W q qc h h' => pack_any X V2 a q n X.length c qc W h h' (by have := L.out.2.1; omega) (by have := L.out.2.1; have := N1.out; omega) h64)
      rw [hpk] at PB
      clear hu hpk hul h64 hV2
      refine UC.out.mono ?_
      rintro e w5 ⟨q, qc, rfl, hq, b5⟩
      have B5 := Lib.hid (bl_step B1.out b5)
      have HQ := Lib.hid hq
      clear b5 hq
      go_wp2_with (fail)
      refine (PB.out _ _ _ (HX.out.below B5.out) HQ.out).mono ?_
      rintro e w6 ⟨rfl, b6⟩
      have B6 := Lib.hid (bl_step B5.out b6)
      clear b6
      go_wp2_with (fail)
      refine (awake_any _).mono ?_
      rintro e w7 ⟨rfl, b7⟩
      have B7 := Lib.hid (bl_step B6.out b7)
      clear b7
      go_wp2_with (fail)
      go_ret
      exact ⟨rfl, B7.out⟩
    · have UC := Lib.hid ((UB.out _ (HX.out.below B1.out)).mono (fun e w' h => And.intro (h.1 hu) h.2.2))
      obtain ⟨E2, hE2⟩ : ∃ E2, E2 = upE X b := ⟨_, rfl⟩
      rw [← hE2] at UC hu
      have hE3 : ((E2 : Int) != 0) = true := by simpa using hu
      clear hE2 hu
      refine UC.out.mono ?_
      rintro e w5 ⟨rfl, b5⟩
      have B5 := Lib.hid (bl_step B1.out b5)
      clear b5
      go_wp2_with (fail)
      refine (awake_any _).mono ?_
      rintro e w7 ⟨rfl, b7⟩
      have B7 := Lib.hid (bl_step B5.out b7)
      clear b7
      go_wp2_with (fail)
      go_ret
      exact ⟨rfl, B7.out⟩
set_option maxRecDepth 100000 in
set_option maxHeartbeats 1600000 in
theorem FieldsRound_walk (a0 : Value) (a1 : Value) (a2 : ByteArray) (w : World) (w0 : Kit.SlIn [.inl .i64] w a0) (w1 : Kit.SlIn [.inl .u64] w a1) (w2 : a2.size ≤ maxLen) :
    Calls Try.prog 8 #[a0, a1, .string a2] w fun e w' => e = .returned (.bool true) ∧ Below w.heap.size w w' := by
  obtain ⟨a, n, c, X, rfl, hX, _, _⟩ := slIn_nums w0
  obtain ⟨a', n', c', V, rfl, hV, hV64, _⟩ := slIn_nums w1
  by_cases h1 : n ≤ 500
  · by_cases h2 : n' ≤ 500
    · by_cases h3 : a2.size ≤ 5000
      · exact round_in a a' n n' c c' X V a2 w hX hV (wf_u64s hV64) h1 h2 h3
      · unfold maxLen at w2
        have l1 : ¬ (500 : Int) < (n : Int) := by omega
        have l2 : ¬ (500 : Int) < (n' : Int) := by omega
        have l3 : (5000 : Int) < (a2.size : Int) := by omega
        clear w0 w1 hX hV hV64 h1 h2 h3
        go_enter Try.func8, Try.ntmps8
        go_wp2_with (fail)
        refine (awake_any _).mono ?_
        rintro e w7 ⟨rfl, b7⟩
        go_wp2_with (fail)
        go_ret
        exact ⟨rfl, b7⟩
    · have hc1 := hV.2.1
      have hc2 := hV.2.2.1
      unfold maxLen at hc2
      have l1 : ¬ (500 : Int) < (n : Int) := by omega
      have l2 : (500 : Int) < (n' : Int) := by omega
      clear w0 w1 hX hV hV64 h1 h2
      go_enter Try.func8, Try.ntmps8
      go_wp2_with (fail)
      refine (awake_any _).mono ?_
      rintro e w7 ⟨rfl, b7⟩
      go_wp2_with (fail)
      go_ret
      exact ⟨rfl, b7⟩
  · have hc1 := hX.2.1
    have hc2 := hX.2.2.1
    unfold maxLen at hc2
    have l1 : (500 : Int) < (n : Int) := by omega
    clear w0 w1 hX hV hV64 h1
    go_enter Try.func8, Try.ntmps8
    go_wp2_with (fail)
    refine (awake_any _).mono ?_
    rintro e w7 ⟨rfl, b7⟩
    go_wp2_with (fail)
    go_ret
    exact ⟨rfl, b7⟩
end Go.Proofs.Ytjeaccpocpfkgaa
