/-
  The walk of the reference's Pack. Conditions: slices of at most 1000 elements.
-/
import Derived.Test.YtjeaccpocpfkgaaRefUn
namespace Go.Proofs.Ytjeaccpocpfkgaa
open Go.RowKit Kit
set_option linter.unusedVariables false
set_option maxRecDepth 100000 in
set_option maxHeartbeats 3200000 in
theorem refpack_good (X V : List Int) (a a' : Option Addr) (n c c' : Nat) (w : World) (hX : Nums .i64 w a n c X) (hV : Nums .u64 w a' n c' V) (hn : n ≤ 1000) (hV64 : ∀ x ∈ V, 0 ≤ x ∧ x < 18446744073709551616) (hok : okW X) (hs : offs (wid X) X.length ≤ 524288) :
    Calls Try.prog 24 #[.slice a n c, .slice a' n c'] w fun e w' => e = .returned (if fitsA X V then .tuple #[.string (packB X V), .int .i64 0] else .tuple #[emp, .int .i64 7]) ∧ Below w.heap.size w w' := by
  obtain ⟨i0, hi, hz0, hz1, hz2⟩ := info_parts info5
  obtain ⟨R, hR⟩ : ∃ R, Hid ((if fitsA X V then Value.tuple #[.string (packB X V), .int .i64 0] else .tuple #[emp, .int .i64 7]) = R) := ⟨_, Lib.hid rfl⟩
  rw [hR.out]
  have AA := Lib.hid (fun W h => all_any X a n c W h (by omega))
  have hdo : decide (okW X) = true := by simpa using hok
  rw [hdo] at AA
  have BA := Lib.hid (fun W h => bits_any X a n c W h (by omega) hok)
  have N1 := Lib.hid hX.1; have HX := Lib.hid hX; have HV := Lib.hid hV; have HO := Lib.hid hok; have N2 := Lib.hid hV.1; have HV64 := Lib.hid hV64
  obtain ⟨s, hss⟩ : ∃ s, s = offs (wid X) n := ⟨_, rfl⟩
  rw [← hX.1, ← hss] at hs
  rw [← hss] at BA
  obtain ⟨m, hm⟩ : ∃ m, m = (s + 7) / 8 := ⟨_, rfl⟩
  have HS : Hid (s = offs (wid X) X.length) := Lib.hid (by rw [hss, ← hX.1])
  have EM : Hid (((s : Int) + 7) / 8 = (m : Int)) := Lib.hid (by omega)
  have hm2 : m ≤ 65536 := by omega
  have hm3 : Hid (s ≤ 8 * m) := Lib.hid (by omega)
  have XM := Lib.hid hm
  clear hX hV hok hss hm hV64 hdo
  go_enter Try.func24, Try.ntmps24
  go_wp2_with (fail)
  refine (AA.out _ HX.out).mono ?_
  rintro e _ ⟨rfl, rfl⟩
  go_wp2_with (fail)
  refine (BA.out _ HX.out).mono ?_
  rintro e _ ⟨rfl, rfl⟩
  go_wp2_with (at_make; refine wpList_make_full _ rfl _ _ 64 rfl w.heap.size 5 i0 (.int .u8 0) 1 Try.underlying64 hi hz0 hz1 _ _ _ _ m rfl rfl (by first | exact EM.out | (simp only [← EM.out]; done)) (by first | exact EM.out | (simp only [← EM.out]; done)) (by rw [hz2]; omega) (by unfold maxLen; omega) (Nat.le_refl _) ?_; intro w3 hown hgrow; have R0 : RowB w3 w.heap.size (zers m) := row_made (by have := hown; rw [show (Value.int IntKind.u8 0).cells = #[.int .u8 0] from rfl, toList_madeCells_one, Nat.mul_one] at this; exact this); have hzl : (zers m).length = m := (by simp [zers]); have hcv := run_convert_bytes_arg w3 64 5 Try.underlying64 Try.underlying5 w.heap.size 0 m m ((zers m).map fun c : Nat => (c : Int)) (by rw [List.length_map, hzl]) (fun i hi => by (rw [Nat.zero_add, R0.cell i (by rw [hzl]; exact hi)]; simp [List.getD, hzl, hi])) 9 Try.underlying9; rw [strB_nums] at hcv; replace hgrow := Lib.hid hgrow; clear hown R0 hzl)
  have B0 : Hid (Below w.heap.size w w3) := Lib.hid ((Below.refl _ _).grown hgrow.out (Nat.le_refl _) (fun k e => by cases e))
  clear hgrow hi hz0 hz1 hz2 EM
  go_loopw [7, 8, 9] (fun q p i wr => ∃ k : Nat, k ≤ n ∧ i = .int .i64 k ∧ p = .int .i64 (offs (wid X) k : Nat) ∧ q = .string (strB (packK (zers m) (wid X) (wid V) k)) ∧ (∀ i, i < k → wid V i < 2 ^ wid X i) ∧ Below w.heap.size w wr) (fun _ _ i _ => n - (intOf i).toNat)
  case atStart => exact ⟨0, by omega, rfl, rfl, rfl, by omega, B0.out⟩
  case round =>
    clear B0
    obtain ⟨k, hk, rfl, rfl, rfl, hf, hb⟩ := hrel
    have HF := Lib.hid hf; have HB := Lib.hid hb
    clear hf hb
    by_cases hlt : k < n
    · obtain ⟨b, off, rfl, hbl0, hcell0⟩ := HX.out.at hlt
      obtain ⟨b', off', rfl, hbl0', hcell0'⟩ := HV.out.at hlt
      have hst : offs (wid X) (k + 1) = offs (wid X) k + wid X k := rfl
      have hsm := offs_mono (wid X) (k + 1) X.length (by rw [← N1.out]; omega)
      rw [← HS.out, hst] at hsm
      obtain ⟨h1, h2⟩ := HO.out k (by rw [← N1.out]; exact hlt)
      have hw : (wid X k : Int) = X.getD k 0 := by unfold wid; omega
      have hvv : 0 ≤ V.getD k 0 ∧ V.getD k 0 < 18446744073709551616 := by
        rw [List.getD_eq_getElem?_getD, List.getElem?_eq_getElem (by rw [← N2.out]; exact hlt)]
        exact HV64.out _ (List.getElem_mem _)
      have hv : (wid V k : Int) = V.getD k 0 := by unfold wid; omega
      have hpk : packK (zers m) (wid X) (wid V) (k + 1) = put (packK (zers m) (wid X) (wid V) k) (offs (wid X) k) (wid X k) (wid V k) := rfl
      obtain ⟨p, hp⟩ : ∃ p, p = offs (wid X) k := ⟨_, rfl⟩
      obtain ⟨x, hx⟩ : ∃ x, x = wid X k := ⟨_, rfl⟩
      obtain ⟨v, hv2⟩ : ∃ x, x = wid V k := ⟨_, rfl⟩
      obtain ⟨L, hL⟩ : ∃ L, L = packK (zers m) (wid X) (wid V) k := ⟨_, rfl⟩
      have hLl : L.length = m := by rw [hL, packK_len]; simp [zers]
      have hLo : okL L := by rw [hL]; exact packK_ok (zers_ok m) _ _ _
      rw [← hp] at hst hpk hsm ⊢
      rw [← hw, ← hx] at hcell0 h1 h2
      rw [← hv, ← hv2] at hcell0' hvv
      rw [← hx] at hst hpk hsm
      rw [← hv2] at hpk
      rw [← hL] at hpk ⊢
      have hv64 : v < 18446744073709551616 := by omega
      have hps := strB_size L
      rw [hLl] at hps
      obtain ⟨D, hD⟩ : ∃ D, D = strB L := ⟨_, rfl⟩
      rw [← hD] at hps ⊢
      have hlD : lst D = L := by rw [hD, lst_strB hLo]
      have SET := Lib.hid (fun W => set_any D (by omega) p x v (by omega) (by have := hm3.out; omega) hv64 W)
      rw [hlD, ← hpk] at SET
      have HST := Lib.hid hst
      have Hx := Lib.hid hx; have Hv := Lib.hid hv2
      have FI := Lib.hid (fun W => reffits_any v x hv64 W)
      have HC0 := Lib.hid hcell0; have HC1 := Lib.hid hcell0'; have HBL := Lib.hid hbl0; have HBL1 := Lib.hid hbl0'
      have hcell := (HB.out.cell (p := ⟨b, off + k, none⟩) hbl0).trans hcell0
      have hcell' := (HB.out.cell (p := ⟨b', off' + k, none⟩) hbl0').trans hcell0'
      have hbl := Nat.lt_of_lt_of_le hbl0 HB.out.size
      have hbl' := Nat.lt_of_lt_of_le hbl0' HB.out.size
      clear hp hst hx hw hv hv2 hL hpk hLo hLl hvv hlD hD hcell0 hcell0' hbl0 hbl0'
      by_cases hfit : v < 2 ^ x
      · have hd : decide (v < 2 ^ x) = true := by simpa using hfit
        rw [hd] at FI
        have HFit := Lib.hid hfit
        clear hfit hd
        go_wp2_with (fail)
        go_quiet ((go_at_call 37; first | exact quiet_left (FI.out _) | exact quiet_add_left (FI.out _)))
        go_wp2_with (fail)
        obtain ⟨wq, hwq⟩ : ∃ wq, wq = wr.drewN nq := ⟨_, rfl⟩
        have Bq : Hid (Below w.heap.size w wq) := Lib.hid (by rw [hwq]; exact below_drewN HB.out _)
        rw [← hwq]
        clear hcell hcell' hbl hbl' hwq
        have hcell := (Bq.out.cell (p := ⟨b, off + k, none⟩) HBL.out).trans HC0.out
        have hcell' := (Bq.out.cell (p := ⟨b', off' + k, none⟩) HBL1.out).trans HC1.out
        have hbl := Nat.lt_of_lt_of_le HBL.out Bq.out.size
        have hbl' := Nat.lt_of_lt_of_le HBL1.out Bq.out.size
        refine region_calm (by kernel_rfl) (by kernel_rfl) ?_
        repeat (quiet_step ((go_at_call 38; exact calm_of (SET.out _))))
        refine wpQuiet_nil ?_; intro w5 hw'; have hb5 := below_of_ext hw'; clear hw'
        have B5 : Below w.heap.size w w5 := bl_step Bq.out hb5
        clear hb5
        have hcell5 := (B5.cell (p := ⟨b, off + k, none⟩) HBL.out).trans HC0.out
        have hbl5 := Nat.lt_of_lt_of_le HBL.out B5.size
        replace B5 := Lib.hid B5
        go_wp2_with (fail)
        go_roundw
        case rel => exact ⟨k + 1, by omega, by simp, by rw [HST.out]; simp, rfl, fun i hi => by
          rcases Nat.lt_succ_iff_lt_or_eq.1 hi with h | rfl
          · exact HF.out i h
          · rw [← Hx.out, ← Hv.out]; exact HFit.out, B5.out⟩
        case measure => simp [intOf]; omega
      · have hd : decide (v < 2 ^ x) = false := by simpa using hfit
        rw [hd] at FI
        have hz : R = .tuple #[emp, .int .i64 7] := by
          rw [← hR.out, if_neg (show ¬ fitsA X V from fun h => by
            have := h k (by rw [← N1.out]; exact hlt)
            rw [← Hx.out, ← Hv.out] at this
            exact hfit this)]
        subst hz
        clear hfit hd
        go_wp2_with (fail)
        go_quiet ((go_at_call 37; first | exact quiet_left (FI.out _) | exact quiet_add_left (FI.out _)))
        go_wp2_with (fail)
        go_ret2
        exact ⟨rfl, below_drewN HB.out _⟩
    · obtain rfl : k = n := by omega
      have hz : R = .tuple #[.string (packB X V), .int .i64 0] := by
        rw [← hR.out, if_pos (show fitsA X V from fun i hi => HF.out i (by rw [N1.out]; exact hi))]
      have hpb : strB (packK (zers m) (wid X) (wid V) k) = packB X V := by unfold packB; rw [XM.out, HS.out, N1.out]
      rw [hpb]
      subst hz
      clear hpb
      go_wp2_with (fail)
      go_ret2
      exact ⟨rfl, HB.out⟩
theorem refpack_any (X V : List Int) (a a' : Option Addr) (n n' c c' : Nat) (w : World) (hX : Nums .i64 w a n c X) (hV : Nums .u64 w a' n' c' V) (hn : n ≤ 1000) (hn' : n' ≤ 1000) (hV64 : ∀ x ∈ V, 0 ≤ x ∧ x < 18446744073709551616) :
    Calls Try.prog 24 #[.slice a n c, .slice a' n' c'] w fun e w' => e = .returned (packR X V) ∧ Below w.heap.size w w' := by
  have N1 := hX.1
  have N2 := hV.1
  have HX := Lib.hid hX
  by_cases hl : n = n'
  · have AA := Lib.hid (fun W h => all_any X a n c W h (by omega))
    by_cases hok : okW X
    · by_cases hs : offs (wid X) X.length ≤ 524288
      · have hz : packR X V = if fitsA X V then .tuple #[.string (packB X V), .int .i64 0] else .tuple #[emp, .int .i64 7] := by
          unfold packR; rw [if_neg (by rintro (h | h); exact h hok; exact h (by omega)), if_neg (by omega)]
        rw [hz]
        subst hl
        exact refpack_good X V a a' n c c' w hX hV hn hV64 hok hs
      · have hle := offs_le X hok X.length (Nat.le_refl _)
        omega
    · have hz : packR X V = .tuple #[emp, .int .i64 2] := by unfold packR; rw [if_pos (.inl hok)]
      rw [hz]
      have hdo : decide (okW X) = false := by simpa using hok
      rw [hdo] at AA
      have hne : ((n : Int) != (n' : Int)) = false := by simp; omega
      clear hz hX hok N1 N2 hl hV hdo
      go_enter Try.func24, Try.ntmps24
      go_wp2_with (fail)
      refine (AA.out _ HX.out).mono ?_
      rintro e _ ⟨rfl, rfl⟩
      go_wp2_with (fail)
      go_ret2
      exact ⟨rfl, Below.refl _ _⟩
  · have hz : packR X V = .tuple #[emp, .int .i64 2] := by unfold packR; rw [if_pos (.inr (by omega))]
    rw [hz]
    have hne : ((n : Int) != (n' : Int)) = true := by simp; omega
    clear hz hX N1 N2 hl hV
    go_enter Try.func24, Try.ntmps24
    go_wp2_with (fail)
    go_ret2
    exact ⟨rfl, Below.refl _ _⟩
end Go.Proofs.Ytjeaccpocpfkgaa
