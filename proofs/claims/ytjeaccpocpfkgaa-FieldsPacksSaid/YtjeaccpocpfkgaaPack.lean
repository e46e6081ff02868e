/-
  The walk of fields.Pack. Conditions: slices of at most 1000 elements.
-/
import Derived.Test.YtjeaccpocpfkgaaSum
import Derived.Laws.OwnMore
namespace Go.Proofs.Ytjeaccpocpfkgaa
open Go.RowKit Kit
set_option linter.unusedVariables false
theorem info5 : (Try.prog.info? 5).map (fun i => (i.zero, i.size, i.bytes)) = some (some (.int .u8 0), 1, 1) := by kernel_rfl
/-- The bytes with the first fields written. -/
def packK (Z : List Nat) (W V : Nat → Nat) : Nat → List Nat
  | 0 => Z
  | k + 1 => put (packK Z W V k) (offs W k) (W k) (V k)
theorem packK_len (Z : List Nat) (W V : Nat → Nat) : ∀ k, (packK Z W V k).length = Z.length
  | 0 => rfl
  | k + 1 => by rw [packK, put_len, packK_len]
theorem packK_ok {Z : List Nat} (h : okL Z) (W V : Nat → Nat) : ∀ k, okL (packK Z W V k)
  | 0 => h
  | k + 1 => put_ok (packK_ok h W V k) _ _ _
def zers (n : Nat) : List Nat := List.replicate n 0
theorem zers_ok (n : Nat) : okL (zers n) := by intro c hc; simp [zers] at hc; omega
def fitsA (X V : List Int) : Prop := ∀ i, i < X.length → wid V i < 2 ^ wid X i
instance (X V : List Int) : Decidable (fitsA X V) := by unfold fitsA; infer_instance
def packB (X V : List Int) : ByteArray := strB (packK (zers ((offs (wid X) X.length + 7) / 8)) (wid X) (wid V) X.length)
def packR (X V : List Int) : Value :=
  if ¬ okW X ∨ X.length ≠ V.length then .tuple #[emp, .int .i64 2] else if 524288 < offs (wid X) X.length then .tuple #[emp, .int .i64 3] else
    if fitsA X V then .tuple #[.string (packB X V), .int .i64 0] else .tuple #[emp, .int .i64 7]
theorem row_made {w : World} {base g m c : Nat} (h : w.ownsRow base 5 1 (.slice (some ⟨g, 0, none⟩) m c) m (List.replicate m (Value.int .u8 0))) : RowB w g (zers m) := by
  refine ⟨fun i hi => ?_, fun i hi => own_free h i⟩
  have hi' : i < m := by simpa [zers] using hi
  have e : (zers m).getD i 0 = 0 := by simp [zers, List.getD_eq_getElem?_getD, hi']
  rw [e]
  exact own_cell h (by simp [hi'])
theorem offs_mono (W : Nat → Nat) (k : Nat) : ∀ n, k ≤ n → offs W k ≤ offs W n
  | 0, h => by obtain rfl : k = 0 := by omega
               exact Nat.le_refl _
  | n + 1, h => by
    rcases Nat.lt_or_ge n k with h' | h'
    · obtain rfl : k = n + 1 := by omega
      exact Nat.le_refl _
    · have := offs_mono W k n h'; rw [offs]; omega
set_option maxRecDepth 100000 in
set_option maxHeartbeats 1600000 in
theorem pack_good (X V : List Int) (a a' : Option Addr) (n c c' : Nat) (w : World) (hX : Nums .i64 w a n c X) (hV : Nums .u64 w a' n c' V) (hn : n ≤ 1000) (hV64 : ∀ x ∈ V, 0 ≤ x ∧ x < 18446744073709551616) (hok : okW X) (hs : offs (wid X) X.length ≤ 524288) :
    Calls Try.prog 23 #[.slice a n c, .slice a' n c'] w fun e w' => e = .returned (if fitsA X V then .tuple #[.string (packB X V), .int .i64 0] else .tuple #[emp, .int .i64 7]) ∧ Below w.heap.size w w' := by
  obtain ⟨i0, hi, hz0, hz1, hz2⟩ := info_parts info5
  obtain ⟨R, hR⟩ : ∃ R, Hid ((if fitsA X V then Value.tuple #[.string (packB X V), .int .i64 0] else .tuple #[emp, .int .i64 7]) = R) := ⟨_, Lib.hid rfl⟩
  rw [hR.out]
  have SA := Lib.hid (fun W h => sum_any X a n c W h (by omega))
  have hsR : sumR X = .tuple #[.int .i64 (offs (wid X) X.length : Nat), .bool true] := by unfold sumR; rw [if_pos hok]
  rw [hsR] at SA
  have N1 := Lib.hid hX.1; have HX := Lib.hid hX; have HV := Lib.hid hV; have HO := Lib.hid hok; have N2 := Lib.hid hV.1; have HV64 := Lib.hid hV64
  obtain ⟨s, hss⟩ : ∃ s, s = offs (wid X) X.length := ⟨_, rfl⟩
  rw [← hss] at SA hs
  obtain ⟨m, hm⟩ : ∃ m, m = (s + 7) / 8 := ⟨_, rfl⟩
  have HS := Lib.hid hss
  have EM : Hid (((s : Int) + 7) / 8 = (m : Int)) := Lib.hid (by omega)
  have hm2 : m ≤ 65536 := by omega
  have hm3 : Hid (s ≤ 8 * m) := Lib.hid (by omega)
  have XM := Lib.hid hm
  clear hsR hX hV hok hss hm hV64
  go_enter Try.func23, Try.ntmps23
  go_wp2_with (fail)
  refine (SA.out _ HX.out).mono ?_
  rintro e _ ⟨rfl, rfl⟩
  go_wp2_with (at_make; refine wpList_make_full _ rfl _ _ 64 rfl w.heap.size 5 i0 (.int .u8 0) 1 Try.underlying64 hi hz0 hz1 _ _ _ _ m rfl rfl (by first | exact EM.out | (simp only [← EM.out]; done)) (by first | exact EM.out | (simp only [← EM.out]; done)) (by rw [hz2]; omega) (by unfold maxLen; omega) (Nat.le_refl _) ?_; intro w3 hown hgrow; replace hown := Lib.hid hown; replace hgrow := Lib.hid hgrow)
  have R0 : Hid (RowB w3 w.heap.size (zers m)) := Lib.hid (row_made (by
    have := hown.out
    rw [show (Value.int IntKind.u8 0).cells = #[.int .u8 0] from rfl, toList_madeCells_one, Nat.mul_one] at this
    exact this))
  have B0 : Hid (Below w.heap.size w w3) := Lib.hid ((Below.refl _ _).grown hgrow.out (Nat.le_refl _) (fun k e => by cases e))
  obtain ⟨B, hB⟩ : ∃ B, Hid (B = w.heap.size) := ⟨_, Lib.hid rfl⟩
  rw [← hB.out] at R0 B0 ⊢
  clear hown hgrow hi hz0 hz1 hz2 EM
  go_loopw [9, 10, 11, 36] (fun p _ _ i wr => ∃ k : Nat, k ≤ n ∧ i = .int .i64 k ∧ p = .int .i64 (offs (wid X) k : Nat) ∧ (∀ i, i < k → wid V i < 2 ^ wid X i) ∧ RowB wr B (packK (zers m) (wid X) (wid V) k) ∧ Below B w wr) (fun _ _ _ i _ => n - (intOf i).toNat)
  case atStart => exact ⟨0, by omega, rfl, rfl, by omega, R0.out, B0.out⟩
  case round =>
    clear R0 B0
    obtain ⟨k, hk, rfl, rfl, hf, hr, hb⟩ := hrel
    have HF := Lib.hid hf; have HR := Lib.hid hr; have HB := Lib.hid hb
    clear hf hr hb
    by_cases hlt : k < n
    · have hbw : Below w.heap.size w wr := by have := HB.out; rw [hB.out] at this; exact this
      obtain ⟨b, off, rfl, hbl, hcell⟩ := (HX.out.below hbw).at hlt
      obtain ⟨b', off', rfl, hbl', hcell'⟩ := (HV.out.below hbw).at hlt
      have hst : offs (wid X) (k + 1) = offs (wid X) k + wid X k := rfl
      have hsm := offs_mono (wid X) (k + 1) X.length (by rw [← N1.out]; omega)
      rw [← HS.out, hst] at hsm
      obtain ⟨h1, h2⟩ := HO.out k (by rw [← N1.out]; exact hlt)
      have hw : (wid X k : Int) = X.getD k 0 := by unfold wid; omega
      have hvv : 0 ≤ V.getD k 0 ∧ V.getD k 0 < 18446744073709551616 := by
        rw [List.getD_eq_getElem?_getD, List.getElem?_eq_getElem (by rw [← N2.out]; exact hlt)]
        exact HV64.out _ (List.getElem_mem _)
      have hv : (wid V k : Int) = V.getD k 0 := by unfold wid; omega
      have hpk : packK (zers m) (wid X) (wid V) (k + 1) = put (packK (zers m) (wid X) (wid V) k) (offs (wid X) k) (wid X k) (wid V k) := rfl
      obtain ⟨p, hp⟩ : ∃ p, p = offs (wid X) k := ⟨_, rfl⟩
      obtain ⟨x, hx⟩ : ∃ x, x = wid X k := ⟨_, rfl⟩
      obtain ⟨v, hv2⟩ : ∃ x, x = wid V k := ⟨_, rfl⟩
      obtain ⟨L, hL⟩ : ∃ L, L = packK (zers m) (wid X) (wid V) k := ⟨_, rfl⟩
      have hLl : L.length = m := by rw [hL, packK_len]; simp [zers]
      have hLo : okL L := by rw [hL]; exact packK_ok (zers_ok m) _ _ _
      rw [← hp] at hst hpk hsm ⊢
      rw [← hw, ← hx] at hcell h1 h2
      rw [← hv, ← hv2] at hcell' hvv
      rw [← hx] at hst hpk hsm
      rw [← hv2] at hpk
      rw [← hL] at hpk HR
      have hv64 : v < 18446744073709551616 := by omega
      have HST := Lib.hid hst; have HPK := Lib.hid hpk; have HLo := Lib.hid hLo; have HLl := Lib.hid hLl
      have Hx := Lib.hid hx; have Hv := Lib.hid hv2
      have HB2 : Hid (b < B ∧ b' < B) := Lib.hid (by rw [hB.out]; exact ⟨by rcases HX.out.at hlt with ⟨b1, o1, e, h, _⟩; cases e; exact h, by rcases HV.out.at hlt with ⟨b1, o1, e, h, _⟩; cases e; exact h⟩)
      clear hp hst hx hw hv hv2 hL hpk hLo hLl hvv hbw
      by_cases hfit : v < 2 ^ x
      · have HD : Hid (decide (v < 2 ^ x) = true) := Lib.hid (by simpa using hfit)
        have HFit := Lib.hid hfit
        clear hfit
        go_wp2_with (fail)
        refine (fits_any v x hv64 (by omega) _).mono ?_
        rw [HD.out]
        rintro e _ ⟨rfl, rfl⟩
        go_wp2_with (fail)
        refine (write_any L HLo.out B m m HLl.out.symm (by omega) p x v (by omega) (by have := hm3.out; omega) hv64 _ HR.out).mono ?_
        rintro e w5 ⟨⟨u, rfl⟩, hr5, hm5⟩
        rw [← HPK.out] at hr5
        have HR5 := Lib.hid hr5
        have HB5 : Hid (Below B w w5) := Lib.hid (below_mod HB.out hm5 (by rw [hB.out]; exact HB.out.size) (Nat.le_refl _))
        clear hr5 hm5
        go_wp2_with (fail)
        go_roundw
        case rel => exact ⟨k + 1, by omega, by simp, by rw [HST.out]; simp, fun i hi => by
          rcases Nat.lt_succ_iff_lt_or_eq.1 hi with h | rfl
          · exact HF.out i h
          · rw [← Hx.out, ← Hv.out]; exact HFit.out, HR5.out, HB5.out⟩
        case measure => simp [intOf]; omega
      · have HD : Hid (decide (v < 2 ^ x) = false) := Lib.hid (by simpa using hfit)
        have hz : R = .tuple #[emp, .int .i64 7] := by
          rw [← hR.out, if_neg (show ¬ fitsA X V from fun h => by
            have := h k (by rw [← N1.out]; exact hlt)
            rw [← Hx.out, ← Hv.out] at this
            exact hfit this)]
        subst hz
        clear hfit
        go_wp2_with (fail)
        refine (fits_any v x hv64 (by omega) _).mono ?_
        rw [HD.out]
        rintro e _ ⟨rfl, rfl⟩
        go_wp2_with (fail)
        go_ret2
        exact ⟨rfl, by rw [← hB.out]; exact HB.out⟩
    · obtain rfl : k = n := by omega
      have hz : R = .tuple #[.string (packB X V), .int .i64 0] := by
        rw [← hR.out, if_pos (show fitsA X V from fun i hi => HF.out i (by rw [N1.out]; exact hi))]
      have hpl : (packK (zers m) (wid X) (wid V) k).length = m := by rw [packK_len]; simp [zers]
      have hcv := run_convert_bytes_arg wr 64 5 Try.underlying64 Try.underlying5 B 0 m m ((packK (zers m) (wid X) (wid V) k).map fun c : Nat => (c : Int)) (by rw [List.length_map, hpl]) (fun i hi => by
        rw [Nat.zero_add, HR.out.cell i (by rw [hpl]; exact hi)]
        simp [List.getD, hpl, hi]) 9 Try.underlying9
      have hpb : strB (packK (zers m) (wid X) (wid V) k) = packB X V := by unfold packB; rw [XM.out, HS.out, N1.out]
      rw [strB_nums, hpb] at hcv
      subst hz
      clear hpl hpb
      go_wp2_with (fail)
      go_ret2
      exact ⟨rfl, by rw [← hB.out]; exact HB.out⟩
end Go.Proofs.Ytjeaccpocpfkgaa
