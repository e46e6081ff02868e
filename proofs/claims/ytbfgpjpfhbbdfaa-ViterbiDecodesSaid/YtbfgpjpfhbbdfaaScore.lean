/-
  The walk of Score. Conditions: slices of at most 100000 values.
-/
import Derived.Test.YtbfgpjpfhbbdfaaEncIdx
namespace Go.Proofs.Ytbfgpjpfhbbdfaa
open Go.RowKit Kit
set_option linter.unusedVariables false
/-- The sum of the values at the places of symbols 1, of the first k. -/
def sc (f : Nat → Nat) (X : List Int) : Nat → Int
  | 0 => 0
  | k + 1 => sc f X k + (if f k = 1 then pv X k else 0)
theorem soft_at {X : List Int} (h : softL X = true) {i : Nat} (hi : i < X.length) : -8 ≤ pv X i ∧ pv X i ≤ 7 := by
  unfold softL at h
  rw [List.all_eq_true] at h
  have e : pv X i = X[i] := by unfold pv; rw [List.getD_eq_getElem?_getD, List.getElem?_eq_getElem hi]; rfl
  have := h _ (List.getElem_mem hi)
  rw [e]
  unfold sOk at this
  simpa using this
theorem sc_bound {X : List Int} (h : softL X = true) (f : Nat → Nat) : ∀ k, k ≤ X.length → -8 * (k : Int) ≤ sc f X k ∧ sc f X k ≤ 7 * (k : Int)
  | 0, _ => by simp [sc]
  | k + 1, hk => by
    have ih := sc_bound h f k (by omega)
    have := soft_at h (i := k) (by omega)
    simp only [sc]
    split <;> omega
theorem strF_byte (f : Nat → Nat) (n k : Nat) (hk : k < n) (h : f k < 256) (h' : k < (strF f n).size) : (((strF f n)[k]'h').toNat : Int) = ((f k : Nat) : Int) := by
  rw [byte_get _ _ h', strF_at f n k h, if_pos hk]
set_option maxRecDepth 100000 in
set_option maxHeartbeats 800000 in
theorem score_ok (d : ByteArray) (X : List Int) (a : Option Addr) (n c : Nat) (w : World) (hX : NS w a n c X) (hd : d.size ≤ 1100) (hn : n = 16 * d.size + 12) (hs : softL X = true) :
    Calls Try.prog 14 #[.slice a n c, .string d] w fun e w' => e = .returned (.tuple #[.int .i64 (sc (outF (bitAt d)) X n), .int .i64 0]) ∧ Below w.heap.size w w' := by
  have HX := Lib.hid hX
  have N := Lib.hid hX.1
  have hcap := hX.2.1
  have hcap2 := hX.2.2.1
  unfold maxLen at hcap2
  have EA := Lib.hid (encode_idx d d.size rfl hd w)
  rw [← hn] at EA
  have SA := Lib.hid (fun W (h : NS W a n c X) => soft_any X a n c W h)
  rw [hs] at SA
  have SB := Lib.hid (fun k hk => sc_bound hs (outF (bitAt d)) k hk)
  have SV := Lib.hid (fun i hi => soft_at hs (i := i) hi)
  have F2 := Lib.hid (fun i => outF_lt (bitAt d) i)
  have hn2 : n ≤ 20000 := by omega
  generalize hf : outF (bitAt d) = f at EA SB F2 ⊢
  obtain ⟨S, hS⟩ : ∃ S, S = strF f n := ⟨_, rfl⟩
  have hSs : S.size = n := by rw [hS, strF_size]
  have SG : Hid (∀ k (h' : k < S.size), ((S[k]'h').toNat : Int) = ((f k : Nat) : Int)) := Lib.hid (by subst hS; exact fun k h' => strF_byte f n k (by simpa [strF_size] using h') (by have := F2.out k; omega) h')
  rw [← hS] at EA
  have HS := Lib.hid hSs
  have l1 : ((S.size : Int) != (n : Int)) = false := by simp [hSs]
  have l2 : (S.size != n) = false := by simp [hSs]
  clear hX hd hn hs hS hf hSs
  go_enter Try.func14, Try.ntmps14
  go_wp2_with (fail)
  refine EA.out.mono ?_
  rintro e w1 ⟨rfl, b1⟩
  have B1 := Lib.hid b1
  have H1 := Lib.hid (HX.out.below b1)
  clear b1 EA HX
  go_wp2_with (fail)
  refine (SA.out _ H1.out).mono ?_
  rintro e _ ⟨rfl, rfl⟩
  clear SA
  go_wp2_with (fail)
  go_loop [8, 9, 10, 32] (fun s _ _ i => ∃ k : Nat, k ≤ n ∧ i = .int .i64 k ∧ s = .int .i64 (sc f X k)) (fun _ _ _ i => n - (intOf i).toNat)
  case atStart => exact ⟨0, by omega, rfl, rfl⟩
  case round =>
    obtain ⟨k, hk, rfl, rfl⟩ := hrel
    by_cases hlt : k < n
    · have hkS : k < S.size := by rw [HS.out]; exact hlt
      obtain ⟨bb, off, rfl, hb, d1⟩ := H1.out.2.2.2 k hlt
      have hv := SV.out k (by rw [← N.out]; exact hlt)
      have hsb := SB.out k (by rw [← N.out]; exact hk)
      have SS : Hid (sc f X (k + 1) = sc f X k + (if f k = 1 then pv X k else 0)) := Lib.hid rfl
      have G := Lib.hid (SG.out k hkS)
      generalize pv X k = v at d1 hv SS
      generalize sc f X k = s at hsb SS
      have W1 := IntWalk.i64_in (s + v) (by omega)
      by_cases h1 : f k = 1
      · have q1 : (((S[k]'hkS).toNat : Int) == 1) = true := by rw [G.out, h1]; rfl
        have q2 : ((S[k]'hkS).toNat == 1) = true := by have := G.out; simp; omega
        have Z : Hid (s + v = sc f X (k + 1)) := Lib.hid (by rw [SS.out, if_pos h1])
        clear h1 hv hsb
        go_wp2_with (fail)
        go_round
        case rel => exact ⟨k + 1, by omega, by simp, by rw [← Z.out]⟩
        case measure => simp [intOf]; omega
      · have q1 : (((S[k]'hkS).toNat : Int) == 1) = false := by rw [G.out]; simp; omega
        have q2 : ((S[k]'hkS).toNat == 1) = false := by have := G.out; simp; omega
        have Z : Hid (s = sc f X (k + 1)) := Lib.hid (by rw [SS.out, if_neg h1]; simp)
        clear h1 hv hsb
        go_wp2_with (fail)
        go_round
        case rel => exact ⟨k + 1, by omega, by simp, by rw [← Z.out]⟩
        case measure => simp [intOf]; omega
    · have e : k = n := by omega
      subst e
      go_wp2_with (fail)
      go_ret2
      exact ⟨rfl, B1.out⟩
end Go.Proofs.Ytbfgpjpfhbbdfaa
