/-
  The walk of the specification's Score. Conditions: those that it names.
-/
import Derived.Test.YtbfgpjpfhbbdfaaScore
namespace Go.Proofs.Ytbfgpjpfhbbdfaa
open Go.RowKit Kit
set_option linter.unusedVariables false
set_option maxRecDepth 100000 in
set_option maxHeartbeats 800000 in
theorem rscore_ok (d : ByteArray) (X : List Int) (a : Option Addr) (n c : Nat) (w : World) (hX : NS w a n c X) (hd : d.size ≤ 1100) (hn : n = 16 * d.size + 12) (hs : softL X = true) :
    Calls Try.prog 15 #[.slice a n c, .string d] w fun e w' => e = .returned (.tuple #[.int .i64 (sc (outF (bitAt d)) X n), .int .i64 0]) ∧ Below w.heap.size w w' := by
  have HX := Lib.hid hX
  have N := Lib.hid hX.1
  have hcap := hX.2.1
  have hcap2 := hX.2.2.1
  unfold maxLen at hcap2
  have EA := Lib.hid (refencode_idx d d.size rfl hd w)
  rw [← hn] at EA
  have SA := Lib.hid (fun W (h : NS W a n c X) => rsoft_any X a n c W h)
  rw [hs] at SA
  have SB := Lib.hid (fun k hk => sc_bound hs (outF (bitAt d)) k hk)
  have SV := Lib.hid (fun i hi => soft_at hs (i := i) hi)
  have F2 := Lib.hid (fun i => outF_lt (bitAt d) i)
  have hn2 : n ≤ 20000 := by omega
  generalize hf : outF (bitAt d) = f at EA SB F2 ⊢
  obtain ⟨S, hS⟩ : ∃ S, S = strF f n := ⟨_, rfl⟩
  have hSs : S.size = n := by rw [hS, strF_size]
  have SG : Hid (∀ k (h' : k < S.size), ((S[k]'h').toNat : Int) = ((f k : Nat) : Int)) := Lib.hid (by subst hS; exact fun k h' => strF_byte f n k (by simpa [strF_size] using h') (by have := F2.out k; omega) h')
  rw [← hS] at EA
  have HS := Lib.hid hSs
  have l1 : ((n : Int) != (S.size : Int)) = false := by simp [hSs]
  have l2 : (n != S.size) = false := by simp [hSs]
  clear hX hd hn hs hS hf hSs
  go_enter Try.func15, Try.ntmps15
  go_wp2_with (fail)
  refine EA.out.mono ?_
  rintro e w1 ⟨rfl, b1⟩
  have B1 := Lib.hid b1
  have H1 := Lib.hid (HX.out.below b1)
  clear b1 EA HX
  go_wp2_with (fail)
  refine (SA.out _ H1.out).mono ?_
  rintro e _ ⟨rfl, rfl⟩
  clear SA
  go_wp2_with (fail)
  go_loopw [8, 9] (fun s i wr => ∃ k : Nat, k ≤ n ∧ i = .int .i64 k ∧ s = .int .i64 (sc f X k) ∧ ∃ q, wr = w1.drewN q) (fun _ i _ => n - (intOf i).toNat)
  case atStart => exact ⟨0, by omega, rfl, rfl, 0, rfl⟩
  case round =>
    obtain ⟨k, hk, rfl, rfl, q, rfl⟩ := hrel
    by_cases hlt : k < n
    · have hkS : k < S.size := by rw [HS.out]; exact hlt
      obtain ⟨bb, off, rfl, hb, d1⟩ := H1.out.2.2.2 k hlt
      have hv := SV.out k (by rw [← N.out]; exact hlt)
      have hsb := SB.out k (by rw [← N.out]; exact hk)
      have SS : Hid (sc f X (k + 1) = sc f X k + (if f k = 1 then pv X k else 0)) := Lib.hid rfl
      have G := Lib.hid (SG.out k hkS)
      have hf2 := F2.out k
      generalize pv X k = v at d1 hv SS
      generalize sc f X k = s at hsb SS
      have ht : ((S[k]'hkS).toNat : Int) * v = if f k = 1 then v else 0 := by
        rw [G.out]
        have : f k = 0 ∨ f k = 1 := by omega
        rcases this with h | h <;> simp [h]
      have hb2 : -8 ≤ ((S[k]'hkS).toNat : Int) * v ∧ ((S[k]'hkS).toNat : Int) * v ≤ 7 := by rw [ht]; split <;> omega
      have W0 := IntWalk.i64_in ((S[k]'hkS).toNat : Int) (by rw [G.out]; omega)
      have W1 := IntWalk.i64_in (((S[k]'hkS).toNat : Int) * v) (by omega)
      have W2 := IntWalk.i64_in (s + ((S[k]'hkS).toNat : Int) * v) (by omega)
      have Z : Hid (s + ((S[k]'hkS).toNat : Int) * v = sc f X (k + 1)) := Lib.hid (by rw [SS.out, ht])
      clear ht hb2 hv hsb hf2
      go_wp2_with (fail)
      go_quiet (fail)
      go_wp2_with (fail)
      go_roundw
      case rel => exact ⟨k + 1, by omega, by simp, by rw [← Z.out], _, rfl⟩
      case measure => simp [intOf]; omega
    · have e : k = n := by omega
      have HSS := HS.out
      subst e
      go_wp2_with (fail)
      go_ret2
      exact ⟨rfl, below_drewN B1.out q⟩
end Go.Proofs.Ytbfgpjpfhbbdfaa
