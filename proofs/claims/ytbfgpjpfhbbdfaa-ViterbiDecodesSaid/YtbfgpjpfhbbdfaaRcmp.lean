/-
  The comparison that ranked hands to slices.SortFunc. Conditions: states, and numbers of states.
-/
import Derived.Test.YtbfgpjpfhbbdfaaEdges
import Derived.BigQuiet
namespace Go.Proofs.Ytbfgpjpfhbbdfaa
open Go.RowKit Kit
set_option linter.unusedVariables false
/-- What the comparison returns. -/
def cfR (R F : Nat → Nat) (s t : Nat) : Int := if R (F s) = R (F t) then ((s / 32 : Nat) : Int) - ((t / 32 : Nat) : Int) else (R (F s) : Int) - (R (F t) : Int)
set_option maxHeartbeats 1600000 in
theorem rcmp_any (R F : Nat → Nat) (p q bw bf off : Nat) (W : World) (s t : Nat) (hs : s < 64) (ht : t < 64) (hF : ∀ s, s < 64 → F s < 64) (hR : ∀ j, j < 64 → R j < 64)
    (cp : W.cell? ⟨p, 0, none⟩ = some (.pointer (some ⟨bw, 0, none⟩))) (cq : W.cell? ⟨q, 0, none⟩ = some (.pointer (some ⟨bf, off, none⟩)))
    (cf : ∀ s, s < 64 → W.cell? ⟨bf, off + s, none⟩ = some (.int .i64 (F s))) (cw : ∀ j, j < 64 → W.cell? ⟨bw, j * 2 + 1, none⟩ = some (.int .i64 (R j))) :
    Calls Try.prog 39 #[.int .i64 s, .int .i64 t, .pointer (some ⟨p, 0, none⟩), .pointer (some ⟨q, 0, none⟩)] W fun e w' => e = .returned (.int .i64 (cfR R F s t)) ∧ ∃ n, w' = W.drewN n := by
  have c1 := cf s hs
  have c2 := cf t ht
  have hcf : cfR R F s t = if R (F s) = R (F t) then ((s / 32 : Nat) : Int) - ((t / 32 : Nat) : Int) else (R (F s) : Int) - (R (F t) : Int) := rfl
  have b1 := hF s hs
  have b2 := hF t ht
  have r1 := hR _ b1
  have r2 := hR _ b2
  have c3 := cw _ b1
  have c4 := cw _ b2
  obtain ⟨C, hC⟩ : ∃ C, C = cfR R F s t := ⟨_, rfl⟩
  rw [← hC] at hcf ⊢
  clear hC cf cw hF hR
  generalize R (F s) = r at *
  generalize R (F t) = u at *
  generalize F s = x at *
  generalize F t = y at *
  by_cases hRQ : r = u
  · subst hRQ
    rw [if_pos rfl] at hcf
    have hne : ((r : Int) != (r : Int)) = false := by simp
    have HC := Lib.hid hcf
    clear hcf
    go_enter Try.func39, Try.ntmps39
    go_wp2_with (fail)
    go_quiet (fail)
    go_wp2_with (fail)
    go_ret
    exact ⟨by rw [HC.out]; rfl, _, rfl⟩
  · rw [if_neg hRQ] at hcf
    have hne : (((r : Int) - (u : Int)) != 0) = true := by simp; omega
    have HC := Lib.hid hcf
    clear hcf hRQ
    go_enter Try.func39, Try.ntmps39
    go_wp2_with (fail)
    go_quiet (fail)
    go_wp2_with (fail)
    go_ret
    exact ⟨by rw [HC.out]; rfl, _, rfl⟩
end Go.Proofs.Ytbfgpjpfhbbdfaa
