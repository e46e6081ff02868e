/-
  The walk of power.Check, joined. Conditions: none beyond a slice of loads.
-/
import Derived.Test.YtbdobcmblbojfaaChk
import Derived.Laws.EntriesVeiled
namespace Go.Proofs.Ytbdobcmblbojfaa
open Go.RowKit Kit
set_option linter.unusedVariables false
set_option linter.unusedSimpArgs false
def batV (c f m u s : Int) : Value := .agg #[.int .i64 c, .int .i64 f, .int .i64 m, .int .i64 u, .int .i64 s]
def okC (c f m u s : Int) (l : List Ld) : Bool :=
  inR m 1152921504606846976 && inR u 1152921504606846976 && inR s 1152921504606846976 && !decide (f < 1) && inR f 1099511627776 && inR c f && !decide (16 < l.length) && decide (okD l)
def chkE (c f m u s : Int) (l : List Ld) : Int := if okC c f m u s l then 0 else 2
theorem chkE_ok {c f m u s : Int} {l : List Ld} (h : okC c f m u s l = true) : chkE c f m u s l = 0 := by unfold chkE; rw [h]; rfl
theorem chkE_no {c f m u s : Int} {l : List Ld} (h : okC c f m u s l = false) : chkE c f m u s l = 2 := by unfold chkE; rw [h]; rfl
set_option maxHeartbeats 3200000 in
theorem check_any (c f m u s : Int) (l : List Ld) (a : Option Addr) (n cp : Nat) (w : World) (hL : Lds w a n cp l) (hn : n ≤ 1000000) :
    Calls Try.prog 14 #[batV c f m u s, .slice a n cp] w fun e w' => e = .returned (.int .i64 (chkE c f m u s l)) ∧ Below w.heap.size w w' := by
  unfold batV
  have N1 := Lib.hid hL.1
  have hcap := hL.2.1
  have hcap2 := hL.2.2.1
  unfold maxLen at hcap2
  have d2 : Below w.heap.size w ((w.alloc (.cells #[.int .i64 c, .int .i64 f, .int .i64 m, .int .i64 u, .int .i64 s] 23)).alloc (.cells #[.func (.func 27) #[] #[]] 51)) := bl_alloc (bl_alloc (Below.refl _ _) _) _
  have D2 := Lib.hid d2
  have hcell : ((w.alloc (.cells #[.int .i64 c, .int .i64 f, .int .i64 m, .int .i64 u, .int .i64 s] 23)).alloc (.cells #[.func (.func 27) #[] #[]] 51)).cell? ⟨w.heap.size + 1, 0, none⟩ = some (.func (.func 27) #[] #[]) := by
    have := cell_of (i := 0) (hp_new (w.alloc (.cells #[.int .i64 c, .int .i64 f, .int .i64 m, .int .i64 u, .int .i64 s] 23)) (.cells #[.func (.func 27) #[] #[]] 51)) rfl
    rw [World.size_alloc] at this
    exact this
  have CA := Lib.hid (contains_any l a n cp (w.heap.size + 1) _ (hL.below d2) hn hcell (by simp))
  obtain ⟨R, hR⟩ : ∃ R, Hid (chkE c f m u s l = R) := ⟨_, Lib.hid rfl⟩
  rw [hR.out]
  clear hL d2 hcell
  obtain ⟨t, ht⟩ : ∃ t, Hid (t = !decide (okD l)) := ⟨_, Lib.hid rfl⟩
  rw [← ht.out] at CA
  go_enter Try.func14, Try.ntmps14
  go_wp2_with (first | (go_at_call 27; refine (within_any _ _ _).mono ?_; rintro e _ ⟨rfl, rfl⟩) | (go_at_call 28; refine CA.out.mono ?_; rintro e w3 ⟨rfl, b3⟩; replace b3 := Lib.hid b3))
  all_goals (have hN := N1.out; have hT := ht.out)
  all_goals go_ret
  all_goals (refine ⟨?_, ?_⟩)
  all_goals (first | exact D2.out | exact bl_step D2.out b3.out | skip)
  all_goals (rw [← hR.out]; clear CA hR D2 N1 ht; first
    | (rw [chkE_no]; · rfl
       · refine Bool.eq_false_iff.2 (fun h => ?_)
         unfold okC at h
         simp only [Bool.and_eq_true, Bool.not_eq_true', decide_eq_false_iff_not, decide_eq_true_eq] at h
         obtain ⟨⟨⟨⟨⟨⟨⟨k1, k2⟩, k3⟩, k4⟩, k5⟩, k6⟩, k7⟩, k8⟩ := h
         first
           | omega
           | contradiction
           | (rw [decide_eq_true k8] at hT; subst hT; contradiction)
           | (simp only [k1, k2, k3, k5, k6] at *; done))
    | (rw [chkE_ok]; · rfl
       · unfold okC
         simp only [Bool.and_eq_true, Bool.not_eq_true', decide_eq_false_iff_not, decide_eq_true_eq]
         refine ⟨⟨⟨⟨⟨⟨⟨?_, ?_⟩, ?_⟩, ?_⟩, ?_⟩, ?_⟩, ?_⟩, ?_⟩
         all_goals first
           | assumption
           | omega
           | (cases hD : decide (okD l) with
              | true => exact of_decide_eq_true hD
              | false => rw [hD] at hT; subst hT; contradiction)))
end Go.Proofs.Ytbdobcmblbojfaa
