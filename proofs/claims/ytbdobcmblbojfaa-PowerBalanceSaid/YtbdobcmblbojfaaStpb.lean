/-
  The walk of power.Step where it returns an error, and both joined. Conditions: none beyond a slice of loads.
-/
import Derived.Test.YtbdobcmblbojfaaStp
import Derived.Test.YtbdobcmblbojfaaLend
namespace Go.Proofs.Ytbdobcmblbojfaa
open Go.RowKit Kit Go.Shelf
set_option linter.unusedVariables false
/-- Step is asked for something possible. -/
def okS (c f m u s made : Int) (l : List Ld) : Bool := okC c f m u s l && decide (0 ≤ made) && decide (made ≤ 1073741824)
set_option maxRecDepth 100000 in
set_option maxHeartbeats 3200000 in
theorem step_bad (c f m u s made : Int) (l : List Ld) (a : Option Addr) (n cp : Nat) (w : World) (hL : Lds w a n cp l) (hn : n ≤ 1000000) (hno : okS c f m u s made l = false) :
    Calls Try.prog 11 #[batV c f m u s, .int .i64 made, .slice a n cp] w fun e w' => e = .returned (.tuple #[batV 0 0 0 0 0, .slice none 0 0, .int .i64 2]) ∧ Below w.heap.size w w' := by
  have CA := Lib.hid (fun W h => check_any c f m u s l a n cp W h hn)
  have HL := Lib.hid hL
  have HNO : Hid (chkE c f m u s l = 2 ∨ (chkE c f m u s l = 0 ∧ (made < 0 ∨ 1073741824 < made))) := Lib.hid (by
    cases h : okC c f m u s l with
    | false => exact .inl (chkE_no h)
    | true =>
      refine .inr ⟨chkE_ok h, ?_⟩
      unfold okS at hno
      rw [h, Bool.true_and, Bool.and_eq_false_iff, decide_eq_false_iff_not, decide_eq_false_iff_not] at hno
      omega)
  obtain ⟨E, hE⟩ : ∃ E, E = chkE c f m u s l := ⟨_, rfl⟩
  rw [← hE] at CA HNO
  unfold batV at CA ⊢
  clear hL hno hE
  have F0 : Fr w.heap.size c f m u s a n cp (((w.alloc (.cells #[.int .i64 c, .int .i64 f, .int .i64 m, .int .i64 u, .int .i64 s] 23)).alloc (.cells #[.slice a n cp] 24)).alloc (.cells #[.int .i64 0, .int .i64 0, .int .i64 0, .int .i64 0, .int .i64 0] 23)) := by
    refine ⟨?_, ?_, ?_⟩
    · exact hp_old (hp_old (hp_new w _) _) _
    · have := hp_old (hp_new (w.alloc (.cells #[.int .i64 c, .int .i64 f, .int .i64 m, .int .i64 u, .int .i64 s] 23)) (.cells #[.slice a n cp] 24)) (.cells #[.int .i64 0, .int .i64 0, .int .i64 0, .int .i64 0, .int .i64 0] 23)
      rw [World.size_alloc] at this; exact this
    · have := hp_new ((w.alloc (.cells #[.int .i64 c, .int .i64 f, .int .i64 m, .int .i64 u, .int .i64 s] 23)).alloc (.cells #[.slice a n cp] 24)) (.cells #[.int .i64 0, .int .i64 0, .int .i64 0, .int .i64 0, .int .i64 0] 23)
      rw [World.size_alloc, World.size_alloc] at this; exact this
  have q0 : Below w.heap.size w (((w.alloc (.cells #[.int .i64 c, .int .i64 f, .int .i64 m, .int .i64 u, .int .i64 s] 23)).alloc (.cells #[.slice a n cp] 24)).alloc (.cells #[.int .i64 0, .int .i64 0, .int .i64 0, .int .i64 0, .int .i64 0] 23)) := bl_alloc (bl_alloc (bl_alloc (Below.refl _ _) _) _) _
  have F0 := Lib.hid F0
  have Q0 := Lib.hid q0
  clear q0
  go_enter Try.func11, Try.ntmps11
  go_wp2_with (fail)
  refine (CA.out _ (HL.out.below Q0.out)).mono ?_
  rintro e w1 ⟨rfl, b1⟩
  have B1 := Lib.hid (bl_step Q0.out b1)
  have hrs : w1.heap[w.heap.size + 1 + 1]? = some (.cells #[.int .i64 0, .int .i64 0, .int .i64 0, .int .i64 0, .int .i64 0] 23 (0, 0)) := (F0.out.below b1).rs
  have HRS := Lib.hid hrs
  have rs0 : w1.cell? ⟨w.heap.size + 1 + 1, 0, none⟩ = some (.int .i64 0) := cell_of (i := 0) hrs rfl
  have rs1 : w1.cell? ⟨w.heap.size + 1 + 1, 1, none⟩ = some (.int .i64 0) := cell_of (i := 1) hrs rfl
  have rs2 : w1.cell? ⟨w.heap.size + 1 + 1, 2, none⟩ = some (.int .i64 0) := cell_of (i := 2) hrs rfl
  have rs3 : w1.cell? ⟨w.heap.size + 1 + 1, 3, none⟩ = some (.int .i64 0) := cell_of (i := 3) hrs rfl
  have rs4 : w1.cell? ⟨w.heap.size + 1 + 1, 4, none⟩ = some (.int .i64 0) := cell_of (i := 4) hrs rfl
  have rf : ∀ i, w1.frozen? ⟨w.heap.size + 1 + 1, i, none⟩ = false := fun i => free_of (i := i) hrs
  have hno := HNO.out
  clear b1 hrs F0 Q0 CA HNO
  rcases hno with rfl | ⟨rfl, h | h⟩
  · go_wp2_with (fail)
    exact stp_fin (R := w.heap.size + 1 + 1) _ rfl rfl rfl (set5_hp HRS.out _ _ _ _ _) ⟨rfl, set5_below (R := w.heap.size + 1 + 1) B1.out (Nat.le_add_right _ 2) _ _ _ _ _⟩
  · go_wp2_with (fail)
    exact stp_fin (R := w.heap.size + 1 + 1) _ rfl rfl rfl (set5_hp HRS.out _ _ _ _ _) ⟨rfl, set5_below (R := w.heap.size + 1 + 1) B1.out (Nat.le_add_right _ 2) _ _ _ _ _⟩
  · have h' : ¬ made < 0 := by omega
    go_wp2_with (fail)
    exact stp_fin (R := w.heap.size + 1 + 1) _ rfl rfl rfl (set5_hp HRS.out _ _ _ _ _) ⟨rfl, set5_below (R := w.heap.size + 1 + 1) B1.out (Nat.le_add_right _ 2) _ _ _ _ _⟩
theorem okS_parts {c f m u s made : Int} {l : List Ld} (h : okS c f m u s made l = true) : okC c f m u s l = true ∧ 0 ≤ made ∧ made ≤ 1073741824 := by
  unfold okS at h
  simp only [Bool.and_eq_true, decide_eq_true_eq] at h
  exact ⟨h.1.1, h.1.2, h.2⟩
end Go.Proofs.Ytbdobcmblbojfaa
