/-
  Check, Lasts and Step of more loads than there may be. Conditions: none beyond a slice of loads.
-/
import Derived.Test.YtbdobcmblbojfaaStpc
namespace Go.Proofs.Ytbdobcmblbojfaa
open Go.RowKit Kit Go.Shelf
set_option linter.unusedVariables false
theorem okC_big {c f m u s : Int} {l : List Ld} (h : 16 < l.length) : okC c f m u s l = false := by
  refine Bool.eq_false_iff.2 (fun h' => ?_)
  have := (okC_parts h').2.2.2.2.2.2.2.1
  omega
set_option maxHeartbeats 3200000 in
theorem check_big (c f m u s : Int) (a : Option Addr) (n cp : Nat) (w : World) (hn : 16 < n) (hcap : n ≤ cp) (hcap2 : cp ≤ maxLen) :
    Calls Try.prog 14 #[batV c f m u s, .slice a n cp] w fun e w' => e = .returned (.int .i64 2) ∧ Below w.heap.size w w' := by
  unfold batV
  unfold maxLen at hcap2
  have d2 : Below w.heap.size w ((w.alloc (.cells #[.int .i64 c, .int .i64 f, .int .i64 m, .int .i64 u, .int .i64 s] 23)).alloc (.cells #[.func (.func 27) #[] #[]] 51)) := bl_alloc (bl_alloc (Below.refl _ _) _) _
  have D2 := Lib.hid d2
  clear d2
  go_enter Try.func14, Try.ntmps14
  go_wp2_with (go_at_call 27; refine (within_any _ _ _).mono ?_; rintro e _ ⟨rfl, rfl⟩)
  all_goals first
    | (exfalso; omega)
    | (go_ret; exact ⟨rfl, D2.out⟩)
theorem check_all (c f m u s : Int) (l : List Ld) (a : Option Addr) (n cp : Nat) (w : World) (hL : Lds w a n cp l) :
    Calls Try.prog 14 #[batV c f m u s, .slice a n cp] w fun e w' => e = .returned (.int .i64 (chkE c f m u s l)) ∧ Below w.heap.size w w' := by
  by_cases hn : n ≤ 1000000
  · exact check_any c f m u s l a n cp w hL hn
  · rw [chkE_no (okC_big (by have := hL.1; omega))]
    exact check_big c f m u s a n cp w (by omega) hL.2.1 hL.2.2.1
theorem lasts_all (c f m u s : Int) (l : List Ld) (a : Option Addr) (n cp : Nat) (w : World) (hL : Lds w a n cp l) :
    Calls Try.prog 19 #[batV c f m u s, .slice a n cp] w fun e w' => e = .returned (.tuple #[.int .i64 (lasN c f m u s l), .int .i64 (chkE c f m u s l)]) ∧ Below w.heap.size w w' := by
  by_cases hn : n ≤ 1000000
  · exact lasts_any c f m u s l a n cp w hL hn
  · have hok : okC c f m u s l = false := okC_big (by have := hL.1; omega)
    have hl : lasN c f m u s l = 0 := by unfold lasN; rw [hok]; rfl
    rw [chkE_no hok, hl]
    have CA := Lib.hid (fun W (h : Lds W a n cp l) => check_big c f m u s a n cp W (by omega) h.2.1 h.2.2.1)
    have HL := Lib.hid hL
    have hq0 : Below w.heap.size w (w.alloc (.cells #[.int .i64 c, .int .i64 f, .int .i64 m, .int .i64 u, .int .i64 s] 23)) := bl_alloc (Below.refl _ _) _
    have Q0 := Lib.hid hq0
    unfold batV at CA ⊢
    clear hL hok hl hq0
    go_enter Try.func19, Try.ntmps19
    go_wp2_with (fail)
    refine (CA.out _ (HL.out.below Q0.out)).mono ?_
    rintro e w1 ⟨rfl, b1⟩
    have B1 := Lib.hid (bl_step Q0.out b1)
    clear b1
    go_wp2_with (fail)
    go_ret2
    exact ⟨rfl, B1.out⟩
set_option maxRecDepth 100000 in
set_option maxHeartbeats 3200000 in
theorem step_all (c f m u s made : Int) (l : List Ld) (a : Option Addr) (n cp : Nat) (w : World) (hL : Lds w a n cp l) :
    Calls Try.prog 11 #[batV c f m u s, .int .i64 made, .slice a n cp] w fun e w' => StepAll c f m u s made l n w e w' := by
  by_cases hn : n ≤ 1000000
  · exact step_any c f m u s made l a n cp w hL hn
  · have hok : okC c f m u s l = false := okC_big (by have := hL.1; omega)
    have hno : okS c f m u s made l = false := by unfold okS; rw [hok]; rfl
    suffices h : Calls Try.prog 11 #[batV c f m u s, .int .i64 made, .slice a n cp] w fun e w' => e = .returned (.tuple #[batV 0 0 0 0 0, .slice none 0 0, .int .i64 2]) ∧ Below w.heap.size w w' from
      h.mono fun e w' h => ⟨h.2, .inl ⟨hno, h.1⟩⟩
    have CA := Lib.hid (fun W (h : Lds W a n cp l) => check_big c f m u s a n cp W (by omega) h.2.1 h.2.2.1)
    have HL := Lib.hid hL
    unfold batV at CA ⊢
    clear hL hok hno
    have F0 : Fr w.heap.size c f m u s a n cp (((w.alloc (.cells #[.int .i64 c, .int .i64 f, .int .i64 m, .int .i64 u, .int .i64 s] 23)).alloc (.cells #[.slice a n cp] 24)).alloc (.cells #[.int .i64 0, .int .i64 0, .int .i64 0, .int .i64 0, .int .i64 0] 23)) := by
      refine ⟨?_, ?_, ?_⟩
      · exact hp_old (hp_old (hp_new w _) _) _
      · have := hp_old (hp_new (w.alloc (.cells #[.int .i64 c, .int .i64 f, .int .i64 m, .int .i64 u, .int .i64 s] 23)) (.cells #[.slice a n cp] 24)) (.cells #[.int .i64 0, .int .i64 0, .int .i64 0, .int .i64 0, .int .i64 0] 23)
        rw [World.size_alloc] at this; exact this
      · have := hp_new ((w.alloc (.cells #[.int .i64 c, .int .i64 f, .int .i64 m, .int .i64 u, .int .i64 s] 23)).alloc (.cells #[.slice a n cp] 24)) (.cells #[.int .i64 0, .int .i64 0, .int .i64 0, .int .i64 0, .int .i64 0] 23)
        rw [World.size_alloc, World.size_alloc] at this; exact this
    have q0 : Below w.heap.size w (((w.alloc (.cells #[.int .i64 c, .int .i64 f, .int .i64 m, .int .i64 u, .int .i64 s] 23)).alloc (.cells #[.slice a n cp] 24)).alloc (.cells #[.int .i64 0, .int .i64 0, .int .i64 0, .int .i64 0, .int .i64 0] 23)) := bl_alloc (bl_alloc (bl_alloc (Below.refl _ _) _) _) _
    have F0 := Lib.hid F0
    have Q0 := Lib.hid q0
    clear q0
    go_enter Try.func11, Try.ntmps11
    go_wp2_with (fail)
    refine (CA.out _ (HL.out.below Q0.out)).mono ?_
    rintro e w1 ⟨rfl, b1⟩
    have B1 := Lib.hid (bl_step Q0.out b1)
    have hrs : w1.heap[w.heap.size + 1 + 1]? = some (.cells #[.int .i64 0, .int .i64 0, .int .i64 0, .int .i64 0, .int .i64 0] 23 (0, 0)) := (F0.out.below b1).rs
    have HRS := Lib.hid hrs
    have rs0 : w1.cell? ⟨w.heap.size + 1 + 1, 0, none⟩ = some (.int .i64 0) := cell_of (i := 0) hrs rfl
    have rs1 : w1.cell? ⟨w.heap.size + 1 + 1, 1, none⟩ = some (.int .i64 0) := cell_of (i := 1) hrs rfl
    have rs2 : w1.cell? ⟨w.heap.size + 1 + 1, 2, none⟩ = some (.int .i64 0) := cell_of (i := 2) hrs rfl
    have rs3 : w1.cell? ⟨w.heap.size + 1 + 1, 3, none⟩ = some (.int .i64 0) := cell_of (i := 3) hrs rfl
    have rs4 : w1.cell? ⟨w.heap.size + 1 + 1, 4, none⟩ = some (.int .i64 0) := cell_of (i := 4) hrs rfl
    have rf : ∀ i, w1.frozen? ⟨w.heap.size + 1 + 1, i, none⟩ = false := fun i => free_of (i := i) hrs
    clear b1 hrs F0 Q0 CA
    go_wp2_with (fail)
    exact stp_fin (R := w.heap.size + 1 + 1) _ rfl rfl rfl (set5_hp HRS.out _ _ _ _ _) ⟨rfl, set5_below (R := w.heap.size + 1 + 1) B1.out (Nat.le_add_right _ 2) _ _ _ _ _⟩
end Go.Proofs.Ytbdobcmblbojfaa
