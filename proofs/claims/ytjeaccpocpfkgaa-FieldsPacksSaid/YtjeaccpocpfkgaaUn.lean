/-
  The walk of fields.Unpack. Conditions: slices of at most 1000 elements.
-/
import Derived.Test.YtjeaccpocpfkgaaRefPack
namespace Go.Proofs.Ytjeaccpocpfkgaa
open Go.RowKit Go.Shelf Kit
attribute [local go_sem] Oper.semAt_some
set_option linter.unusedVariables false
theorem results_cell2 {fn : Func} {p q : Tmp} {ty uy : TypeId} (h : fn.results = #[.cell p ty, .cell q uy]) (tmps : Array Value) (P : Program) (w : World) :
    (results fn tmps).run P w = ((asAddr (tmps.getD p undef)).run P w).andThen fun a w₁ => ((loadVar ty a).run P w₁).andThen fun v w₂ => ((asAddr (tmps.getD q undef)).run P w₂).andThen fun b w₃ => ((loadVar uy b).run P w₃).andThen fun u w₄ => .ok (.tuple #[v, u]) w₄ := by
  simp only [results, h]
  simp [Sem.run_bind, Result.andThen]
theorem un_fin {X : List Int} {d : ByteArray} {w W : World} {v : Value} {E : Int} {B : Nat} (tmps : Array Value) (h4 : tmps.getD 4 undef = .pointer (some ⟨B, 0, none⟩)) (h5 : tmps.getD 5 undef = .pointer (some ⟨B + 1, 0, none⟩))
    (c0 : W.cell? ⟨B, 0, none⟩ = some v) (c1 : W.cell? ⟨B + 1, 0, none⟩ = some (.int .i64 E)) (hp : UpPost X d w (.returned (.tuple #[v, .int .i64 E])) W) :
    bodyPostM Fence.wide 5 Try.prog Try.f25 (fun e w' => UpPost X d w e w') .ret { tmps := tmps, defers := [] } W := by
  refine ⟨_, ?_, hp⟩
  show (results Try.f25 tmps).run Try.prog W = _
  rw [results_cell2 rfl, h4, h5]
  go_simp
theorem two_boxes (w : World) (v e : Value) : ((w.alloc (.cells #[v] 42)).alloc (.cells #[e] 24)).cell? ⟨w.heap.size, 0, none⟩ = some v ∧ ((w.alloc (.cells #[v] 42)).alloc (.cells #[e] 24)).cell? ⟨w.heap.size + 1, 0, none⟩ = some e ∧ Below w.heap.size w ((w.alloc (.cells #[v] 42)).alloc (.cells #[e] 24)) := by
  refine ⟨((Boxed.new w 42 v).alloc _).cell, ?_, bl_alloc (bl_alloc (Below.refl _ _) _) _⟩
  have := (Boxed.new (w.alloc (.cells #[v] 42)) 24 e).cell
  rw [World.size_alloc] at this
  exact this
theorem un_box {X : List Int} {d : ByteArray} {w : World} {E : Int} (tmps : Array Value) (h4 : tmps.getD 4 undef = .pointer (some ⟨w.heap.size, 0, none⟩)) (h5 : tmps.getD 5 undef = .pointer (some ⟨w.heap.size + 1, 0, none⟩)) (h : upE X d = E) (hE : E ≠ 0) :
    bodyPostM Fence.wide 5 Try.prog Try.f25 (fun e w' => UpPost X d w e w') .ret { tmps := tmps, defers := [] } ((w.alloc (.cells #[.slice none 0 0] 42)).alloc (.cells #[.int .i64 E] 24)) :=
  un_fin tmps h4 h5 (two_boxes w _ _).1 (two_boxes w _ _).2.1 (up_err h hE (two_boxes w _ _).2.2)
set_option maxRecDepth 100000 in
theorem un_long (X : List Int) (a : Option Addr) (n c : Nat) (d : ByteArray) (w : World) (hml : d.size ≤ maxLen) (hl : (65536 : Int) < (d.size : Int)) :
    Calls Try.prog 25 #[.slice a n c, .string d] w fun e w' => UpPost X d w e w' := by
  have HU : Hid (upE X d = 3) := Lib.hid (by unfold upE; rw [if_pos (by omega)])
  unfold maxLen at hml
  refine (callsIn_wide (n := 5)).1 ?_
  refine callsIn_of_wp_marks Try.func25 rfl trivial ?_ rfl
  simp only [Try.ntmps25, List.size_toArray, List.length_cons, List.length_nil, Nat.reduceAdd, Nat.reduceSub, Array.replicate_succ, Array.replicate_zero, List.push_toArray, List.append_toArray, List.nil_append, List.cons_append]
  refine wpIn_wide.2 ?_
  go_wp2_with (fail)
  exact un_box _ rfl rfl HU.out (by decide)
set_option maxRecDepth 100000 in
theorem un_bad (X : List Int) (a : Option Addr) (n c : Nat) (d : ByteArray) (w : World) (hX : Nums .i64 w a n c X) (hn : n ≤ 1000) (hl : d.size ≤ 65536) (hok : ¬ okW X) :
    Calls Try.prog 25 #[.slice a n c, .string d] w fun e w' => UpPost X d w e w' := by
  have HU : Hid (upE X d = 2) := Lib.hid (by unfold upE; rw [if_neg (by omega), if_pos hok])
  have SA := Lib.hid (fun W h => sum_any X a n c W h (by omega))
  have hsR : sumR X = .tuple #[.int .i64 0, .bool false] := by unfold sumR; rw [if_neg hok]
  rw [hsR] at SA
  have HX : Hid (∀ v e, Nums .i64 ((w.alloc (.cells #[v] 42)).alloc (.cells #[e] 24)) a n c X) := Lib.hid (fun v e => hX.below (two_boxes w v e).2.2)
  have hl' : ¬ (65536 : Int) < (d.size : Int) := by omega
  clear hsR hX hok
  refine (callsIn_wide (n := 5)).1 ?_
  refine callsIn_of_wp_marks Try.func25 rfl trivial ?_ rfl
  simp only [Try.ntmps25, List.size_toArray, List.length_cons, List.length_nil, Nat.reduceAdd, Nat.reduceSub, Array.replicate_succ, Array.replicate_zero, List.push_toArray, List.append_toArray, List.nil_append, List.cons_append]
  refine wpIn_wide.2 ?_
  go_wp2_with (fail)
  refine (SA.out _ (HX.out _ _)).mono ?_
  rintro e _ ⟨rfl, rfl⟩
  go_wp2_with (fail)
  exact un_box _ rfl rfl HU.out (by decide)
set_option maxRecDepth 100000 in
theorem un_form (X : List Int) (a : Option Addr) (n c : Nat) (d : ByteArray) (w : World) (hX : Nums .i64 w a n c X) (hn : n ≤ 1000) (hl : d.size ≤ 65536) (hok : okW X) (hs : d.size ≠ (offs (wid X) X.length + 7) / 8) :
    Calls Try.prog 25 #[.slice a n c, .string d] w fun e w' => UpPost X d w e w' := by
  have HU : Hid (upE X d = 6) := Lib.hid (by unfold upE; rw [if_neg (by omega), if_neg (fun h => h hok), if_pos hs])
  have SA := Lib.hid (fun W h => sum_any X a n c W h (by omega))
  have hsR : sumR X = .tuple #[.int .i64 (offs (wid X) X.length : Nat), .bool true] := by unfold sumR; rw [if_pos hok]
  rw [hsR] at SA
  have HX : Hid (∀ v e, Nums .i64 ((w.alloc (.cells #[v] 42)).alloc (.cells #[e] 24)) a n c X) := Lib.hid (fun v e => hX.below (two_boxes w v e).2.2)
  have hle := offs_le X hok X.length (Nat.le_refl _)
  rw [← hX.1] at hle
  obtain ⟨s, hss⟩ : ∃ s, s = offs (wid X) X.length := ⟨_, rfl⟩
  rw [← hss] at SA hs
  have hle2 : s ≤ 64 * n := by rw [hss, ← hX.1]; exact hle
  have hne : ((d.size : Int) != ((s : Int) + 7) / 8) = true := by simp; omega
  have hl' : ¬ (65536 : Int) < (d.size : Int) := by omega
  clear hsR hX hok hss hs hle
  refine (callsIn_wide (n := 5)).1 ?_
  refine callsIn_of_wp_marks Try.func25 rfl trivial ?_ rfl
  simp only [Try.ntmps25, List.size_toArray, List.length_cons, List.length_nil, Nat.reduceAdd, Nat.reduceSub, Array.replicate_succ, Array.replicate_zero, List.push_toArray, List.append_toArray, List.nil_append, List.cons_append]
  refine wpIn_wide.2 ?_
  go_wp2_with (fail)
  refine (SA.out _ (HX.out _ _)).mono ?_
  rintro e _ ⟨rfl, rfl⟩
  go_wp2_with (fail)
  exact un_box _ rfl rfl HU.out (by decide)
end Go.Proofs.Ytjeaccpocpfkgaa
