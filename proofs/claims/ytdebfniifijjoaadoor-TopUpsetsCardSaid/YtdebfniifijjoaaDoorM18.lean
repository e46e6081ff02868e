/-
  The walk of new32. Conditions: the table of math/bits lies.
-/
import Derived.Test.YtdebfniifijjoaaDoorM17
namespace Go.Proofs.YtdebfniifijjoaaDoor
open Go.RowKit Kit Go.Shelf
set_option linter.unusedVariables false
def wd0 : WD := ⟨.pointer none, .pointer none, .pointer none, 0, emp, 0, fun _ => 0, fun _ => 0, .slice none 0 0, 0⟩
theorem build40 (w : World) : (Instr.build 40 #[(3, .int .i64 92)]).run Tryd.prog w = .ok (.agg (wrow wd0)) w := by kernel_rfl
theorem info4 : (Tryd.prog.info? 4).map (fun i => (i.zero, i.size, i.bytes)) = some (some (.bool false), 1, 1) := by kernel_rfl
theorem make38 (w : World) : (Instr.makeSlice 38 (.int .i64 122) (.int .i64 122)).run Tryd.prog w = .ok (.slice (some ⟨w.heap.size, 0, none⟩) 122 122) (w.alloc (.cells (ffn fun _ => false) 4)) := by
  obtain ⟨i, hi, hz0, hz1, hz2⟩ := info_parts info4
  have := run_make (P := Tryd.prog) w 38 4 i _ Tryd.underlying38 hi hz0 .i64 .i64 122 122 (by omega) (by omega) (by rw [hz2]; omega) (by omega)
  rw [this]
  have e : madeCells (Value.bool false).cells ((122 : Int).toNat * i.size) = ffn fun _ => false := by
    rw [hz1]; kernel_rfl
  rw [e]
  rfl
theorem wcell_words (d : WD) (v : Int) (j : Nat) : (if j = 4 then .int .i64 v else wcell d j) = wcell { d with words := v } j := by
  by_cases e : j = 4
  · subst e; rfl
  · rw [if_neg e]
    unfold wcell
    by_cases h : j < 7
    · rw [if_pos h, if_pos h]
      rcases (by omega : j = 0 ∨ j = 1 ∨ j = 2 ∨ j = 3 ∨ j = 5 ∨ j = 6) with rfl | rfl | rfl | rfl | rfl | rfl <;> rfl
    · rw [if_neg h, if_neg h]
theorem wcell_m (d : WD) (v : Value) (j : Nat) : (if j = 0 then v else wcell d j) = wcell { d with m := v } j := by
  by_cases e : j = 0
  · subst e; rfl
  · rw [if_neg e]
    unfold wcell
    by_cases h : j < 7
    · rw [if_pos h, if_pos h]
      rcases (by omega : j = 1 ∨ j = 2 ∨ j = 3 ∨ j = 4 ∨ j = 5 ∨ j = 6) with rfl | rfl | rfl | rfl | rfl | rfl <;> rfl
    · rw [if_neg h, if_neg h]
theorem wcell_up (d : WD) (v : Value) (j : Nat) : (if j = 45 then v else wcell d j) = wcell { d with up := v } j := by
  by_cases e : j = 45
  · subst e; rfl
  · rw [if_neg e]
    unfold wcell
    rw [if_neg (c := j = 45) e, if_neg (c := j = 45) e]
/-- As the walk lays it. -/
theorem row0 : (#[.pointer none, .pointer none, .pointer none, .int .i64 92, .int .i64 122, .string { data := #[] }, .int .u32 0, .int .i64 0, .int .i64 0, .int .i64 0, .int .i64 0, .int .i64 0, .int .i64 0, .int .i64 0, .int .i64 0, .int .u32 0, .int .u32 0, .int .u32 0, .int .u32 0, .int .u32 0, .int .u32 0, .int .u32 0, .int .u32 0, .int .u32 0, .int .u32 0, .int .u32 0, .int .u32 0, .int .u32 0, .int .u32 0, .int .u32 0, .int .u32 0, .int .u32 0, .int .u32 0, .int .u32 0, .int .u32 0, .int .u32 0, .int .u32 0, .int .u32 0, .int .u32 0, .int .u32 0, .int .u32 0, .int .u32 0, .int .u32 0, .int .u32 0, .int .u32 0, .slice none 0 0, .int .u32 0] : Array Value) = wrow { wd0 with words := 122 } := by kernel_rfl
/-- All that is written lies behind L. -/
structure WLo (L W : Nat) (x : WX) : Prop where
  W : L ≤ W
  bm : L ≤ x.bm
  bw : L ≤ x.bw
  b1 : L ≤ x.b1
  b2 : L ≤ x.b2
  bu : L ≤ x.bu
def NewQ (w : World) (e : Ending) (w' : World) : Prop :=
  ∃ (W : Nat) (x : WX) (d : WD), e = .returned (.tuple #[.pointer (some ⟨W, 0, none⟩), .bool true]) ∧ WO w' W d x (fun _ => false) ms0 ∧ WLo w.heap.size W x ∧ d.id = 0 ∧ d.text = emp ∧ d.vals = (fun _ => 0) ∧ d.single = (fun _ => 0) ∧ d.ctr = 0 ∧ Below w.heap.size w w'
set_option maxRecDepth 100000 in
set_option maxHeartbeats 1600000 in
theorem new32_any {w : World} (hT : Tab w) : Calls Tryd.prog 4 #[] w fun e w' => NewQ w e w' := by
  have hw : 0 < w.heap.size := by
    have := hT 0 (by decide)
    exact World.block_lt_of_cell? w _ this
  have HT := Lib.hid hT
  have WD7 : Hid (∀ w' : World, Calls Tryd.prog 7 #[.int .i64 64] w' fun e w'' => e = .returned (.int .i64 42) ∧ w' = w'') := Lib.hid (fun (w' : World) => words_any 64 (by omega) (by omega) w')
  have WD8 : Hid (∀ w' : World, Calls Tryd.prog 7 #[.int .i64 80] w' fun e w'' => e = .returned (.int .i64 50) ∧ w' = w'') := Lib.hid (fun (w' : World) => words_any 80 (by omega) (by omega) w')
  have B40 := fun w => build40 w
  have M38 := fun w => make38 w
  have O1 := Lib.hid (hp_new w (.cells (wrow wd0) 40))
  have c3 : (w.alloc (.cells (wrow wd0) 40)).cell? ⟨w.heap.size, 3, none⟩ = some (.int .i64 92) := (show WC _ _ wd0 from O1.out).c3
  have c4 : (w.alloc (.cells (wrow wd0) 40)).cell? ⟨w.heap.size, 4, none⟩ = some (.int .i64 0) := (show WC _ _ wd0 from O1.out).cell 4 (by omega)
  clear hT
  go_enter Tryd.func4, Tryd.ntmps4
  go_wp2_with (fail)
  refine (WD7.out _).mono ?_
  rintro e _ ⟨rfl, rfl⟩
  go_wp2_with (fail)
  refine (WD8.out _).mono ?_
  rintro e _ ⟨rfl, rfl⟩
  go_upto_region 5 with (fail)
  rw [row0]
  have F1 : Hid (WC (w.alloc (.cells (wrow { wd0 with words := 122 }) 40)) w.heap.size { wd0 with words := 122 }) := Lib.hid (hp_new _ _)
  have BL1 : Hid (Below w.heap.size w (w.alloc (.cells (wrow { wd0 with words := 122 }) 40))) := Lib.hid (bl_alloc (Below.refl _ _) _)
  generalize w.alloc (.cells (wrow { wd0 with words := 122 }) 40) = w1 at *
  have e3 : w1.cell? ⟨w.heap.size, 3, none⟩ = some (.int .i64 92) := F1.out.c3
  have e4 : w1.cell? ⟨w.heap.size, 4, none⟩ = some (.int .i64 122) := F1.out.cell 4 (by omega)
  have hl1 := F1.out.lt
  have NW := Lib.hid (new_any w1.drew (Nat.lt_of_le_of_lt (Nat.zero_le _) (show w.heap.size < w1.drew.heap.size from hl1)))
  clear c3 c4 O1 B40
  go_region_held3 (fun w' => w'.cell? ⟨w.heap.size, 3, none⟩ = some (.int .i64 92) ∧ w'.cell? ⟨w.heap.size, 4, none⟩ = some (.int .i64 122)) (go_keep) ((first | (go_at_call 8; rw [show IntKind.i64.wrap 112 = 112 from rfl]; refine NW.out.mono ?_; rintro e w2 ⟨rfl, me2, bl2⟩; have ME2 := Lib.hid me2; have BL2 := Lib.hid (show Below w1.heap.size w1 w2 from (Below.refl _ _).drew.trans bl2); have e3' : w2.cell? ⟨w.heap.size, 3, none⟩ = some (.int .i64 92) := by { rw [(bcell BL2.out).1 _ 3 hl1]; exact e3 }; have e4' : w2.cell? ⟨w.heap.size, 4, none⟩ = some (.int .i64 122) := by { rw [(bcell BL2.out).1 _ 4 hl1]; exact e4 }; clear me2 bl2)))
  rw [show w1.drew.heap.size = w1.heap.size from rfl] at *
  have F2 : Hid (WC w2 w.heap.size { wd0 with words := 122 }) := Lib.hid (below_keeps BL2.out F1.out hl1)
  have hl2 := F2.out.lt
  have cz : ∀ j, w2.frozen? ⟨w.heap.size, j, none⟩ = false := fun j => F2.out.free j
  have k0 : w2.cell? ⟨w.heap.size, 0, none⟩ = some (.pointer none) := F2.out.cell 0 (by omega)
  have k45 : w2.cell? ⟨w.heap.size, 45, none⟩ = some (.slice none 0 0) := F2.out.cell 45 (by omega)
  clear NW e3 e4
  have hq1 : w.heap.size ≠ w2.heap.size := by omega
  have hq2 : w2.heap.size ≠ w.heap.size := by omega
  have MD : Hid (Mod (fun k => k = w.heap.size) w2 ((((w2.setCell ⟨w.heap.size, 0, none⟩ (.pointer (some ⟨w1.heap.size + 1, 0, none⟩))).setCell ⟨w.heap.size, 45, none⟩ (.slice (some ⟨w2.heap.size, 0, none⟩) 122 122)).alloc (.cells (ffn fun _ => false) 4)).drew)) := Lib.hid ((Mod.alloc (mod_at (mod_at (Mod.refl _ _) _) _) _).drew)
  have BL12 : Hid (Below w.heap.size w w2) := Lib.hid (below_step BL1.out BL2.out BL1.out.size)
  have BLf := Lib.hid (below_mod BL12.out MD.out BL12.out.size (Nat.le_refl _))
  have OBf := Lib.hid ((F2.out.set 0 (.pointer (some ⟨w1.heap.size + 1, 0, none⟩)) (fun j _ => wcell_m _ _ j)).set 45 (.slice (some ⟨w2.heap.size, 0, none⟩) 122 122) (fun j _ => wcell_up _ _ j))
  have WBf : Hid (WB ((((w2.setCell ⟨w.heap.size, 0, none⟩ (.pointer (some ⟨w1.heap.size + 1, 0, none⟩))).setCell ⟨w.heap.size, 45, none⟩ (.slice (some ⟨w2.heap.size, 0, none⟩) 122 122)).alloc (.cells (ffn fun _ => false) 4)).drew) w.heap.size
      { ({ ({ wd0 with words := 122 } : WD) with m := .pointer (some ⟨w1.heap.size + 1, 0, none⟩) } : WD) with up := .slice (some ⟨w2.heap.size, 0, none⟩) 122 122 } (w1.heap.size + 1) w1.heap.size w2.heap.size (fun _ => false) ms0) := Lib.hid (by
    have hm := lt_of_obj ME2.out.words
    obtain ⟨fx, st, ho⟩ := ME2.out.obj
    have hm' := lt_of_obj ho
    have hTn := HT.out.modS (Mod.of_below (S := fun _ => False) BLf.out) id
    have hnew := hp_new ((w2.setCell ⟨w.heap.size, 0, none⟩ (.pointer (some ⟨w1.heap.size + 1, 0, none⟩))).setCell ⟨w.heap.size, 45, none⟩ (.slice (some ⟨w2.heap.size, 0, none⟩) 122 122)) (.cells (ffn fun _ => false) 4)
    rw [show ((w2.setCell ⟨w.heap.size, 0, none⟩ (.pointer (some ⟨w1.heap.size + 1, 0, none⟩))).setCell ⟨w.heap.size, 45, none⟩ (.slice (some ⟨w2.heap.size, 0, none⟩) 122 122)).heap.size = w2.heap.size by simp [World.setCell]] at hnew
    refine ⟨hp_old OBf.out _, rfl, rfl, rfl, hnew, ME2.out.modS MD.out (by omega) (by omega), hTn, ⟨by omega, by omega, by omega, by omega⟩, ⟨by omega, by omega, by omega⟩⟩)
  have BEG := Lib.hid (wbegin_any WBf.out)
  go_upto_region 8 with (fail)
  go_region_held3 (fun w' => w'.cell? ⟨w.heap.size, 4, none⟩ = some (.int .i64 122)) (simp [*, World.cell?_alloc_some, World.cell?_setCell_other]) ((fail))
  all_goals
    go_wp2_with (fail)
    refine BEG.out.mono ?_
    rintro e w9 ⟨rfl, ⟨x, hx1, hx2, hx3, wo, hx4, hx5⟩, md⟩
    have WO9 := Lib.hid wo
    have BL9 := Lib.hid (below_mod BLf.out md BLf.out.size (Nat.le_refl _))
    have hsz := BLf.out.size
    have hw2 := BL12.out.size
    have hw1 := BL1.out.size
    have LOW : Hid (WLo w.heap.size w.heap.size x) := Lib.hid ⟨Nat.le_refl _, by omega, by omega, by omega, by omega, by omega⟩
    clear wo md hx1 hx2 hx3 hx4 hx5 hsz hw1 hw2
    go_wp2_with (fail)
    go_ret2
    exact ⟨_, x, _, rfl, WO9.out, LOW.out, rfl, rfl, rfl, rfl, rfl, BL9.out⟩
end Go.Proofs.YtdebfniifijjoaaDoor
/-
  The walks of patch and table. Conditions: a world as it lies.
-/
namespace Go.Proofs.YtdebfniifijjoaaDoor
open Go.RowKit Kit Go.Shelf
set_option linter.unusedVariables false
/-- Is that the patch? -/
def pat (v : Option (Nat × ByteArray)) (id : Nat) (text : ByteArray) : Bool :=
  match v with | none => decide (id = 0) | some (i, D) => decide (id ≠ 0 ∧ i = id ∧ D = text)
def RdW (w : World) (W : Nat) (d : WD) (x : WX) (u : Nat → Bool) (s : MS) (w' : World) : Prop := (∃ s', s.Le s' ∧ WO w' W d x u s') ∧ MK x.bm x.bw w w'
def PatQ (b : Bool) (W : Nat) (d : WD) (x : WX) (u : Nat → Bool) (s : MS) (w : World) (e : Ending) (w' : World) : Prop := e = .returned (.bool b) ∧ RdW w W d x u s w'
theorem WO.cs {w : World} {W : Nat} {d : WD} {x : WX} {u : Nat → Bool} {s : MS} (h : WO w W d x u s) : w.cell? ⟨W, 0, none⟩ = some (.pointer (some ⟨x.bm, 0, none⟩)) ∧ w.cell? ⟨W, 1, none⟩ = some (.pointer (some ⟨x.b1, 0, none⟩)) ∧ w.cell? ⟨W, 2, none⟩ = some (.pointer (some ⟨x.bt, 0, none⟩)) ∧
    w.cell? ⟨W, 3, none⟩ = some (.int .i64 92) ∧ w.cell? ⟨W, 4, none⟩ = some (.int .i64 122) ∧ w.cell? ⟨W, 5, none⟩ = some (.string d.text) ∧ w.cell? ⟨W, 6, none⟩ = some (.int .u32 d.id) ∧ w.cell? ⟨W, 45, none⟩ = some (.slice (some ⟨x.bu, 0, none⟩) 122 122) ∧ w.cell? ⟨W, 46, none⟩ = some (.int .u32 d.ctr) := by
  have c := h.b.obj.cell
  refine ⟨?_, ?_, ?_, h.b.obj.c3, ?_, c 5 (by omega), c 6 (by omega), ?_, c 46 (by omega)⟩
  · rw [c 0 (by omega), show wcell d 0 = d.m from rfl, h.b.m]
  · rw [c 1 (by omega), show wcell d 1 = d.s from rfl, h.ps]
  · rw [c 2 (by omega), show wcell d 2 = d.t from rfl, h.pt]
  · rw [c 4 (by omega), show wcell d 4 = .int .i64 d.words from rfl, h.b.words]
  · rw [c 45 (by omega), show wcell d 45 = d.up from rfl, h.b.up]
theorem toList_inj {a b : ByteArray} (h : a.toList = b.toList) : a = b := by
  rw [ByteArray.toList_eq, ByteArray.toList_eq] at h
  exact ByteArray.ext (Array.toList_inj.1 h)
def actT (v : Option (Nat × ByteArray)) (gen : Nat) : Value := match v with | none => .tuple #[.int .u32 0, .string emp, .int .u32 0, .int .i64 4] | some (i, D) => .tuple #[.int .u32 i, .string D, .int .u32 gen, .int .i64 0]
theorem actR_view (v : Nat → Nat) (base size : Nat) : actR v base size = actT (viewB v base size) (genV v base size) := by
  unfold actR viewB genV
  cases actB v base size <;> rfl
set_option maxHeartbeats 400000 in
theorem patch_any {w : World} {W : Nat} {d : WD} {x : WX} {u : Nat → Bool} {s : MS} (h : WO w W d x u s) (id : Nat) (text : ByteArray) :
    Calls Tryd.prog 10 #[.pointer (some ⟨W, 0, none⟩), .int .u32 id, .string text] w fun e w' => PatQ (pat (viewB s.v 0 64) id text) W d x u s w e w' := by
  obtain ⟨nx, s1⟩ := h.s1
  have AC := Lib.hid (actv_any s1)
  unfold ActvQ at AC
  rw [actR_view] at AC
  have c1 := h.cs.2.1
  have hW := h.b.obj.lt
  have FIN : Hid (∀ (b : Bool) (w' : World), pat (viewB s.v 0 64) id text = b → RdQ x.bm x.bw 122 112 s w w' → PatQ (pat (viewB s.v 0 64) id text) W d x u s w (.returned (.bool b)) w') := Lib.hid (fun b w' e ⟨⟨s', l, m⟩, k⟩ => ⟨by rw [e], ⟨s', l, h.rd m k⟩, k⟩)
  generalize genV s.v 0 64 = gen at *
  generalize viewB s.v 0 64 = v at *
  clear h s1
  cases v with
  | none =>
    unfold actT at AC
    dsimp only at AC
    by_cases hid : id = 0
    · have d1 : ((id : Int) == 0) = true := by simp; omega
      have F := Lib.hid (fun w' => FIN.out true w' (by simp [pat, hid]))
      clear FIN hid
      go_enter Tryd.func10, Tryd.ntmps10
      go_wp2_with (fail)
      refine AC.out.mono ?_
      rintro e w1 ⟨rfl, r1⟩
      have R1 := Lib.hid r1
      clear r1 AC
      go_wp2_with (fail)
      go_ret
      exact F.out _ R1.out
    · have d1 : ((id : Int) == 0) = false := by simp; omega
      have F := Lib.hid (fun w' => FIN.out false w' (by simp [pat, hid]))
      clear FIN hid
      go_enter Tryd.func10, Tryd.ntmps10
      go_wp2_with (fail)
      refine AC.out.mono ?_
      rintro e w1 ⟨rfl, r1⟩
      have R1 := Lib.hid r1
      clear r1 AC
      go_wp2_with (fail)
      go_ret
      exact F.out _ R1.out
  | some p =>
    obtain ⟨i, D⟩ := p
    unfold actT at AC
    dsimp only at AC
    by_cases hid : id = 0
    · have d1 : ((id : Int) == 0) = true := by simp; omega
      have F := Lib.hid (fun w' => FIN.out false w' (by simp [pat, hid]))
      clear FIN hid
      go_enter Tryd.func10, Tryd.ntmps10
      go_wp2_with (fail)
      refine AC.out.mono ?_
      rintro e w1 ⟨rfl, r1⟩
      have R1 := Lib.hid r1
      clear r1 AC
      go_wp2_with (fail)
      go_ret
      exact F.out _ R1.out
    · have d1 : ((id : Int) == 0) = false := by simp; omega
      by_cases hi : i = id
      · subst hi
        have d2 : ((i : Int) == (i : Int)) = true := by simp
        by_cases hD : D = text
        · subst hD
          have d3 : (D.toList == D.toList) = true := by simp
          have F := Lib.hid (fun w' => FIN.out true w' (by simp [pat, hid]))
          clear FIN hid
          go_enter Tryd.func10, Tryd.ntmps10
          go_wp2_with (fail)
          refine AC.out.mono ?_
          rintro e w1 ⟨rfl, r1⟩
          have R1 := Lib.hid r1
          clear r1 AC
          go_wp2_with (fail)
          go_ret
          exact F.out _ R1.out
        · have F := Lib.hid (fun w' => FIN.out false w' (by simp [pat, hid, hD]))
          have d3 : (D.toList == text.toList) = false := by
            rw [beq_eq_false_iff_ne]
            intro e
            exact hD (toList_inj e)
          clear FIN hid hD
          go_enter Tryd.func10, Tryd.ntmps10
          go_wp2_with (fail)
          refine AC.out.mono ?_
          rintro e w1 ⟨rfl, r1⟩
          have R1 := Lib.hid r1
          clear r1 AC
          go_wp2_with (fail)
          go_ret
          exact F.out _ R1.out
      · have d2 : ((i : Int) == (id : Int)) = false := by simp; omega
        have F := Lib.hid (fun w' => FIN.out false w' (by simp [pat, hid, hi]))
        clear FIN hid hi
        go_enter Tryd.func10, Tryd.ntmps10
        go_wp2_with (fail)
        refine AC.out.mono ?_
        rintro e w1 ⟨rfl, r1⟩
        have R1 := Lib.hid r1
        clear r1 AC
        go_wp2_with (fail)
        go_ret
        exact F.out _ R1.out
end Go.Proofs.YtdebfniifijjoaaDoor
/-
  The walk of table. Conditions: a world as it lies.
-/
namespace Go.Proofs.YtdebfniifijjoaaDoor
open Go.RowKit Kit Go.Shelf
set_option linter.unusedVariables false
def tabE (f g : Nat → Int) : Bool := (List.range 8).all fun i => decide (f i = g i)
theorem tabE_true {f g : Nat → Int} : tabE f g = true ↔ ∀ i, i < 8 → f i = g i := by simp [tabE]
theorem WO.all {w : World} {W : Nat} {d : WD} {x : WX} {u : Nat → Bool} {s : MS} {vals : Nat → Int} (h : WO w W d x u s) (hV : TVw (viewB s.v 42 80) vals) (hR : VR vals) :
    Calls Tryd.prog 23 #[.pointer (some ⟨x.bt, 0, none⟩)] w fun e w' => (∃ v, e = .returned v ∧ PO w' w.heap.size vals v) ∧ RdW w W d x u s w' := by
  obtain ⟨nx, ts⟩ := h.ts
  have := ts.ap
  exact (all_any ts.tt ts.sm (tval_of hV) hR ⟨by omega, by omega, by omega, by omega, by omega, by omega⟩).mono fun e w' ⟨hv, ⟨s', l, m⟩, k⟩ => ⟨hv, ⟨s', l, h.rd m k⟩, k⟩
theorem vRow_get (f : Nat → Int) (k : Nat) (hk : k < 8) : (vRow f).toArray[k]? = some (.int .i64 (f k)) := by simp [vRow, hk]
set_option maxRecDepth 100000 in
set_option maxHeartbeats 1600000 in
theorem table_w {w : World} {W : Nat} {d : WD} {x : WX} {u : Nat → Bool} {s : MS} {vals : Nat → Int} (h : WO w W d x u s) (hV : TVw (viewB s.v 42 80) vals) (hR : VR vals) (v' : Nat → Int) :
    Calls Tryd.prog 11 #[.pointer (some ⟨W, 0, none⟩), .agg (vRow v').toArray] w fun e w' => PatQ (tabE vals v') W d x u s w e w' := by
  have H := Lib.hid h
  have c2 := h.cs.2.2.1
  have hW := h.b.obj.lt
  have N1 := Lib.hid (hp_new w (.cells (vRow v').toArray 36))
  have BL1 := Lib.hid (bl_alloc (Below.refl w.heap.size w) (.cells (vRow v').toArray 36))
  have AL := Lib.hid ((h.below BL1.out).all hV hR)
  have FIN : Hid (∀ (b : Bool) (w' : World), tabE vals v' = b → RdW w W d x u s w' → PatQ (tabE vals v') W d x u s w (.returned (.bool b)) w') := Lib.hid (fun b w' e r => ⟨by rw [e], r⟩)
  clear h hV hR
  go_enter Tryd.func11, Tryd.ntmps11
  go_upto_region 1 with (fail)
  generalize w.alloc (.cells (vRow v').toArray 36) = w1 at *
  have d2 : w1.cell? ⟨W, 2, none⟩ = some (.pointer (some ⟨x.bt, 0, none⟩)) := by rw [(bcell BL1.out).1 W 2 hW]; exact c2
  have hW1 : W < w1.heap.size := Nat.lt_of_lt_of_le hW BL1.out.size
  clear c2
  go_wp2_with (fail)
  refine AL.out.mono ?_
  rintro e w2 ⟨⟨v, rfl, po⟩, r2⟩
  obtain ⟨g, cap, rfl⟩ := ownsRow_succ (k := 7) po
  obtain ⟨hpl, hcap⟩ := pl_of po
  have P2 := Lib.hid hpl
  have R2 := Lib.hid r2
  have hbm := lt_of_obj (H.out.b.me.obj.choose_spec.choose_spec)
  have hbw := lt_of_obj H.out.b.me.words
  have N2 := Lib.hid (r2.2.keeps N1.out (by omega))
  have RW : Hid (∀ w', Below w2.heap.size w2 w' → RdW w W d x u s w') := Lib.hid (fun w' b => by
    obtain ⟨⟨s', l, o⟩, k⟩ := R2.out
    exact ⟨⟨s', l, o.below b⟩, ((MK.below BL1.out).trans k).trans (MK.below b)⟩)
  obtain ⟨hc1, hc2⟩ := hcap
  unfold maxLen at hc2
  clear po hpl r2 AL d2 hbm hbw
  go_wp2_with (fail)
  go_loopw [6] (fun i wr => ∃ k : Nat, k ≤ 8 ∧ i = .int .i64 k ∧ (∀ j, j < k → vals j = v' j) ∧ Below w2.heap.size w2 wr) (fun i _ => 8 - (intOf i).toNat)
  case atStart => exact ⟨0, by omega, rfl, fun j hj => absurd hj (by omega), Below.refl _ _⟩
  case round =>
    obtain ⟨k, hk, rfl, hE, hB⟩ := hrel
    have HE := Lib.hid hE; have HB := Lib.hid hB
    clear hE hB
    by_cases hlt : k < 8
    · have dk : decide ((k : Int) < 8) = true := by simp; omega
      have P := Lib.hid (P2.out.below HB.out)
      have y0 := P.out.id k hlt
      have y1 := P.out.val k hlt
      have y2 : wr.cell? ⟨w.heap.size, k, none⟩ = some (.int .i64 (v' k)) := cell_of (below_keeps HB.out N2.out (lt_of_obj N2.out)) (vRow_get v' k hlt)
      have hgl := P.out.lt
      have hBl := World.block_lt_of_cell? wr _ y2
      have e1 : ((k : Int) != (k : Int)) = false := by simp
      by_cases hv : vals k = v' k
      · have e2 : (vals k != v' k) = false := by simp [hv]
        have HN : Hid (∀ j, j < k + 1 → vals j = v' j) := Lib.hid (fun j hj => by
          rcases Nat.lt_or_ge j k with h | h
          · exact HE.out j h
          · rw [show j = k by omega]; exact hv)
        clear hv
        go_wp2_with (fail)
        refine region_calm (by kernel_rfl) (by kernel_rfl) ?_
        repeat (go_big_quiet_step ((fail)))
        refine wpQuiet_nil ?_; intro _ hw'; obtain ⟨xq, hw''⟩ := hw'; subst hw''
        go_wp2_with (fail)
        exact ⟨⟨k + 1, by omega, by go_num, HN.out, below_step HB.out (below_ext _ _) HB.out.size⟩, by simp [intOf]; omega⟩
      · have e2 : (vals k != v' k) = true := by simp [hv]
        have F := Lib.hid (fun w' => FIN.out false w' (by rw [Bool.eq_false_iff]; exact fun h => hv (tabE_true.1 h k hlt)))
        clear hv FIN
        go_wp2_with (fail)
        refine region_calm (by kernel_rfl) (by kernel_rfl) ?_
        repeat (go_big_quiet_step ((fail)))
        refine wpQuiet_nil ?_; intro _ hw'; obtain ⟨xq, hw''⟩ := hw'; subst hw''
        go_wp2_with (fail)
        go_ret
        exact F.out _ (RW.out _ (below_step HB.out (below_ext _ _) HB.out.size))
    · have e : k = 8 := by omega
      subst e
      have dk : decide (((8 : Nat) : Int) < 8) = false := by decide
      have F := Lib.hid (fun w' => FIN.out true w' (tabE_true.2 HE.out))
      clear FIN
      go_wp2_with (fail)
      go_ret
      exact F.out _ (RW.out _ HB.out)
end Go.Proofs.YtdebfniifijjoaaDoor
