/-
  The walk of a table's check, of one parameter that is in its rules. Conditions: the table lies as it should.
-/
import Derived.Test.YtdebfniifijjoaaDoorM16
import Derived.Test.YtdebfniifijjoaaDoorM15
import Derived.Deep.MidRow
import Derived.Test.YtdebfniifijjoaaDoorM05
namespace Go.Proofs.YtdebfniifijjoaaDoor
open Go.RowKit Kit Go.Maps Go.Sort Go.Shelf
attribute [local go_sem] Oper.semAt_some
set_option linter.unusedVariables false
theorem zero2 (w : World) : (zeroValue 2).run Tryd.prog w = .ok (.int .i64 0) w := by kernel_rfl
theorem zero3' (w : World) : (zeroValue 3).run Tryd.prog w = .ok (.int .i64 0) w := by kernel_rfl
theorem idx_has (k : Nat) (hk : k < 8) : Maps.has (idxD 8) (.int .i64 k) = true := by
  rcases (by omega : k = 0 ∨ k = 1 ∨ k = 2 ∨ k = 3 ∨ k = 4 ∨ k = 5 ∨ k = 6 ∨ k = 7) with rfl | rfl | rfl | rfl | rfl | rfl | rfl | rfl <;> decide +kernel
theorem idx_at (k : Nat) (hk : k < 8) (zd : DataW Unit) : (idxD 8).atKey (.int .i64 k) zd = .lit (.int .i64 k) := by
  rcases (by omega : k = 0 ∨ k = 1 ∨ k = 2 ∨ k = 3 ∨ k = 4 ∨ k = 5 ∨ k = 6 ∨ k = 7) with rfl | rfl | rfl | rfl | rfl | rfl | rfl | rfl <;> rfl
/-- The index of a rule. -/
theorem look_idx {w : World} {bi : Nat} (h : w.ownsMap Tryd.prog 3 (plainElem Tryd.prog 3) bi 8 (idxD 8)) (k : Nat) (hk : k < 8) : (Instr.lookup 94 (.map (some bi)) (.int .i64 k) true).run Tryd.prog w = .ok (.tuple #[.int .i64 k, .bool true]) w := by
  obtain ⟨v, ps, hrun, hv⟩ := h.look_ok law3 Tryd.underlying94 (zero3' w) (plainElem_int Tryd.underlying3 (wf64' 0 (by omega))) (key3 k (wf64' k (by omega)))
  obtain ⟨c, rfl, hc, _⟩ := plainElem_int_inv Tryd.underlying3 hv
  rw [idx_has k hk] at hrun
  have := (idx_at k hk (.lit (.int .i64 0))).symm.trans (congrArg Prod.fst hc)
  simp at this
  rw [hrun, ← this]
/-- A value that is to be set, or none. -/
theorem look_val {w : World} {b : Nat} {k x : Int} (h : w.ownsMap Tryd.prog 3 (plainElem Tryd.prog 2) b 1 (vD k x)) (j : Int) (hj : -9223372036854775808 ≤ j ∧ j ≤ 9223372036854775807) :
    ∃ y, (Instr.lookup 110 (.map (some b)) (.int .i64 j) true).run Tryd.prog w = .ok (.tuple #[.int .i64 y, .bool (decide (k = j))]) w ∧ (k = j → y = x) := by
  obtain ⟨v, ps, hrun, hv⟩ := h.look_ok law3 Tryd.underlying110 (zero2 w) (plainElem_int Tryd.underlying2 (wf64' 0 (by omega))) (key3 j (wf64' j hj))
  obtain ⟨c, rfl, hc, _⟩ := plainElem_int_inv Tryd.underlying2 hv
  rw [vD_has, show (Lit.int .i64 k).sameKey (Lit.int .i64 j) = decide (k = j) by simp [Lit.sameKey]] at hrun
  refine ⟨c, hrun, fun e => ?_⟩
  subst e
  have := (vD_at k x (.lit (.int .i64 0))).symm.trans (congrArg Prod.fst hc)
  simp at this
  exact this.symm
theorem look_none {w : World} {b : Nat} (h : w.ownsMap Tryd.prog 3 (plainElem (H := Unit) Tryd.prog 2) b 0 (.map [])) (j : Int) (hj : -9223372036854775808 ≤ j ∧ j ≤ 9223372036854775807) :
    (Instr.lookup 110 (.map (some b)) (.int .i64 j) true).run Tryd.prog w = .ok (.tuple #[.int .i64 0, .bool false]) w := by
  obtain ⟨v, ps, hrun, hv⟩ := h.look_ok law3 Tryd.underlying110 (zero2 w) (plainElem_int Tryd.underlying2 (wf64' 0 (by omega))) (key3 j (wf64' j hj))
  obtain ⟨c, rfl, hc, _⟩ := plainElem_int_inv Tryd.underlying2 hv
  have := congrArg Prod.fst hc
  simp [DataW.atKey] at this
  rw [hrun, ← this]
  rfl
theorem chk_fin {W : World} {v : Value} {E : Int} {B C D2 L : Nat} {R : Ending → World → Prop} (tmps : Array Value) (h4 : tmps.getD 4 undef = .pointer (some ⟨B, 0, none⟩)) (h5 : tmps.getD 5 undef = .pointer (some ⟨C, 0, none⟩))
    (hBL : B < L) (hCL : C < L) (hLD : L ≤ D2) (hK : W.heap[D2]? = some (.deferred (some []))) (c0 : Boxed W B 110 v) (c1 : Boxed W C 41 (.int .i64 E)) (hp : ∀ W', Below L W W' → R (.returned (.tuple #[v, .int .i64 E])) W') :
    bodyPostM Fence.wide 5 Tryd.prog Tryd.f50 R .ret { tmps := tmps, defers := [{ target := .collected D2, args := #[] }] } W := by
  refine ⟨by simp, .inl ⟨_, _, rfl, run_takeDeferred hK, ?_⟩⟩
  have hb : Below L W (W.putObj D2 (.deferred none)) := (Below.refl L W).grown (grownBy_putObj' W D2 _) (by have := (Array.getElem?_eq_some_iff.1 hK).1; omega) (fun k e => by cases e; omega)
  refine ⟨_, ?_, hp _ hb⟩
  have e0 : Boxed (W.putObj D2 (.deferred none)) B 110 v := (hb.block B hBL).trans c0
  have e1 : Boxed (W.putObj D2 (.deferred none)) C 41 (.int .i64 E) := (hb.block C hCL).trans c1
  have f0 := e0.cell
  have f1 := e1.cell
  show (results Tryd.f50 tmps).run Tryd.prog _ = _
  rw [results_cell2 rfl, h4, h5]
  go_simp
/-- In the loop. -/
structure CKL (w : World) (bt B : Nat) (k x : Int) (j : Nat) (wr : World) : Prop where
  b0 : Boxed wr B 34 (.pointer (some ⟨bt, 0, none⟩))
  b1 : Boxed wr (B + 1) 110 (.map none)
  b2 : Boxed wr (B + 1 + 1) 41 (.int .i64 0)
  map : wr.ownsMap Tryd.prog 3 (plainElem Tryd.prog 2) (B + 1 + 1 + 1) j (if j = 0 then .map [] else vD k x)
  below : Below w.heap.size w wr
theorem ckl_start (w : World) (bt : Nat) (k x : Int) : CKL w bt w.heap.size k x 0 ((((w.alloc (.cells #[.pointer (some ⟨bt, 0, none⟩)] 34)).alloc (.cells #[.map none] 110)).alloc (.cells #[.int .i64 0] 41)).alloc (.map #[] 0)) := by
  have s1 : (w.alloc (.cells #[.pointer (some ⟨bt, 0, none⟩)] 34)).heap.size = w.heap.size + 1 := by simp
  have s2 : ((w.alloc (.cells #[.pointer (some ⟨bt, 0, none⟩)] 34)).alloc (.cells #[.map none] 110)).heap.size = w.heap.size + 1 + 1 := by simp
  have s3 : (((w.alloc (.cells #[.pointer (some ⟨bt, 0, none⟩)] 34)).alloc (.cells #[.map none] 110)).alloc (.cells #[.int .i64 0] 41)).heap.size = w.heap.size + 1 + 1 + 1 := by simp
  refine ⟨(((Boxed.new w 34 _).alloc _).alloc _).alloc _, ?_, ?_, ?_, bl_alloc (bl_alloc (bl_alloc (bl_alloc (Below.refl _ _) _) _) _) _⟩
  · have := (Boxed.new (w.alloc (.cells #[.pointer (some ⟨bt, 0, none⟩)] 34)) 110 (.map none)); rw [s1] at this; exact (this.alloc _).alloc _
  · have := (Boxed.new ((w.alloc (.cells #[.pointer (some ⟨bt, 0, none⟩)] 34)).alloc (.cells #[.map none] 110)) 41 (.int .i64 0)); rw [s2] at this; exact this.alloc _
  · have := World.ownsMap_made (((w.alloc (.cells #[.pointer (some ⟨bt, 0, none⟩)] 34)).alloc (.cells #[.map none] 110)).alloc (.cells #[.int .i64 0] 41)) Tryd.prog 3 (plainElem (H := Unit) Tryd.prog 2); rw [s3] at this; exact this
def CheckQ (k x : Int) (w : World) (e : Ending) (w' : World) : Prop := ∃ bv, e = .returned (.tuple #[.map (some bv), .int .i64 0]) ∧ w'.ownsMap Tryd.prog 3 (plainElem Tryd.prog 2) bv 1 (vD k x) ∧ w.heap.size ≤ bv ∧ Below w.heap.size w w'
set_option maxRecDepth 100000 in
set_option maxHeartbeats 3200000 in
theorem check_any' {w : World} {bt bs br bi c bl cl : Nat} (hT : TT w bt bs br bi c) (k : Nat) (hk : k < 8) (x : Int) (hx : -9223372036854775808 ≤ x ∧ x ≤ 9223372036854775807)
    (l0 : w.cell? ⟨bl, 0, none⟩ = some (.int .i64 k)) (l1 : w.cell? ⟨bl, 1, none⟩ = some (.int .i64 x)) (hcl : 1 ≤ cl ∧ cl ≤ maxLen) :
    Calls Tryd.prog 50 #[.pointer (some ⟨bt, 0, none⟩), .slice (some ⟨bl, 0, none⟩) 1 cl] w fun e w' => CheckQ k x w e w' := by
  have hmm := @run_makeMap Tryd.prog
  have HT := Lib.hid hT
  have hbl : bl < w.heap.size := World.block_lt_of_cell? w _ l0
  have hcl2 := hcl.2
  unfold maxLen at hcl2
  have wfk := wf64' (k : Int) (by omega)
  have wfx := wf64' x hx
  clear hT
  refine (callsIn_wide (n := 5)).1 ?_
  refine callsIn_of_wp_marks Tryd.func50 rfl trivial ?_ rfl
  simp only [Tryd.ntmps50, List.size_toArray, List.length_cons, List.length_nil, Nat.reduceAdd, Nat.reduceSub, Array.replicate_succ, Array.replicate_zero, List.push_toArray, List.append_toArray, List.nil_append, List.cons_append]
  refine wpIn_wide.2 ?_
  go_wp2_with (fail)
  have H0 := Lib.hid (ckl_start w bt k x)
  obtain ⟨B, hB⟩ : ∃ B, B = w.heap.size := ⟨_, rfl⟩
  rw [← hB] at H0 ⊢
  generalize ((((w.alloc (.cells #[.pointer (some ⟨bt, 0, none⟩)] 34)).alloc (.cells #[.map none] 110)).alloc (.cells #[.int .i64 0] 41)).alloc (.map #[] 0)) = w4 at H0 ⊢
  have hwB : w.heap.size ≤ B := by omega
  have HB := Lib.hid hB
  clear hB
  go_loopw [19] (fun i wr => ∃ j : Nat, j ≤ 1 ∧ i = .int .i64 j ∧ CKL w bt B k x j wr) (fun i _ => 1 - (intOf i).toNat)
  case atStart => exact ⟨0, by omega, rfl, H0.out⟩
  case round =>
    clear H0
    obtain ⟨j, hj, rfl, hL⟩ := hrel
    have HL := Lib.hid hL
    clear hL
    by_cases hlt : j < 1
    · have e : j = 0 := by omega
      subst e
      have y0 : wr.cell? ⟨bl, 0, none⟩ = some (.int .i64 k) := (HL.out.below.cell (p := ⟨bl, 0, none⟩) hbl).trans l0
      have y1 : wr.cell? ⟨bl, 1, none⟩ = some (.int .i64 x) := (HL.out.below.cell (p := ⟨bl, 1, none⟩) hbl).trans l1
      have hblw : bl < wr.heap.size := Nat.lt_of_lt_of_le hbl HL.out.below.size
      have MA : (wr.alloc (.cells #[.int .i64 k, .int .i64 x] 68)).ownsMap Tryd.prog 3 (plainElem (H := Unit) Tryd.prog 2) (B + 1 + 1 + 1) 0 (.map []) := HL.out.map.alloc _
      have hlook := look_none MA k (by omega)
      obtain ⟨w6, hrun, own6, gr6⟩ := MA.update law3 Tryd.underlying110 (by unfold maxLen; omega) (key3 _ wfk) (plainElem_int (H := Unit) Tryd.underlying2 wfx)
      have OWN6 := Lib.hid own6; have GR6 := Lib.hid gr6
      clear own6 gr6 MA
      go_wp2_with (fail)
      have m6 : Mod (fun j => j = B + 1 + 1 + 1) (wr.alloc (.cells #[.int .i64 k, .int .i64 x] 68)) w6 := ⟨GR6.out.os, GR6.out.tape, GR6.out.output, GR6.out.size, fun j hj hs => GR6.out.block j hj (fun e => hs (by cases e; rfl))⟩
      refine ⟨⟨1, by omega, by go_num, ⟨m6.keeps (HL.out.b0.alloc _) (by omega), m6.keeps (HL.out.b1.alloc _) (by omega), m6.keeps (HL.out.b2.alloc _) (by omega), OWN6.out, bl_mod (bl_alloc HL.out.below _) m6 (by omega)⟩⟩, by simp [intOf]⟩
    · have e : j = 1 := by omega
      subst e
      have dk : decide (((1 : Nat) : Int) < 1) = false := by decide
      clear l0 l1 hbl
      go_wp2_with (fail)
      refine (all70 _ _).mono ?_
      rintro e w5 ⟨rfl, h5⟩
      go_wp2_with (fail)
      refine (wpIn_wide (n := 5)).1 ?_
      obtain ⟨D, hD⟩ : ∃ D, D = wr.heap.size := ⟨_, rfl⟩
      obtain ⟨W6, hW6⟩ : ∃ W6, W6 = (wr.alloc (.cells #[.int .i64 0] 41)).alloc (.cells #[.map (some (B + 1 + 1 + 1))] 110) := ⟨_, rfl⟩
      have bE : Boxed W6 D 41 (.int .i64 0) := by rw [hW6, hD]; exact (Boxed.new wr 41 _).alloc _
      have bM : Boxed W6 (D + 1) 110 (.map (some (B + 1 + 1 + 1))) := by
        rw [hW6, hD]; have := Boxed.new (wr.alloc (.cells #[.int .i64 0] 41)) 110 (.map (some (B + 1 + 1 + 1))); rw [World.size_alloc] at this; exact this
      have b6 : Below w.heap.size w W6 := by rw [hW6]; exact bl_alloc (bl_alloc HL.out.below _) _
      have x0 : Boxed W6 B 34 (.pointer (some ⟨bt, 0, none⟩)) := by rw [hW6]; exact (HL.out.b0.alloc _).alloc _
      have x1 : Boxed W6 (B + 1) 110 (.map none) := by rw [hW6]; exact (HL.out.b1.alloc _).alloc _
      have x2 : Boxed W6 (B + 1 + 1) 41 (.int .i64 0) := by rw [hW6]; exact (HL.out.b2.alloc _).alloc _
      have xm : W6.ownsMap Tryd.prog 3 (plainElem Tryd.prog 2) (B + 1 + 1 + 1) 1 (vD k x) := by rw [hW6]; exact (HL.out.map.alloc _).alloc _
      have hs6 : D + 1 < W6.heap.size := bM.lt
      have hm6 := xm.lt
      have hDB : B + 1 + 1 < D := by rw [hD]; exact HL.out.b2.lt
      have BE := Lib.hid bE; have BM := Lib.hid bM; have B6 := Lib.hid b6; have X0 := Lib.hid x0; have X1 := Lib.hid x1; have X2 := Lib.hid x2; have XM := Lib.hid xm
      rw [← hW6, ← hD]
      clear h5 hW6 hD b6 x0 x1 x2 bE
      generalize hact : ({ tmps := _, defers := [] } : Act) = act
      refine wpIn_rangeFunc_ownG rfl (show 1 ≤ 5 by omega) (gf := 84) (lb := #[.pointer (some ⟨D + 1, 0, none⟩)]) (by rw [← hact]; rfl) trivial (enters_of Tryd.func84 (by kernel_rfl) rfl)
        (all1_stops 4 (show 1 ≤ 4 by omega) (D + 1) (B + 1 + 1 + 1) k x W6 hs6 bM.cell xm) walksK_t walksK_b (Below.refl _ _) (fun _ => rfl)
        (fun (pre : List Unit) W => Below W6.heap.size W6 W)
        (fun _ _ _ => False)
        (ownFrom_below (Nat.le_refl _) (Nat.le_refl _))
        (fun _ _ _ _ _ hs _ _ => hs)
        (Below.refl _ _)
        (fun _ => { tmps := (((act.tmps.setIfInBounds 39 (.int .i64 k)).setIfInBounds 40 (.int .i64 x)).setIfInBounds 12 (.int .i64 k)).setIfInBounds 13 (.int .i64 x), defers := [] }) ?assign ?body ?done ?stop
      case assign =>
        intro l u W K hK
        subst hact
        simp only [List.setIfInBounds_toArray, List.set_cons_succ, List.set_cons_zero] at hK
        gi_wp2
        exact hK
      case body =>
        rintro l pre u W hBW hlt
        subst hact
        simp only [List.setIfInBounds_toArray, List.set_cons_succ, List.set_cons_zero]
        have TW := Lib.hid (HT.out.below (B6.out.trans (hBW.mono B6.out.size)))
        have LK := look_idx TW.out.map k hk
        have c34 := (Boxed.cell (show Boxed W B 34 _ from below_keeps hBW X0.out X0.out.lt))
        have t1 : W.cell? ⟨bt, 1, none⟩ = some (.slice (some ⟨br, 0, none⟩) 8 c) := cell_of TW.out.obj rfl
        have t2 : W.cell? ⟨bt, 2, none⟩ = some (.map (some bi)) := cell_of TW.out.obj rfl
        have r1 := TW.out.rules.least k hk
        have r2 := TW.out.rules.most k hk
        have hbt := lt_of_obj TW.out.obj
        have hbr := TW.out.rules.lt
        have hcc := TW.out.cap.2
        unfold maxLen at hcc
        have d1 : decide (x < (-9223372036854775808 : Int)) = false := by simp; omega
        have d2 : decide ((9223372036854775807 : Int) < x) = false := by simp; omega
        have dk1 : decide ((k : Int) < 8) = true := by simp; omega
        have HBW := Lib.hid hBW
        clear hBW
        gi_wp2
        exact ⟨KeepsFrom.refl _ _, KeepsWalks.refl _, HBW.out⟩
      case done =>
        rintro D2 ys W hD2 rfl hBW hK
        subst hact
        have y0 : Boxed W D 41 (.int .i64 0) := below_keeps hBW BE.out BE.out.lt
        have y1 : Boxed W (B + 1) 110 (.map none) := below_keeps hBW X1.out X1.out.lt
        have y2 : Boxed W (B + 1 + 1) 41 (.int .i64 0) := below_keeps hBW X2.out X2.out.lt
        have c0 := y0.cell; have c1 := y1.cell; have c2 := y2.cell
        have f1 := y1.frozen; have f2 := y2.frozen
        have hl0 := y0.lt; have hl1 := y1.lt; have hl2 := y2.lt
        have Y1 := Lib.hid y1; have Y2 := Lib.hid y2; have HBW := Lib.hid hBW; have HK := Lib.hid hK; have HD2 := Lib.hid hD2
        clear y0 y1 y2 hBW hK hD2 xm
        have n1 : D ≠ B + 1 := by omega
        have n2 : ¬ (B + 1 = D) := by omega
        have n3 : D ≠ B + 1 + 1 := by omega
        have n4 : ¬ (B + 1 + 1 = D) := by omega
        go_wp2_with (fail)
        go_region
        go_wp2_with (fail)
        have hd2 := HD2.out
        refine chk_fin (v := .map (some (B + 1 + 1 + 1))) (E := 0) (L := W6.heap.size) _ rfl rfl (by omega) (by omega) hd2 ?_ ?_ ?_ ?_
        · exact (Below.heap_setCell _ _ _ _ (by show D2 ≠ B + 1 + 1; omega)).trans ((Below.heap_setCell _ _ _ _ (by show D2 ≠ B + 1; omega)).trans HK.out)
        · exact (Y1.out.set _).other (by omega) _
        · exact (Y2.out.other (by omega) _).set _
        · intro W' hW'
          have bb : Below w.heap.size w W' := (((B6.out.trans (HBW.out.mono B6.out.size)).setCell (p := ⟨B + 1, 0, none⟩) (by show w.heap.size ≤ B + 1; omega) _).setCell (p := ⟨B + 1 + 1, 0, none⟩) (by show w.heap.size ≤ B + 1 + 1; omega) _).drew.trans (hW'.mono B6.out.size)
          refine ⟨B + 1 + 1 + 1, rfl, ?_, by omega, bb⟩
          obtain ⟨es, cl', hb, rest⟩ := XM.out
          refine ⟨es, cl', ?_, rest⟩
          rw [hW'.block _ hm6]
          exact (Below.heap_setCell _ _ _ _ (by show B + 1 + 1 + 1 ≠ B + 1 + 1; omega)).trans ((Below.heap_setCell _ _ _ _ (by show B + 1 + 1 + 1 ≠ B + 1; omega)).trans (below_keeps HBW.out hb hm6))
      case stop =>
        rintro D c pre W _ _ h _
        exact h.elim
end Go.Proofs.YtdebfniifijjoaaDoor
/-
  The walk of a table's Set of one parameter. Conditions: a table on a store that lies in a memory; the generation is not the last one.
-/
namespace Go.Proofs.YtdebfniifijjoaaDoor
open Go.RowKit Kit Go.Shelf
set_option linter.unusedVariables false
/-- The values with one of them new; and when the loop has done k of them. -/
def upd (vals : Nat → Int) (K : Nat) (x : Int) : Nat → Int := fun i => if i = K then x else vals i
def updK (vals : Nat → Int) (K : Nat) (x : Int) (k : Nat) : Nat → Int := fun i => if i = K ∧ i < k then x else vals i
theorem updK_zero (vals : Nat → Int) (K : Nat) (x : Int) : updK vals K x 0 = vals := by funext i; simp [updK]
theorem updK_full (vals : Nat → Int) (K : Nat) (x : Int) (hK : K < 8) : updK vals K x 8 = upd vals K x := by
  funext i; simp only [updK, upd]
  by_cases h : i = K
  · subst h; simp [hK]
  · simp [h]
theorem updK_other (vals : Nat → Int) (K : Nat) (x : Int) (k : Nat) (h : k ≠ K) : updK vals K x (k + 1) = updK vals K x k := by
  funext i; simp only [updK]
  by_cases e : i = K
  · subst e
    by_cases hi : i < k
    · rw [if_pos ⟨rfl, by omega⟩, if_pos ⟨rfl, hi⟩]
    · rw [if_neg (by omega), if_neg (by omega)]
  · rw [if_neg (by simp [e]), if_neg (by simp [e])]
theorem updK_here (vals : Nat → Int) (K : Nat) (x : Int) : updK vals K x (K + 1) = fun i => if i = K then x else updK vals K x K i := by
  funext i; simp only [updK]
  by_cases e : i = K
  · subst e; simp
  · simp [e]
theorem pL_set (f : Nat → Int) (k : Nat) (hk : k < 8) (y : Int) : (pL f (chL 8)).set (k * 2 + 1) (.int .i64 y) = pL (fun i => if i = k then y else f i) (chL 8) := by
  rcases (by omega : k = 0 ∨ k = 1 ∨ k = 2 ∨ k = 3 ∨ k = 4 ∨ k = 5 ∨ k = 6 ∨ k = 7) with rfl | rfl | rfl | rfl | rfl | rfl | rfl | rfl <;> rfl
theorem VR.upd {vals : Nat → Int} (h : VR vals) (K : Nat) {x : Int} (hx : -9223372036854775808 ≤ x ∧ x ≤ 9223372036854775807) : VR (upd vals K x) := fun i hi => by
  unfold Go.Proofs.YtdebfniifijjoaaDoor.upd
  split
  · exact hx
  · exact h i hi
/-- A table with its store, in a memory. -/
structure TS (w : World) (bt br bi c bs bm bw base n safe : Nat) (nx : Value) (s : MS) : Prop where
  tt : TT w bt bs br bi c
  sm : SM w bs bm bw base 80 n safe nx s
  ap : (bt ≠ bm ∧ bt ≠ bw ∧ bt ≠ bs) ∧ (br ≠ bm ∧ br ≠ bw ∧ br ≠ bs) ∧ (bi ≠ bm ∧ bi ≠ bw ∧ bi ≠ bs)
theorem TS.mk' {w w' : World} {bt br bi c bs bm bw base n safe : Nat} {nx nx' : Value} {s s' : MS} (h : TS w bt br bi c bs bm bw base n safe nx s) (k : MB bm bw bs w w') (sm : SM w' bs bm bw base 80 n safe nx' s') : TS w' bt br bi c bs bm bw base n safe nx' s' := by
  have := h.ap
  exact ⟨h.tt.mod k (by omega) (by omega) (by omega), sm, h.ap⟩
theorem TS.below {w w' : World} {bt br bi c bs bm bw base n safe : Nat} {nx : Value} {s : MS} (h : TS w bt br bi c bs bm bw base n safe nx s) (b : Below w.heap.size w w') : TS w' bt br bi c bs bm bw base n safe nx s := h.mk' (MK.below b).mb (h.sm.below b)
theorem TS.rd {w w' : World} {bt br bi c bs bm bw base n safe : Nat} {nx : Value} {s s' : MS} (h : TS w bt br bi c bs bm bw base n safe nx s) (m : ME w' bm bw n safe s') (k : MK bm bw w w') : TS w' bt br bi c bs bm bw base n safe nx s' := h.mk' k.mb (h.sm.go m k)
theorem TS.now {w : World} {bt br bi c bs bm bw base n safe : Nat} {nx : Value} {s : MS} {vals : Nat → Int} (h : TS w bt br bi c bs bm bw base n safe nx s) (hV : TVw (viewB s.v base 80) vals) (hR : VR vals) :
    Calls Tryd.prog 44 #[.pointer (some ⟨bt, 0, none⟩)] w fun e w' => ∃ (v : Value) (ver : Nat), e = .returned (.tuple #[v, .int .u32 ver]) ∧ PO w' w.heap.size vals v ∧ (∃ s', s.Le s' ∧ TS w' bt br bi c bs bm bw base n safe nx s') ∧ MK bm bw w w' := by
  have := h.ap
  exact (now_any h.tt h.sm (tval_of hV) hR ⟨by omega, by omega, by omega, by omega, by omega, by omega⟩).mono fun e w' ⟨⟨v, ver, he, po⟩, ⟨s', l, m⟩, k⟩ => ⟨v, ver, he, po, ⟨s', l, h.rd m k⟩, k⟩
theorem TS.version {w : World} {bt br bi c bs bm bw base n safe : Nat} {nx : Value} {s : MS} {vals : Nat → Int} (h : TS w bt br bi c bs bm bw base n safe nx s) (hV : TVw (viewB s.v base 80) vals) (hR : VR vals) :
    Calls Tryd.prog 54 #[.pointer (some ⟨bt, 0, none⟩)] w fun e w' => ∃ ver : Nat, e = .returned (.int .u32 ver) ∧ (∃ s', s.Le s' ∧ TS w' bt br bi c bs bm bw base n safe nx s') ∧ MK bm bw w w' := by
  have := h.ap
  exact (version_any h.tt h.sm (tval_of hV) hR ⟨by omega, by omega, by omega, by omega, by omega, by omega⟩).mono fun e w' ⟨⟨ver, he⟩, ⟨s', l, m⟩, k⟩ => ⟨ver, he, ⟨s', l, h.rd m k⟩, k⟩
/-- In the loop. -/
structure STL (w2 : World) (B g cap bv K : Nat) (x : Int) (f : Nat → Int) (wr : World) : Prop where
  own : wr.ownsRow B 68 2 (.slice (some ⟨g, 0, none⟩) 8 cap) 8 (pL f (chL 8))
  map : wr.ownsMap Tryd.prog 3 (plainElem Tryd.prog 2) bv 1 (vD K x)
  md : Mod (fun k => k = g) w2 wr
theorem map_mod {w w' : World} {S : Nat → Prop} {b n : Nat} {d : DataW Unit} {el : TypeId} (h : w.ownsMap Tryd.prog 3 (plainElem Tryd.prog el) b n d) (hm : Mod S w w') (hs : ¬ S b) : w'.ownsMap Tryd.prog 3 (plainElem Tryd.prog el) b n d := by
  obtain ⟨es, cl, hb, rest⟩ := h
  exact ⟨es, cl, hm.keeps hb hs, rest⟩
theorem map_ne {w : World} {B g cap b n : Nat} {d : DataW Unit} {el : TypeId} {xs : List Value} (h : w.ownsMap Tryd.prog 3 (plainElem Tryd.prog el) b n d) (ho : w.ownsRow B 68 2 (.slice (some ⟨g, 0, none⟩) 8 cap) 8 xs) : g ≠ b := by
  rintro rfl
  obtain ⟨es, cl, hb, rest⟩ := h
  obtain ⟨cur, hc, _⟩ := own_block ho
  rw [hb] at hc
  cases hc
def SetQ (bt br bi c bs bm bw base n safe : Nat) (s : MS) (S : ByteArray) (w : World) (e : Ending) (w' : World) : Prop :=
  ∃ ver er : Nat, e = .returned (.tuple #[.int .u32 ver, .int .i64 er]) ∧ (s.fuse = -1 → er = 0) ∧ ∃ s' nx, TS w' bt br bi c bs bm bw base n safe nx s' ∧ s.Go (ldA s.v base 80 4294901768 S) s' ∧ MB bm bw bs w w'
theorem TS.modS {w w' : World} {S : Nat → Prop} {bt br bi c bs bm bw base n safe : Nat} {nx : Value} {s : MS} (h : TS w bt br bi c bs bm bw base n safe nx s) (hm : Mod S w w') (hz : ¬ S 0) (h1 : ¬ S bt ∧ ¬ S br ∧ ¬ S bi ∧ ¬ S bs ∧ ¬ S bm ∧ ¬ S bw) : TS w' bt br bi c bs bm bw base n safe nx s := by
  refine ⟨h.tt.mod hm h1.1 h1.2.1 h1.2.2.1, ⟨hm.keeps h.sm.st h1.2.2.2.1, h.sm.me.modS hm h1.2.2.2.2.1 h1.2.2.2.2.2, fun j hj => ?_, h.sm.ne, h.sm.h1, h.sm.h2, h.sm.hb, h.sm.hn⟩, h.ap⟩
  have h2 := h.sm.tab j hj
  rw [hm.cell (World.block_lt_of_cell? w _ h2) hz]
  exact h2
theorem TS.lts {w : World} {bt br bi c bs bm bw base n safe : Nat} {nx : Value} {s : MS} (h : TS w bt br bi c bs bm bw base n safe nx s) : bt < w.heap.size ∧ br < w.heap.size ∧ bi < w.heap.size ∧ bs < w.heap.size ∧ bm < w.heap.size ∧ bw < w.heap.size ∧ 0 < w.heap.size := by
  obtain ⟨es, cl, hb, rest⟩ := h.tt.map
  have := h.sm.lt
  have h3 := lt_of_obj h.tt.obj
  exact ⟨h3, h.tt.rules.lt, lt_of_obj hb, by omega, by omega, by omega, by omega⟩
set_option maxRecDepth 100000 in
set_option maxHeartbeats 3200000 in
theorem set_any {w : World} {bt br bi c bs bm bw base n safe bl cl K : Nat} {nx : Value} {s : MS} {vals : Nat → Int} {x : Int} (h : TS w bt br bi c bs bm bw base n safe nx s) (hV : TVw (viewB s.v base 80) vals) (hR : VR vals) (hG : genV s.v base 80 < 4294967295)
    (hK : K < 8) (hx : -9223372036854775808 ≤ x ∧ x ≤ 9223372036854775807) (l0 : w.cell? ⟨bl, 0, none⟩ = some (.int .i64 K)) (l1 : w.cell? ⟨bl, 1, none⟩ = some (.int .i64 x)) (hcl : 1 ≤ cl ∧ cl ≤ maxLen) :
    Calls Tryd.prog 30 #[.pointer (some ⟨bt, 0, none⟩), .slice (some ⟨bl, 0, none⟩) 1 cl] w fun e w' => SetQ bt br bi c bs bm bw base n safe s (encS (upd vals K x)) w e w' := by
  have NO := Lib.hid (tnone_any h.tt)
  have CK := Lib.hid (check_any' h.tt K hK x hx l0 l1 hcl)
  have H := Lib.hid h
  have HV := Lib.hid hV
  have HR := Lib.hid hR
  have HU := Lib.hid (hR.upd K hx)
  have HG := Lib.hid hG
  have hES := encS_size (upd vals K x)
  have CR := Lib.hid (fun w => crc_any (encS (upd vals K x)) (by rw [hES]; omega) w)
  have EN := Lib.hid (fun (w' : World) (g cp : Nat) (hp : PL w' g (upd vals K x)) (hc : 8 ≤ cp ∧ cp ≤ maxLen) => encode_any hp hc)
  clear h hV hR hG l0 l1
  go_enter Tryd.func30, Tryd.ntmps30
  go_wp2_with (fail)
  refine NO.out.mono ?_
  rintro e _ ⟨rfl, rfl⟩
  go_wp2_with (fail)
  refine CK.out.mono ?_
  rintro e w1 ⟨bv, rfl, mp, hbv, b1⟩
  have MP1 := Lib.hid mp; have B1 := Lib.hid b1
  have T1 := Lib.hid (H.out.below b1)
  have hlt := H.out.lts
  have hs1 : w.heap.size ≤ w1.heap.size := b1.size
  have NW := Lib.hid (T1.out.now HV.out HR.out)
  clear mp b1 CK NO
  go_wp2_with (fail)
  refine NW.out.mono ?_
  rintro e w2 ⟨v, ver, rfl, po, ⟨s2, l2, t2⟩, k2⟩
  obtain ⟨g, cap, rfl⟩ := ownsRow_succ (k := 7) po
  have hs2 : w1.heap.size ≤ w2.heap.size := k2.size
  have hg := own_lt po
  have MP2 := Lib.hid (map_mod MP1.out k2 (by omega))
  have L2 := Lib.hid l2; have T2 := Lib.hid t2
  have M2 : Hid (MB bm bw bs w w2) := Lib.hid ((MK.below B1.out).trans k2).mb
  have H0 : Hid (STL w2 w1.heap.size g cap bv K x (updK vals K x 0) w2) := Lib.hid ⟨by rw [updK_zero]; exact po, MP2.out, Mod.refl _ _⟩
  clear po l2 t2 k2 NW
  go_wp2_with (fail)
  go_loopw [34] (fun i wr => ∃ k : Nat, k ≤ 8 ∧ i = .int .i64 k ∧ STL w2 w1.heap.size g cap bv K x (updK vals K x k) wr) (fun i _ => 8 - (intOf i).toNat)
  case atStart => exact ⟨0, by omega, rfl, H0.out⟩
  case round =>
    clear H0
    obtain ⟨k, hk, rfl, hS⟩ := hrel
    have HS := Lib.hid hS
    clear hS
    by_cases hlt8 : k < 8
    · have dk : decide ((k : Int) < 8) = true := by simp; omega
      have P := Lib.hid (pl_of HS.out.own)
      have y0 := P.out.1.id k hlt8
      have y1 := P.out.1.val k hlt8
      have hgl := P.out.1.lt
      have hc2 := P.out.2.2
      unfold maxLen at hc2
      by_cases hkK : K = k
      · subst hkK
        have LK : ∃ y, (Instr.lookup 110 (.map (some bv)) (.int .i64 K) true).run Tryd.prog wr = .ok (.tuple #[.int .i64 y, .bool true]) wr ∧ y = x := by
          obtain ⟨y, h1, h2⟩ := look_val HS.out.map (K : Int) (by omega)
          exact ⟨y, by rw [h1]; simp, h2 rfl⟩
        obtain ⟨y, LK1, rfl⟩ := LK
        have yz := own_free HS.out.own
        have NX : Hid (STL w2 w1.heap.size g cap bv K y (updK vals K y (K + 1)) (wr.setCell ⟨g, K * 2 + 1, none⟩ (.int .i64 y))) := Lib.hid ⟨by
          have := own_set HS.out.own (j := K * 2 + 1) (by omega) (.int .i64 y)
          rw [pL_set _ K hlt8] at this
          rw [updK_here]; exact this, map_mod HS.out.map (mod_at (b := g) (i := K * 2 + 1) (Mod.refl _ _) (.int .i64 y)) (Ne.symm (map_ne HS.out.map HS.out.own)), mod_at HS.out.md _⟩
        go_wp2_with (fail)
        exact ⟨⟨K + 1, by omega, by go_num, NX.out⟩, by simp [intOf]; omega⟩
      · have LK : ∃ y, (Instr.lookup 110 (.map (some bv)) (.int .i64 k) true).run Tryd.prog wr = .ok (.tuple #[.int .i64 y, .bool false]) wr := by
          obtain ⟨y, h1, h2⟩ := look_val HS.out.map (k : Int) (by omega)
          exact ⟨y, by rw [h1]; simp; omega⟩
        obtain ⟨y, LK1⟩ := LK
        have NX := Lib.hid HS.out
        rw [← updK_other vals K x k (Ne.symm hkK)] at NX
        clear HS
        go_wp2_with (fail)
        exact ⟨⟨k + 1, by omega, by go_num, NX.out⟩, by simp [intOf]; omega⟩
    · have e : k = 8 := by omega
      subst e
      have dk : decide (((8 : Nat) : Int) < 8) = false := by decide
      have own8 := HS.out.own
      rw [updK_full vals K x hK] at own8
      have P8 := pl_of own8
      have M3 : Hid (MB bm bw bs w wr) := Lib.hid (Mod.trans M2.out HS.out.md (fun k hk e => by omega))
      have T3 := Lib.hid (T2.out.modS HS.out.md (by omega) (by refine ⟨?_, ?_, ?_, ?_, ?_, ?_⟩ <;> omega))
      have E3 := Lib.hid (EN.out wr g cap P8.1 P8.2)
      have L3 : Hid (viewB s2.v base 80 = viewB s.v base 80 ∧ genV s2.v base 80 = genV s.v base 80 ∧ s2.v = s.v) := Lib.hid (by rw [L2.out.v]; exact ⟨rfl, rfl, rfl⟩)
      clear own8 P8 HS EN
      go_wp2_with (fail)
      refine E3.out.mono ?_
      rintro e w4 ⟨rfl, b4⟩
      have T4 := Lib.hid (T3.out.below b4)
      have M4 := Lib.hid (M3.out.trans (MK.below b4).mb)
      clear b4 E3
      generalize hSE : encS (upd vals K x) = S at *
      have SE := Lib.hid hSE
      clear hSE
      have BG1 := Lib.hid (fun (xq : Ext) => beg' (w := ext w4 xq) (T4.out.below (below_ext w4 xq)).sm (by rw [L3.out.2.1]; exact HG.out) 4294901768 S (by omega))
      have DA := Lib.hid (fun (w0 w' : World) (g : Nat) (h : BG w0 bs bm bw base 80 n safe s2 4294901768 S (othB s2.v base 80) g [(bkAt base 80 (othB s2.v base 80), 0)] w') => dat' h (by omega))
      have CO := Lib.hid (fun (w0 w' : World) (g : Nat) (h : BG w0 bs bm bw base 80 n safe s2 4294901768 S (othB s2.v base 80) g ((bkAt base 80 (othB s2.v base 80), 0) :: wrL (bkAt base 80 (othB s2.v base 80) + 5) S ((S.size + 3) / 4)) w') => com' h (by rw [L3.out.2.1]; exact HG.out) (by omega) (by omega))
      have NM := Lib.hid (fun (xq : Ext) => tname_any (T4.out.below (below_ext w4 xq)).tt)
      have C1 : Hid (∀ (xq : Ext) (w' : World), MB bm bw bs (ext w4 xq) w' → w'.cell? ⟨bt, 0, none⟩ = some (.pointer (some ⟨bs, 0, none⟩)) ∧ bt < w'.heap.size) := Lib.hid (fun xq w' m => by
        have t := (T4.out.below (below_ext w4 xq))
        have ap := t.ap
        have := t.tt.mod m (by omega) (by omega) (by omega)
        exact ⟨cell_of this.obj rfl, lt_of_obj this.obj⟩)
      have HES := Lib.hid hES
      clear hES
      have c4 : w4.cell? ⟨bt, 0, none⟩ = some (.pointer (some ⟨bs, 0, none⟩)) := cell_of T4.out.tt.obj rfl
      have hbt := lt_of_obj T4.out.tt.obj
      go_wp2_with (fail)
      refine region_calm_tail 10 (by kernel_rfl) (by kernel_rfl) ?_
      simp only [List.take_succ_cons, List.take_zero, List.drop_succ_cons, List.drop_zero]
      repeat (go_big_quiet_step ((first | (go_at_call 52; exact calm_same (NM.out _)) | (go_at_call 48; exact calm_of (CR.out _)))))
      refine wpQuiet_nil ?_; intro _ hw'; obtain ⟨xq, hw''⟩ := hw'; subst hw''
      have FIN : Hid (∀ (ver er : Nat) (s7 s8 : MS) (nx8 : Value) (w7 w8 : World), (s2.fuse = -1 → er = 0) → s2.Go (ldA s2.v base 80 4294901768 S) s7 → s7.Le s8 → MB bm bw bs (ext w4 xq) w7 → MB bm bw bs w7 w8 → TS w8 bt br bi c bs bm bw base n safe nx8 s8 →
          SetQ bt br bi c bs bm bw base n safe s S w (.returned (.tuple #[.int .u32 ver, .int .i64 er])) w8) := Lib.hid (fun ver er s7 s8 nx8 w7 w8 h1 h2 h3 h4 h5 h6 => ⟨ver, er, rfl, fun hf => h1 (L2.out.f1 hf), s8, nx8, h6, by
            have := (L2.out.go.trans h2).trans h3.go
            rw [List.append_nil, List.nil_append, L2.out.v] at this
            exact this, ((M4.out.trans (MK.below (below_ext w4 xq)).mb).trans h4).trans h5⟩)
      have VAL : Hid (∀ s7 : MS, s2.Go (ldA s2.v base 80 4294901768 S) s7 → ∃ vals', TVw (viewB s7.v base 80) vals' ∧ VR vals') := Lib.hid (fun s7 go7 => by
        rcases (ld_view (by rw [HES.out]; omega) go7).v with ⟨h1, _⟩ | ⟨h1, _⟩
        · exact ⟨vals, by rw [h1, L3.out.1]; exact HV.out, HR.out⟩
        · exact ⟨upd vals K x, by rw [h1]; exact ⟨rfl, SE.out.symm⟩, HU.out⟩)
      have TX := Lib.hid (T4.out.below (below_ext w4 xq))
      clear NM CR HV HR HU HG
      go_wp2_with (fail)
      refine (BG1.out xq).mono ?_
      rintro e w5 ⟨rfl, g5, b5⟩
      obtain ⟨x5, hw5⟩ := C1.out _ _ b5.mb
      have B5 := Lib.hid b5
      clear b5
      go_wp2_with (fail)
      refine (DA.out _ _ _ B5.out).mono ?_
      rintro e w6 ⟨rfl, b6⟩
      obtain ⟨x6, hw6⟩ := C1.out _ _ b6.mb
      have B6 := Lib.hid b6
      clear b6
      go_wp2_with (fail)
      refine (CO.out _ _ _ B6.out).mono ?_
      rintro e w7 ⟨er, rfl, hf, s7, nx7, sm7, hn7, go7, mb7⟩
      obtain ⟨x7, hw7⟩ := C1.out _ _ mb7
      have T7 := Lib.hid (TX.out.mk' mb7 sm7)
      have HF := Lib.hid hf; have GO7 := Lib.hid go7; have MB7 := Lib.hid mb7
      clear sm7 hf go7 mb7
      by_cases her : er = 0
      · subst her
        rw [show ((0 : Nat) : Int) = 0 from rfl]
        obtain ⟨vals', hv', hr'⟩ := VAL.out _ GO7.out
        have VE := Lib.hid (T7.out.version hv' hr')
        clear hv' hr' hn7
        go_wp2_with (fail)
        refine VE.out.mono ?_
        rintro e w8 ⟨ver8, rfl, ⟨s8, l8, t8⟩, k8⟩
        have T8 := Lib.hid t8; have L8 := Lib.hid l8; have K8 := Lib.hid k8
        clear t8 l8 k8
        go_wp2_with (fail)
        go_ret2
        have F0 := FIN.out ver8 0 _ _ _ _ _ (fun _ => rfl) GO7.out L8.out MB7.out K8.out.mb T8.out
        rw [show ((0 : Nat) : Int) = 0 from rfl, ← SE.out] at F0
        exact F0
      · have d1 : decide ((er : Int) = 0) = false := by simp; omega
        obtain ⟨g7, rfl⟩ : ∃ g : Nat, nx7 = .pointer (some ⟨g, 0, none⟩) := hn7.resolve_left her
        have CA := Lib.hid (cancel_yes T7.out.sm.st)
        clear hn7
        go_wp2_with (fail)
        refine CA.out.mono ?_
        rintro e w8 ⟨rfl, st8, k8⟩
        have ap := TX.out.ap
        have ne := TX.out.sm.ne
        have lts := T7.out.lts
        have K8 : Hid (MB bm bw bs w7 w8) := Lib.hid (Mod.mono k8 (fun k _ e => .inr (.inr e)))
        have T8 := Lib.hid (T7.out.mk' K8.out (T7.out.sm.mb st8 (T7.out.sm.me.modN k8 (Ne.symm ne.1) (Ne.symm ne.2)) K8.out))
        have x8 : w8.cell? ⟨bt, 0, none⟩ = some (.pointer (some ⟨bs, 0, none⟩)) := cell_of T8.out.tt.obj rfl
        clear st8 k8 ap ne lts
        go_wp2_with (fail)
        go_ret2
        have F0 := FIN.out 0 er _ _ _ _ _ HF.out GO7.out (MS.Le.refl _) MB7.out K8.out T8.out
        rw [show ((0 : Nat) : Int) = 0 from rfl, ← SE.out] at F0
        exact F0
end Go.Proofs.YtdebfniifijjoaaDoor
/-
  The walks of Pick and place32. Conditions: those that each names.
-/
namespace Go.Proofs.YtdebfniifijjoaaDoor
open Go.RowKit Kit Go.Shelf
set_option linter.unusedVariables false
def I64 (x : Int) : Prop := -9223372036854775808 ≤ x ∧ x ≤ 9223372036854775807
theorem tmod_pos (a n : Int) (hn : 0 < n) : (a.tmod n < 0 → a.tmod n + n = a % n) ∧ (¬ a.tmod n < 0 → a.tmod n = a % n) ∧ -n < a.tmod n ∧ a.tmod n < n := by
  have h1 := Int.tmod_lt_of_pos a hn
  have h2 := Int.lt_tmod_of_pos a hn
  have h3 := Int.emod_nonneg a (Int.ne_of_gt hn)
  have h4 := Int.emod_lt_of_pos a hn
  have h5 := Int.tmod_def a n
  have h6 := Int.emod_def a n
  have h7 : a % n - a.tmod n = n * (a.tdiv n - a / n) := by rw [Int.mul_sub]; omega
  generalize a.tdiv n - a / n = d at h7
  clear h5 h6
  have hd : d = 0 ∨ d = 1 := by
    have g1 : -n < n * d := by omega
    have g2 : n * d < 2 * n := by omega
    have g3 : -1 < d := by
      apply Int.lt_of_mul_lt_mul_left (a := n) _ (by omega); omega
    have g4 : d < 2 := by
      apply Int.lt_of_mul_lt_mul_left (a := n) _ (by omega); omega
    omega
  refine ⟨fun h => ?_, fun h => ?_, h2, h1⟩
  · rcases hd with rfl | rfl <;> omega
  · rcases hd with rfl | rfl <;> omega
theorem pick_any (a n : Int) (ha : I64 a) (hn : 0 < n ∧ n ≤ 1000) (w : World) : Calls Tryd.prog 14 #[.int .i64 a, .int .i64 n] w fun e w' => e = .returned (.int .i64 (a % n)) ∧ w = w' := by
  obtain ⟨t1, t2, t3, t4⟩ := tmod_pos a n hn.1
  obtain ⟨a1, a2⟩ := ha
  have hnz : ¬ n = 0 := by omega
  have hnm : ¬ n = -1 := by omega
  have w1 : IntKind.i64.wrap (a.tmod n) = a.tmod n := by rw [IntKind.wrap_i64]; omega
  by_cases hneg : a.tmod n < 0
  · have d1 : decide (a.tmod n < 0) = true := by simp [hneg]
    have e1 := t1 hneg
    have w2 : IntKind.i64.wrap (a.tmod n + n) = a % n := by rw [e1, IntKind.wrap_i64]; omega
    clear t1 t2 hneg
    go_enter Tryd.func14, Tryd.ntmps14
    go_wp2_with (fail)
    go_ret
    exact ⟨rfl, rfl⟩
  · have e1 := t2 hneg
    have d1 : decide (a % n < 0) = false := by simp; omega
    have w3 : IntKind.i64.wrap (a % n) = a % n := by rw [IntKind.wrap_i64]; omega
    clear t1 t2 hneg
    go_enter Tryd.func14, Tryd.ntmps14
    go_wp2_with (fail)
    go_ret
    exact ⟨rfl, rfl⟩
/-- A step of the statement. -/
structure Blow where
  what : Nat
  word : Int
  bit : Int
  value : Int
  text : ByteArray
  fuse : Int
structure Blow.Ok (b : Blow) : Prop where
  what : b.what < 256
  word : I64 b.word
  bit : I64 b.bit
  value : I64 b.value
  fuse : I64 b.fuse
  text : b.text.size ≤ 64
def blA (b : Blow) : Array Value := #[.int .u8 b.what, .int .i64 b.word, .int .i64 b.bit, .int .i64 b.value, .string b.text, .int .i64 b.fuse]
def Blow.place (b : Blow) : Nat := if b.bit % 2 = 0 then (b.word % 20).toNat else 20 + (b.word % 10).toNat
theorem Blow.place_lt (b : Blow) : b.place < 30 := by unfold Blow.place; split <;> omega
theorem tmod2 (x : Int) : x.tmod 2 = 0 ↔ x % 2 = 0 := by
  obtain ⟨t1, t2, t3, t4⟩ := tmod_pos x 2 (by omega)
  omega
set_option maxHeartbeats 400000 in
theorem place_any (b : Blow) (h : b.Ok) (w : World) : Calls Tryd.prog 27 #[.agg (blA b)] w fun e w' => e = .returned (.int .i64 b.place) ∧ Below w.heap.size w w' := by
  have P10 := Lib.hid (fun w => pick_any b.word 10 h.word (by omega) w)
  have P20 := Lib.hid (fun w => pick_any b.word 20 h.word (by omega) w)
  have t2 := tmod2 b.bit
  obtain ⟨b1, b2⟩ := h.bit
  have w1 : IntKind.i64.wrap (b.bit.tmod 2) = b.bit.tmod 2 := by obtain ⟨t1, t2, t3, t4⟩ := tmod_pos b.bit 2 (by omega); rw [IntKind.wrap_i64]; omega
  have HB := Lib.hid (bl_alloc (Below.refl w.heap.size w) (.cells (blA b) 24))
  unfold blA
  by_cases hz : b.bit % 2 = 0
  · have d1 : (b.bit.tmod 2 != 0) = false := by simp; omega
    have hp : ((b.place : Nat) : Int) = b.word % 20 := by unfold Blow.place; rw [if_pos hz]; omega
    have HP := Lib.hid hp
    clear h hz t2 hp
    go_enter Tryd.func27, Tryd.ntmps27
    go_wp2_with (fail)
    refine (P20.out _).mono ?_
    rintro e _ ⟨rfl, rfl⟩
    go_wp2_with (fail)
    go_ret
    exact ⟨congrArg (fun z => Ending.returned (.int .i64 z)) HP.out.symm, HB.out⟩
  · have d1 : (b.bit.tmod 2 != 0) = true := by simp; omega
    have hp : ((b.place : Nat) : Int) = 20 + b.word % 10 := by unfold Blow.place; rw [if_neg hz]; omega
    have w2 : IntKind.i64.wrap (20 + b.word % 10) = 20 + b.word % 10 := by rw [IntKind.wrap_i64]; omega
    have HP := Lib.hid hp
    clear h hz t2 hp
    go_enter Tryd.func27, Tryd.ntmps27
    go_wp2_with (fail)
    refine (P10.out _).mono ?_
    rintro e _ ⟨rfl, rfl⟩
    go_wp2_with (fail)
    go_ret
    exact ⟨congrArg (fun z => Ending.returned (.int .i64 z)) HP.out.symm, HB.out⟩
end Go.Proofs.YtdebfniifijjoaaDoor
/-
  A world of the statement, as it lies: its cells, its memory, its stores and its table. Conditions: none.
-/
namespace Go.Proofs.YtdebfniifijjoaaDoor
open Go.RowKit Kit Go.Shelf
set_option linter.unusedVariables false
structure WD where
  m : Value
  s : Value
  t : Value
  words : Int
  text : ByteArray
  id : Nat
  vals : Nat → Int
  single : Nat → Nat
  up : Value
  ctr : Nat
def wcell (d : WD) (i : Nat) : Value :=
  if i < 7 then (match i with | 0 => d.m | 1 => d.s | 2 => d.t | 3 => .int .i64 92 | 4 => .int .i64 d.words | 5 => .string d.text | _ => .int .u32 d.id)
  else if i < 15 then .int .i64 (d.vals (i - 7)) else if i < 45 then .int .u32 (d.single (i - 15)) else if i = 45 then d.up else .int .u32 d.ctr
def wrow (d : WD) : Array Value := Array.ofFn (n := 47) fun i => wcell d i.val
theorem wrow_size (d : WD) : (wrow d).size = 47 := by simp [wrow]
theorem wrow_get (d : WD) (i : Nat) (h : i < 47) : (wrow d)[i]? = some (wcell d i) := by simp [wrow, h]
theorem wrow_set (d d' : WD) (i : Nat) (v : Value) (h : ∀ j, j < 47 → (if j = i then v else wcell d j) = wcell d' j) : (wrow d).setIfInBounds i v = wrow d' := by
  apply Array.ext_getElem?
  intro j
  rw [Array.getElem?_setIfInBounds]
  rcases Nat.lt_or_ge j 47 with hj | hj
  · have := h j hj
    rw [wrow_get d' j hj, ← this]
    by_cases e : i = j
    · subst e; rw [if_pos rfl, if_pos rfl, if_pos (by rw [wrow_size]; exact hj)]
    · rw [if_neg e, if_neg (Ne.symm e), wrow_get d j hj]
  · rw [Array.getElem?_eq_none (xs := wrow d') (by rw [wrow_size]; exact hj)]
    by_cases e : i = j
    · subst e; rw [if_pos rfl, if_neg (by rw [wrow_size]; omega)]
    · rw [if_neg e, Array.getElem?_eq_none (by rw [wrow_size]; exact hj)]
/-- The cells of a struct of the statement's world. -/
def WC (w : World) (W : Nat) (d : WD) : Prop := w.heap[W]? = some (.cells (wrow d) 40)
theorem WC.cell {w : World} {W : Nat} {d : WD} (h : WC w W d) (i : Nat) (hi : i < 47) : w.cell? ⟨W, i, none⟩ = some (wcell d i) := cell_of h (wrow_get d i hi)
theorem WC.free {w : World} {W : Nat} {d : WD} (h : WC w W d) (i : Nat) : w.frozen? ⟨W, i, none⟩ = false := free_of h
theorem WC.lt {w : World} {W : Nat} {d : WD} (h : WC w W d) : W < w.heap.size := lt_of_obj h
theorem WC.set {w : World} {W : Nat} {d : WD} (h : WC w W d) {d' : WD} (i : Nat) (v : Value) (hd : ∀ j, j < 47 → (if j = i then v else wcell d j) = wcell d' j) : WC (w.setCell ⟨W, i, none⟩ v) W d' := by
  have := hp_set (i := i) h v
  rw [wrow_set d d' i v hd] at this
  exact this
theorem WC.vals {w : World} {W : Nat} {d : WD} (h : WC w W d) (i : Nat) (hi : i < 8) : w.cell? ⟨W, 7 + i, none⟩ = some (.int .i64 (d.vals i)) := by
  have := h.cell (7 + i) (by omega)
  unfold wcell at this
  rw [if_neg (by omega), if_pos (by omega), show 7 + i - 7 = i by omega] at this
  exact this
theorem WC.sing {w : World} {W : Nat} {d : WD} (h : WC w W d) (i : Nat) (hi : i < 30) : w.cell? ⟨W, 15 + i, none⟩ = some (.int .u32 (d.single i)) := by
  have := h.cell (15 + i) (by omega)
  unfold wcell at this
  rw [if_neg (by omega), if_neg (by omega), if_pos (by omega), show 15 + i - 15 = i by omega] at this
  exact this
theorem WC.c3 {w : World} {W : Nat} {d : WD} (h : WC w W d) : w.cell? ⟨W, 3, none⟩ = some (.int .i64 92) := h.cell 3 (by omega)
/-- The values, the single words, as they lie in the struct. -/
def vRow (f : Nat → Int) : List Value := (List.range 8).map fun i => .int .i64 (f i)
def sRow (f : Nat → Nat) : List Value := (List.range 30).map fun i => .int .u32 (f i)
theorem vRow_len (f : Nat → Int) : (vRow f).length = 8 := by simp [vRow]
theorem sRow_len (f : Nat → Nat) : (sRow f).length = 30 := by simp [sRow]
theorem WC.vrange {w : World} {W : Nat} {d : WD} (h : WC w W d) : w.rangeAt W 7 (vRow d.vals) := fun j v hv => by
  have hj : j < 8 := by have := (List.getElem?_eq_some_iff.1 hv).1; rwa [vRow_len] at this
  rw [h.vals j hj, ← hv]; simp [vRow, hj]
theorem WC.srange {w : World} {W : Nat} {d : WD} (h : WC w W d) : w.rangeAt W 15 (sRow d.single) := fun j v hv => by
  have hj : j < 30 := by have := (List.getElem?_eq_some_iff.1 hv).1; rwa [sRow_len] at this
  rw [h.sing j hj, ← hv]; simp [sRow, hj]
theorem WC.there {w : World} {W : Nat} {d : WD} (h : WC w W d) (o n : Nat) (hn : o + n ≤ 47) : w.there W o n := fun j hj => ⟨by rw [h.cell (o + j) (by omega)]; rfl, h.free _⟩
theorem WC.puts {W : Nat} : ∀ (vs : List Value) (o : Nat) (w : World) (d d' : WD), WC w W d → (∀ j, j < 47 → (if o ≤ j ∧ j < o + vs.length then vs[j - o]? else some (wcell d j)) = some (wcell d' j)) → WC (w.setCells W o vs) W d' := by
  suffices H : ∀ (vs : List Value) (o : Nat) (w : World) (c c' : Array Value), w.heap[W]? = some (.cells c 40) → c.size = 47 → c'.size = 47 → (∀ j, j < 47 → (if o ≤ j ∧ j < o + vs.length then vs[j - o]? else c[j]?) = c'[j]?) → (w.setCells W o vs).heap[W]? = some (.cells c' 40) by
    intro vs o w d d' h hd
    refine H vs o w _ _ h (wrow_size _) (wrow_size _) (fun j hj => ?_)
    rw [wrow_get d j hj, wrow_get d' j hj]; exact hd j hj
  intro vs
  induction vs with
  | nil =>
    intro o w c c' h h1 h2 hc
    have : c = c' := by
      apply Array.ext_getElem?
      intro j
      rcases Nat.lt_or_ge j 47 with hj | hj
      · have := hc j hj
        rwa [if_neg (by simp)] at this
      · rw [Array.getElem?_eq_none (by omega), Array.getElem?_eq_none (by omega)]
    rw [← this]; exact h
  | cons v vs ih =>
    intro o w c c' h h1 h2 hc
    refine ih (o + 1) _ (c.setIfInBounds o v) c' (hp_set (i := o) h v) (by simp [h1]) h2 (fun j hj => ?_)
    have := hc j hj
    simp only [List.length_cons] at this
    by_cases ho : j = o
    · subst ho
      rw [if_neg (by omega), Array.getElem?_setIfInBounds, if_pos rfl, if_pos (by omega)]
      rw [if_pos (by omega)] at this
      simpa using this
    · by_cases hr : o + 1 ≤ j ∧ j < o + 1 + vs.length
      · rw [if_pos hr]
        rw [if_pos (by omega), show j - o = (j - (o + 1)) + 1 by omega, List.getElem?_cons_succ] at this
        exact this
      · rw [if_neg hr, Array.getElem?_setIfInBounds, if_neg (Ne.symm ho)]
        rw [if_neg (by omega)] at this
        exact this
theorem mod_cells {W : Nat} {a : World} : ∀ (vs : List Value) (i : Nat) (w : World), Mod (fun k => k = W) a w → Mod (fun k => k = W) a (w.setCells W i vs)
  | [], _, _, h => h
  | v :: r, i, w, h => mod_cells r (i + 1) _ (mod_at h v)
/-- The flags of the words that were upset. -/
def ffn (u : Nat → Bool) : Array Value := Array.ofFn (n := 122) fun i => .bool (u i.val)
theorem ffn_size (u : Nat → Bool) : (ffn u).size = 122 := by simp [ffn]
theorem ffn_get (u : Nat → Bool) (i : Nat) (h : i < 122) : (ffn u)[i]? = some (.bool (u i)) := by simp [ffn, h]
theorem ffn_set (u : Nat → Bool) (i : Nat) (b : Bool) : (ffn u).setIfInBounds i (.bool b) = ffn (fun j => if j = i then b else u j) := by
  apply Array.ext_getElem?
  intro j
  rw [Array.getElem?_setIfInBounds]
  rcases Nat.lt_or_ge j 122 with hj | hj
  · rw [ffn_get _ j hj, ffn_get _ j hj, ffn_size]
    by_cases e : i = j
    · subst e; simp [hj]
    · rw [if_neg e, if_neg (Ne.symm e)]
  · rw [Array.getElem?_eq_none (xs := ffn _) (i := j) (by rw [ffn_size]; exact hj), Array.getElem?_eq_none (xs := ffn _) (i := j) (by rw [ffn_size]; exact hj)]
    by_cases e : i = j
    · subst e; rw [if_pos rfl, if_neg (by rw [ffn_size]; omega)]
    · rw [if_neg e]
/-- The blocks of a world. -/
structure WX where
  bm : Nat
  bw : Nat
  b1 : Nat
  b2 : Nat
  bt : Nat
  br : Nat
  bi : Nat
  c : Nat
  bu : Nat
/-- A world whose stores and table are not yet there. -/
structure WB (w : World) (W : Nat) (d : WD) (bm bw bu : Nat) (u : Nat → Bool) (s : MS) : Prop where
  obj : WC w W d
  m : d.m = .pointer (some ⟨bm, 0, none⟩)
  up : d.up = .slice (some ⟨bu, 0, none⟩) 122 122
  words : d.words = 122
  ups : w.heap[bu]? = some (.cells (ffn u) 4)
  me : ME w bm bw 122 112 s
  tab : Tab w
  apW : W ≠ bm ∧ W ≠ bw ∧ W ≠ bu ∧ W ≠ 0
  apu : bu ≠ bm ∧ bu ≠ bw ∧ bu ≠ 0
theorem Tab.modS {w w' : World} {S : Nat → Prop} (h : Tab w) (hm : Mod S w w') (hz : ¬ S 0) : Tab w' := fun j hj => by
  have h1 := h j hj
  rw [hm.cell (World.block_lt_of_cell? w _ h1) hz]; exact h1
theorem WB.go {w w' : World} {S : Nat → Prop} {W bm bw bu : Nat} {d : WD} {u : Nat → Bool} {s s' : MS} (h : WB w W d bm bw bu u s) (hm : Mod S w w') (me : ME w' bm bw 122 112 s') (hz : ¬ S 0) (h1 : ¬ S W ∧ ¬ S bu) : WB w' W d bm bw bu u s' :=
  ⟨hm.keeps h.obj h1.1, h.m, h.up, h.words, hm.keeps h.ups h1.2, me, h.tab.modS hm hz, h.apW, h.apu⟩
theorem WB.put {w w' : World} {W bm bw bu : Nat} {d d' : WD} {u : Nat → Bool} {s : MS} (h : WB w W d bm bw bu u s) (hm : Mod (fun k => k = W) w w') (obj : WC w' W d') (e : d'.m = d.m ∧ d'.up = d.up ∧ d'.words = d.words) : WB w' W d' bm bw bu u s := by
  have a := h.apW
  exact ⟨obj, e.1.trans h.m, e.2.1.trans h.up, e.2.2.trans h.words, hm.keeps h.ups (by (go_split_ands; (try simp only [not_or]); (repeat' apply And.intro) <;> (intro e; first | exact absurd e (by assumption) | exact absurd e.symm (by assumption) | exact absurd e (Nat.ne_of_lt (by assumption)) | exact absurd e.symm (Nat.ne_of_lt (by assumption))))), h.me.modS hm (by (go_split_ands; (try simp only [not_or]); (repeat' apply And.intro) <;> (intro e; first | exact absurd e (by assumption) | exact absurd e.symm (by assumption) | exact absurd e (Nat.ne_of_lt (by assumption)) | exact absurd e.symm (Nat.ne_of_lt (by assumption))))) (by (go_split_ands; (try simp only [not_or]); (repeat' apply And.intro) <;> (intro e; first | exact absurd e (by assumption) | exact absurd e.symm (by assumption) | exact absurd e (Nat.ne_of_lt (by assumption)) | exact absurd e.symm (Nat.ne_of_lt (by assumption))))), h.tab.modS hm (by (go_split_ands; (try simp only [not_or]); (repeat' apply And.intro) <;> (intro e; first | exact absurd e (by assumption) | exact absurd e.symm (by assumption) | exact absurd e (Nat.ne_of_lt (by assumption)) | exact absurd e.symm (Nat.ne_of_lt (by assumption))))), h.apW, h.apu⟩
/-- A world as it lies. -/
structure WO (w : World) (W : Nat) (d : WD) (x : WX) (u : Nat → Bool) (s : MS) : Prop where
  b : WB w W d x.bm x.bw x.bu u s
  ps : d.s = .pointer (some ⟨x.b1, 0, none⟩)
  pt : d.t = .pointer (some ⟨x.bt, 0, none⟩)
  s1 : ∃ nx, SM w x.b1 x.bm x.bw 0 64 122 112 nx s
  ts : ∃ nx, TS w x.bt x.br x.bi x.c x.b2 x.bm x.bw 42 122 112 nx s
  apW : W ≠ x.b1 ∧ W ≠ x.b2 ∧ W ≠ x.bt ∧ W ≠ x.br ∧ W ≠ x.bi
  ap1 : x.b1 ≠ x.b2 ∧ x.b1 ≠ x.bt ∧ x.b1 ≠ x.br ∧ x.b1 ≠ x.bi
  apu : x.bu ≠ x.b1 ∧ x.bu ≠ x.b2 ∧ x.bu ≠ x.bt ∧ x.bu ≠ x.br ∧ x.bu ≠ x.bi
  z : x.b1 ≠ 0 ∧ x.b2 ≠ 0
theorem SM.re {w w' : World} {S : Nat → Prop} {bs bm bw base size n safe : Nat} {nx : Value} {s s' : MS} (h : SM w bs bm bw base size n safe nx s) (hm : Mod S w w') (hbs : ¬ S bs) (me : ME w' bm bw n safe s') (tab : Tab w') : SM w' bs bm bw base size n safe nx s' :=
  ⟨hm.keeps h.st hbs, me, tab, h.ne, h.h1, h.h2, h.hb, h.hn⟩
theorem TS.re {w w' : World} {S : Nat → Prop} {bt br bi c bs bm bw base n safe : Nat} {nx : Value} {s s' : MS} (h : TS w bt br bi c bs bm bw base n safe nx s) (hm : Mod S w w') (h1 : ¬ S bs ∧ ¬ S bt ∧ ¬ S br ∧ ¬ S bi) (me : ME w' bm bw n safe s') (tab : Tab w') : TS w' bt br bi c bs bm bw base n safe nx s' :=
  ⟨h.tt.mod hm h1.2.1 h1.2.2.1 h1.2.2.2, h.sm.re hm h1.1 me tab, h.ap⟩
theorem WO.go {w w' : World} {S : Nat → Prop} {W : Nat} {d : WD} {x : WX} {u : Nat → Bool} {s s' : MS} (h : WO w W d x u s) (hm : Mod S w w') (me : ME w' x.bm x.bw 122 112 s') (hz : ¬ S 0) (h1 : ¬ S W ∧ ¬ S x.bu ∧ ¬ S x.b1 ∧ ¬ S x.b2 ∧ ¬ S x.bt ∧ ¬ S x.br ∧ ¬ S x.bi) : WO w' W d x u s' := by
  have b := h.b.go hm me hz ⟨h1.1, h1.2.1⟩
  obtain ⟨nx, s1⟩ := h.s1
  obtain ⟨ny, ts⟩ := h.ts
  exact ⟨b, h.ps, h.pt, ⟨nx, s1.re hm h1.2.2.1 me b.tab⟩, ⟨ny, ts.re hm h1.2.2.2 me b.tab⟩, h.apW, h.ap1, h.apu, h.z⟩
theorem WO.rd {w w' : World} {W : Nat} {d : WD} {x : WX} {u : Nat → Bool} {s s' : MS} (h : WO w W d x u s) (me : ME w' x.bm x.bw 122 112 s') (k : MK x.bm x.bw w w') : WO w' W d x u s' := by
  have a := h.b.apW; have a' := h.b.apu; have p := h.b.me.pos
  obtain ⟨nx, s1⟩ := h.s1
  obtain ⟨ny, ts⟩ := h.ts
  have n1 := s1.ne; have n2 := ts.sm.ne; have n3 := ts.ap
  exact h.go k me (by (go_split_ands; (try simp only [not_or]); (repeat' apply And.intro) <;> (intro e; first | exact absurd e (by assumption) | exact absurd e.symm (by assumption) | exact absurd e (Nat.ne_of_lt (by assumption)) | exact absurd e.symm (Nat.ne_of_lt (by assumption))))) (by (go_split_ands; (try simp only [not_or]); (repeat' apply And.intro) <;> (intro e; first | exact absurd e (by assumption) | exact absurd e.symm (by assumption) | exact absurd e (Nat.ne_of_lt (by assumption)) | exact absurd e.symm (Nat.ne_of_lt (by assumption)))))
theorem WO.below {w w' : World} {W : Nat} {d : WD} {x : WX} {u : Nat → Bool} {s : MS} (h : WO w W d x u s) (k : Below w.heap.size w w') : WO w' W d x u s := h.rd (h.b.me.below k) (MK.below k)
theorem WO.put {w w' : World} {W : Nat} {d d' : WD} {x : WX} {u : Nat → Bool} {s : MS} (h : WO w W d x u s) (hm : Mod (fun k => k = W) w w') (obj : WC w' W d') (e : d'.m = d.m ∧ d'.up = d.up ∧ d'.words = d.words ∧ d'.s = d.s ∧ d'.t = d.t) : WO w' W d' x u s := by
  have b := h.b.put hm obj ⟨e.1, e.2.1, e.2.2.1⟩
  have a := h.apW
  obtain ⟨nx, s1⟩ := h.s1
  obtain ⟨ny, ts⟩ := h.ts
  exact ⟨b, e.2.2.2.1.trans h.ps, e.2.2.2.2.trans h.pt, ⟨nx, s1.re hm (by (go_split_ands; (try simp only [not_or]); (repeat' apply And.intro) <;> (intro e; first | exact absurd e (by assumption) | exact absurd e.symm (by assumption) | exact absurd e (Nat.ne_of_lt (by assumption)) | exact absurd e.symm (Nat.ne_of_lt (by assumption))))) b.me b.tab⟩, ⟨ny, ts.re hm (by (go_split_ands; (try simp only [not_or]); (repeat' apply And.intro) <;> (intro e; first | exact absurd e (by assumption) | exact absurd e.symm (by assumption) | exact absurd e (Nat.ne_of_lt (by assumption)) | exact absurd e.symm (Nat.ne_of_lt (by assumption))))) b.me b.tab⟩, h.apW, h.ap1, h.apu, h.z⟩
theorem WO.ld {w w' : World} {W : Nat} {d : WD} {x : WX} {u : Nat → Bool} {s s' : MS} {nx : Value} (h : WO w W d x u s) (k : MB x.bm x.bw x.b1 w w') (sm : SM w' x.b1 x.bm x.bw 0 64 122 112 nx s') : WO w' W d x u s' := by
  have a := h.b.apW; have a' := h.b.apu; have p := h.b.me.pos; have aW := h.apW; have a1 := h.ap1; have au := h.apu; have z := h.z
  obtain ⟨ny, ts⟩ := h.ts
  have n2 := ts.sm.ne; have n3 := ts.ap
  exact ⟨h.b.go k sm.me (by (go_split_ands; (try simp only [not_or]); (repeat' apply And.intro) <;> (intro e; first | exact absurd e (by assumption) | exact absurd e.symm (by assumption) | exact absurd e (Nat.ne_of_lt (by assumption)) | exact absurd e.symm (Nat.ne_of_lt (by assumption))))) (by (go_split_ands; (try simp only [not_or]); (repeat' apply And.intro) <;> (intro e; first | exact absurd e (by assumption) | exact absurd e.symm (by assumption) | exact absurd e (Nat.ne_of_lt (by assumption)) | exact absurd e.symm (Nat.ne_of_lt (by assumption))))), h.ps, h.pt, ⟨nx, sm⟩, ⟨ny, ts.re k (by (go_split_ands; (try simp only [not_or]); (repeat' apply And.intro) <;> (intro e; first | exact absurd e (by assumption) | exact absurd e.symm (by assumption) | exact absurd e (Nat.ne_of_lt (by assumption)) | exact absurd e.symm (Nat.ne_of_lt (by assumption))))) sm.me sm.tab⟩, h.apW, h.ap1, h.apu, h.z⟩
theorem WO.st {w w' : World} {W : Nat} {d : WD} {x : WX} {u : Nat → Bool} {s s' : MS} {nx : Value} (h : WO w W d x u s) (k : MB x.bm x.bw x.b2 w w') (ts : TS w' x.bt x.br x.bi x.c x.b2 x.bm x.bw 42 122 112 nx s') : WO w' W d x u s' := by
  have a := h.b.apW; have a' := h.b.apu; have p := h.b.me.pos; have aW := h.apW; have a1 := h.ap1; have au := h.apu; have z := h.z
  obtain ⟨ny, s1⟩ := h.s1
  have n2 := s1.ne
  exact ⟨h.b.go k ts.sm.me (by (go_split_ands; (try simp only [not_or]); (repeat' apply And.intro) <;> (intro e; first | exact absurd e (by assumption) | exact absurd e.symm (by assumption) | exact absurd e (Nat.ne_of_lt (by assumption)) | exact absurd e.symm (Nat.ne_of_lt (by assumption))))) (by (go_split_ands; (try simp only [not_or]); (repeat' apply And.intro) <;> (intro e; first | exact absurd e (by assumption) | exact absurd e.symm (by assumption) | exact absurd e (Nat.ne_of_lt (by assumption)) | exact absurd e.symm (Nat.ne_of_lt (by assumption))))), h.ps, h.pt, ⟨ny, s1.re k (by (go_split_ands; (try simp only [not_or]); (repeat' apply And.intro) <;> (intro e; first | exact absurd e (by assumption) | exact absurd e.symm (by assumption) | exact absurd e (Nat.ne_of_lt (by assumption)) | exact absurd e.symm (Nat.ne_of_lt (by assumption))))) ts.sm.me ts.sm.tab⟩, ⟨nx, ts⟩, h.apW, h.ap1, h.apu, h.z⟩
theorem WO.flag {w : World} {W : Nat} {d : WD} {x : WX} {u : Nat → Bool} {s : MS} (h : WO w W d x u s) (i : Nat) (b : Bool) : WO (w.setCell ⟨x.bu, i, none⟩ (.bool b)) W d x (fun j => if j = i then b else u j) s := by
  have hm : Mod (fun k => k = x.bu) w (w.setCell ⟨x.bu, i, none⟩ (.bool b)) := mod_at (Mod.refl _ _) _
  have a := h.b.apW; have a' := h.b.apu; have au := h.apu
  have me := h.b.me.modS hm (by (go_split_ands; (try simp only [not_or]); (repeat' apply And.intro) <;> (intro e; first | exact absurd e (by assumption) | exact absurd e.symm (by assumption) | exact absurd e (Nat.ne_of_lt (by assumption)) | exact absurd e.symm (Nat.ne_of_lt (by assumption))))) (by (go_split_ands; (try simp only [not_or]); (repeat' apply And.intro) <;> (intro e; first | exact absurd e (by assumption) | exact absurd e.symm (by assumption) | exact absurd e (Nat.ne_of_lt (by assumption)) | exact absurd e.symm (Nat.ne_of_lt (by assumption)))))
  have tab := h.b.tab.modS hm (by (go_split_ands; (try simp only [not_or]); (repeat' apply And.intro) <;> (intro e; first | exact absurd e (by assumption) | exact absurd e.symm (by assumption) | exact absurd e (Nat.ne_of_lt (by assumption)) | exact absurd e.symm (Nat.ne_of_lt (by assumption)))))
  obtain ⟨nx, s1⟩ := h.s1
  obtain ⟨ny, ts⟩ := h.ts
  have hu := hp_set (i := i) h.b.ups (.bool b)
  rw [ffn_set] at hu
  exact ⟨⟨hm.keeps h.b.obj (by (go_split_ands; (try simp only [not_or]); (repeat' apply And.intro) <;> (intro e; first | exact absurd e (by assumption) | exact absurd e.symm (by assumption) | exact absurd e (Nat.ne_of_lt (by assumption)) | exact absurd e.symm (Nat.ne_of_lt (by assumption))))), h.b.m, h.b.up, h.b.words, hu, me, tab, h.b.apW, h.b.apu⟩, h.ps, h.pt, ⟨nx, s1.re hm (by (go_split_ands; (try simp only [not_or]); (repeat' apply And.intro) <;> (intro e; first | exact absurd e (by assumption) | exact absurd e.symm (by assumption) | exact absurd e (Nat.ne_of_lt (by assumption)) | exact absurd e.symm (Nat.ne_of_lt (by assumption))))) me tab⟩, ⟨ny, ts.re hm (by (go_split_ands; (try simp only [not_or]); (repeat' apply And.intro) <;> (intro e; first | exact absurd e (by assumption) | exact absurd e.symm (by assumption) | exact absurd e (Nat.ne_of_lt (by assumption)) | exact absurd e.symm (Nat.ne_of_lt (by assumption))))) me tab⟩, h.apW, h.ap1, h.apu, h.z⟩
end Go.Proofs.YtdebfniifijjoaaDoor
/-
  The walks of begin and new32. Conditions: a world whose memory lies.
-/
namespace Go.Proofs.YtdebfniifijjoaaDoor
open Go.RowKit Kit Go.Shelf
set_option linter.unusedVariables false
def WBegQ (W : Nat) (d : WD) (bm bw bu : Nat) (u : Nat → Bool) (s : MS) (w : World) (e : Ending) (w' : World) : Prop :=
  e = .returned (.bool true) ∧ (∃ x : WX, x.bm = bm ∧ x.bw = bw ∧ x.bu = bu ∧ WO w' W { d with s := .pointer (some ⟨x.b1, 0, none⟩), t := .pointer (some ⟨x.bt, 0, none⟩) } x u s ∧ w.heap.size ≤ x.b1 ∧ w.heap.size ≤ x.b2) ∧ Mod (fun k => k = W) w w'
theorem wcell_s (d : WD) (v : Value) (j : Nat) : (if j = 1 then v else wcell d j) = wcell { d with s := v } j := by
  by_cases e : j = 1
  · subst e; rfl
  · rw [if_neg e]
    unfold wcell
    by_cases h : j < 7
    · rw [if_pos h, if_pos h]
      rcases (by omega : j = 0 ∨ j = 2 ∨ j = 3 ∨ j = 4 ∨ j = 5 ∨ j = 6) with rfl | rfl | rfl | rfl | rfl | rfl <;> rfl
    · rw [if_neg h, if_neg h]
theorem wcell_t (d : WD) (v : Value) (j : Nat) : (if j = 2 then v else wcell d j) = wcell { d with t := v } j := by
  by_cases e : j = 2
  · subst e; rfl
  · rw [if_neg e]
    unfold wcell
    by_cases h : j < 7
    · rw [if_pos h, if_pos h]
      rcases (by omega : j = 0 ∨ j = 1 ∨ j = 3 ∨ j = 4 ∨ j = 5 ∨ j = 6) with rfl | rfl | rfl | rfl | rfl | rfl <;> rfl
    · rw [if_neg h, if_neg h]
theorem wbeg_end {w w4 : World} {W : Nat} {d : WD} {bm bw bu b1 b2 bt br bi c : Nat} {u : Nat → Bool} {s : MS} (h : WB w W d bm bw bu u s) (hb : Below w.heap.size w w4) (h1 : ST w4 b1 bm 0 64 (.pointer none)) (h2 : ST w4 b2 bm 42 80 (.pointer none)) (ht : TT w4 bt b2 br bi c)
    (g : w.heap.size ≤ b1 ∧ b1 < b2 ∧ b2 < bt ∧ b2 < br ∧ b2 < bi) :
    WBegQ W d bm bw bu u s w (.returned (.bool true)) ((w4.setCell ⟨W, 1, none⟩ (.pointer (some ⟨b1, 0, none⟩))).setCell ⟨W, 2, none⟩ (.pointer (some ⟨bt, 0, none⟩))) := by
  have hW := h.obj.lt
  have hbu := lt_of_obj h.ups
  obtain ⟨fx, st, ho⟩ := h.me.obj
  have hbm := lt_of_obj ho
  have hbw := lt_of_obj h.me.words
  have aW := h.apW; have au := h.apu
  have g0 : Mod (fun k => k = W) w4 ((w4.setCell ⟨W, 1, none⟩ (.pointer (some ⟨b1, 0, none⟩))).setCell ⟨W, 2, none⟩ (.pointer (some ⟨bt, 0, none⟩))) := mod_at (mod_at (Mod.refl _ _) _) _
  have B4 : WB w4 W d bm bw bu u s := h.go (S := fun _ => False) (Mod.of_below hb) (h.me.below hb) id ⟨id, id⟩
  have O5 : WC ((w4.setCell ⟨W, 1, none⟩ (.pointer (some ⟨b1, 0, none⟩))).setCell ⟨W, 2, none⟩ (.pointer (some ⟨bt, 0, none⟩))) W { d with s := .pointer (some ⟨b1, 0, none⟩), t := .pointer (some ⟨bt, 0, none⟩) } :=
    (B4.obj.set 1 _ (fun j _ => wcell_s d _ j)).set 2 _ (fun j _ => wcell_t _ _ j)
  have B5 := B4.put g0 O5 ⟨rfl, rfl, rfl⟩
  have hh : half 64 = 21 := rfl
  have hh' : half 80 = 25 := rfl
  refine ⟨rfl, ⟨⟨bm, bw, b1, b2, bt, br, bi, c, bu⟩, rfl, rfl, rfl, ⟨B5, rfl, rfl, ⟨_, g0.keeps h1 (by ((try dsimp only); omega)), B5.me, B5.tab, ⟨by ((try dsimp only); omega), by ((try dsimp only); omega)⟩, by ((try dsimp only); omega), by ((try dsimp only); omega), by ((try dsimp only); omega), by ((try dsimp only); omega)⟩,
    ⟨_, ht.mod g0 (by ((try dsimp only); omega)) (by ((try dsimp only); omega)) (by ((try dsimp only); omega)), ⟨g0.keeps h2 (by ((try dsimp only); omega)), B5.me, B5.tab, ⟨by ((try dsimp only); omega), by ((try dsimp only); omega)⟩, by ((try dsimp only); omega), by ((try dsimp only); omega), by ((try dsimp only); omega), by ((try dsimp only); omega)⟩, ⟨⟨by ((try dsimp only); omega), by ((try dsimp only); omega), by ((try dsimp only); omega)⟩, ⟨by ((try dsimp only); omega), by ((try dsimp only); omega), by ((try dsimp only); omega)⟩, ⟨by ((try dsimp only); omega), by ((try dsimp only); omega), by ((try dsimp only); omega)⟩⟩⟩,
    ⟨by ((try dsimp only); omega), by ((try dsimp only); omega), by ((try dsimp only); omega), by ((try dsimp only); omega), by ((try dsimp only); omega)⟩, ⟨by ((try dsimp only); omega), by ((try dsimp only); omega), by ((try dsimp only); omega), by ((try dsimp only); omega)⟩, ⟨by ((try dsimp only); omega), by ((try dsimp only); omega), by ((try dsimp only); omega), by ((try dsimp only); omega), by ((try dsimp only); omega)⟩, ⟨by ((try dsimp only); omega), by ((try dsimp only); omega)⟩⟩, by ((try dsimp only); omega), by ((try dsimp only); omega)⟩, ?_⟩
  exact Mod.trans (Mod.of_below hb) g0 (fun _ _ e => e)
set_option maxRecDepth 100000 in
set_option maxHeartbeats 1600000 in
theorem wbegin_any {w : World} {W : Nat} {d : WD} {bm bw bu : Nat} {u : Nat → Bool} {s : MS} (h : WB w W d bm bw bu u s) :
    Calls Tryd.prog 9 #[.pointer (some ⟨W, 0, none⟩)] w fun e w' => WBegQ W d bm bw bu u s w e w' := by
  have H := Lib.hid h
  have c0 : w.cell? ⟨W, 0, none⟩ = some (.pointer (some ⟨bm, 0, none⟩)) := by have := h.obj.cell 0 (by omega); rw [show wcell d 0 = d.m from rfl, h.m] at this; exact this
  have hW := h.obj.lt
  have hh : half 64 = 21 := rfl
  have hh' : half 80 = 25 := rfl
  have PN1 := Lib.hid (pnew_any h.me 0 64 (by omega) (by omega) (by omega) (by omega) (by omega))
  have PN2 := Lib.hid (fun (w' : World) (b : Below w.heap.size w w') => pnew_any (h.me.below b) 42 80 (by omega) (by omega) (by omega) (by omega) (by omega))
  have WD7 := Lib.hid (fun (w' : World) => words_any 64 (by omega) (by omega) w')
  clear h hh hh'
  go_enter Tryd.func9, Tryd.ntmps9
  go_wp2_with (fail)
  refine PN1.out.mono ?_
  rintro e w1 ⟨b1, hb1, rfl, st1, bl1⟩
  have ST1 := Lib.hid st1; have BL1 := Lib.hid bl1
  have hb1' := lt_of_obj st1
  have c1 : w1.cell? ⟨W, 0, none⟩ = some (.pointer (some ⟨bm, 0, none⟩)) := by rw [(bcell bl1).1 W 0 hW]; exact c0
  have hW1 : W < w1.heap.size := Nat.lt_of_lt_of_le hW bl1.size
  clear st1 bl1 PN1
  have PN2' := Lib.hid (PN2.out w1.drew (BL1.out.trans (Below.refl _ _).drew))
  go_wp2_with (fail)
  go_region_held3 (fun w' => w'.cell? ⟨W, 0, none⟩ = some (.pointer (some ⟨bm, 0, none⟩))) (go_keep) ((first | (go_at_call 7; refine (WD7.out _).mono ?_; rintro e _ ⟨rfl, rfl⟩) | (go_at_call 19; refine PN2'.out.mono ?_; rintro e w2 ⟨b2, hb2, rfl, st2, bl2⟩; have ST2 := Lib.hid st2; have BL2 := Lib.hid (show Below w1.heap.size w1 w2 from (Below.refl _ _).drew.trans bl2); have c2 : w2.cell? ⟨W, 0, none⟩ = some (.pointer (some ⟨bm, 0, none⟩)) := by { rw [(bcell BL2.out).1 W 0 hW1]; exact c1 }; clear st2 bl2)))
  have hb1 : w.heap.size ≤ b1 := hb1
  have hs1 : b1 < w2.heap.size := lt_of_obj (ST1.out.below BL2.out)
  have hs2 : b2 < w2.heap.size := lt_of_obj ST2.out
  have hW2 : W < w2.heap.size := Nat.lt_of_lt_of_le hW1 BL2.out.size
  have RU := Lib.hid (fun w => rules_any w)
  have TN := Lib.hid (fun (w' : World) (g c : Nat) (hr : RL8 w' g) (hc : 8 ≤ c ∧ c ≤ maxLen) (b : Below w2.heap.size w2 w') => tnew_any (ST2.out.below b) hr hc)
  clear PN2'
  go_wp2_with (fail)
  refine (RU.out _).mono ?_
  rintro e w3 ⟨g, c, rfl, hr3, hc3, hg3, bl3⟩
  have BL3 := Lib.hid bl3
  have TN3 := Lib.hid (TN.out w3 g c hr3 hc3 bl3)
  have hs3 : w2.heap.size ≤ w3.heap.size := bl3.size
  clear hr3 bl3
  go_wp2_with (fail)
  refine TN3.out.mono ?_
  rintro e w4 ⟨bt, br, bi, c4, rfl, hg4, tt4, bl4⟩
  have TT4 := Lib.hid tt4
  have BL4 : Hid (Below w2.heap.size w2 w4) := Lib.hid (below_step BL3.out bl4 hs3)
  have BLw : Hid (Below w.heap.size w w4) := Lib.hid (below_step (below_step BL1.out BL2.out BL1.out.size) BL4.out (Nat.le_trans BL1.out.size BL2.out.size))
  have O4 : Hid (WC w4 W d) := Lib.hid (below_keeps BLw.out H.out.obj hW)
  have c4 : w4.cell? ⟨W, 1, none⟩ = some (wcell d 1) := O4.out.cell 1 (by omega)
  have c5 : w4.cell? ⟨W, 2, none⟩ = some (wcell d 2) := O4.out.cell 2 (by omega)
  have cz : ∀ j, w4.frozen? ⟨W, j, none⟩ = false := fun j => O4.out.free j
  have hW4 := O4.out.lt
  have FIN := Lib.hid (wbeg_end H.out BLw.out ((ST1.out.below BL2.out).below BL4.out) (ST2.out.below BL4.out) TT4.out ⟨hb1, by have := hb2; simp at this; omega, by omega, by omega, by omega⟩)
  clear tt4 bl4 TN3
  go_wp2_with (fail)
  go_ret
  exact FIN.out
end Go.Proofs.YtdebfniifijjoaaDoor
