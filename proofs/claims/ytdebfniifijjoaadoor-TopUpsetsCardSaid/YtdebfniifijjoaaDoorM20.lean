/-
  The walk of change, kind 0: a single word. Conditions: a world as it lies.
-/
import Derived.Test.YtdebfniifijjoaaDoorM19
import Derived.Test.YtdebfniifijjoaaDoorM01
namespace Go.Proofs.YtdebfniifijjoaaDoor
open Go.RowKit Kit Go.Shelf
set_option linter.unusedVariables false
set_option linter.unusedSimpArgs false
theorem quiet_load {P : Program} {ops : Array Oper} {C : World → Prop} {Q : Act → Prop} {a : Act} {o : Oper} {rest : List Oper} (hw : Region.wanted o (yielded ops a.tmps) = true) (ty : TypeId) (x : Operand) (ho : o.op = .load ty x)
    (b off : Nat) (hx : a.eval x = .pointer (some ⟨b, off, none⟩)) (cs : List Value) (d : TypeDesc) (hS : ∀ w, C w → w.rangeAt b off cs) (hu : P.underlying ty = some d) (hd : d.isRow = true) (hi : (P.info? ty).map (·.size) = some cs.length)
    (h : wpQuiet P ops C Q rest (a.put o.dst (.agg cs.toArray))) : wpQuiet P ops C Q (o :: rest) a := by
  unfold wpQuiet
  rw [if_pos hw]
  refine ⟨_, fun w hC => ?_, h⟩
  unfold Oper.quietAt execOp
  simp only [ho, hx, Instr.loadAt, Instr.sureAddr, Sem.run_bind, Sem.run_pure, Result.andThen_ok, run_loadVar_mid w b off ty cs d (hS w hC) hu hd hi]
  exact ⟨rfl, rfl⟩
theorem held_store_row {P : Program} {md : Region.Mode} {ops : Array Oper} {Q : Exit → Act → World → Prop} {S : World → Prop} {fuel : Nat} {listed : Array Bool} {a : Act} {w : World} (i : Nat) (hr : Region.ready md ops listed = [i]) (ty : TypeId) (x y : Operand)
    (ho : ∃ o, ops[i]? = some o ∧ o.op = .store ty x y ∧ o.guard = none ∧ o.dst = none) (g : Nat) (cells : Array Value) (hx : a.eval x = .pointer (some ⟨g, 0, none⟩)) (hy : a.eval y = .agg cells)
    (t : TypeId) (old : Array Value) (hg : w.heap[g]? = some (.cells old t (0, 0))) (hi : (P.info? ty).map (·.size) = some cells.size) (hold : old.size = cells.size) (h1 : cells.all (·.oneCell') = true)
    (hS : S (w.setRow g cells)) (h : wpAnyH P md ops Q S fuel (listed.setIfInBounds i true) a (w.setRow g cells)) : wpAnyH P md ops Q S (fuel + 1) listed a w := by
  obtain ⟨o, ho, hop, hgd, hd⟩ := ho
  refine wpAnyH_ready (rs := [i]) hr (by simp) ?_
  refine AllReadyH.cons ho (fun K hK => ?_) AllReadyH.nil
  have hw : Region.wanted o (yielded ops a.tmps) = true := by unfold Region.wanted; rw [hgd]
  rw [if_pos hw]
  refine wp_store_row ty x y hop g cells hx hy t old hg hi hold h1 ?_
  rw [hd]
  exact hK.out _ _ hS (fun _ => h)
theorem held_assign {P : Program} {md : Region.Mode} {ops : Array Oper} {Q : Exit → Act → World → Prop} {S : World → Prop} {fuel : Nat} {listed : Array Bool} {a : Act} {w : World} (i : Nat) (hr : Region.ready md ops listed = [i]) (x : Operand) (t : Option Tmp)
    (ho : ∃ o, ops[i]? = some o ∧ o.op = .assign x ∧ o.guard = none ∧ o.dst = t) (v : Value) (hx : a.eval x = v) (hS : S w) (h : wpAnyH P md ops Q S fuel (listed.setIfInBounds i true) (a.put t v) w) : wpAnyH P md ops Q S (fuel + 1) listed a w := by
  obtain ⟨o, ho, hop, hgd, hd⟩ := ho
  refine wpAnyH_ready (rs := [i]) hr (by simp) ?_
  refine AllReadyH.cons ho (fun K hK => ?_) AllReadyH.nil
  have hw : Region.wanted o (yielded ops a.tmps) = true := by unfold Region.wanted; rw [hgd]
  rw [if_pos hw]
  have := hK.out _ _ hS (fun _ => h)
  rw [← hd, ← hx] at this
  unfold Oper.wp execOp
  simp only [hop]
  exact this
theorem results_row_tmp {fn : Func} {p q : Tmp} {ty : TypeId} (h : fn.results = #[.cell p ty, .tmp q]) (tmps : Array Value) (P : Program) (w : World) (g : Nat) (C : Array Value) (d : TypeDesc)
    (hp : tmps.getD p undef = .pointer (some ⟨g, 0, none⟩)) (v : Value) (hv : tmps.getD q undef = v) (hg : w.rangeAt g 0 C.toList) (hu : P.underlying ty = some d) (hd : d.isRow = true) (hi : (P.info? ty).map (·.size) = some C.toList.length) :
    (results fn tmps).run P w = .ok (.tuple #[.agg C, v]) w := by
  subst hv
  have hp' : tmps[p]?.getD undef = .pointer (some ⟨g, 0, none⟩) := by simpa using hp
  have hl := run_loadVar_mid (P := P) w g 0 ty C.toList d hg hu hd hi
  rw [Array.toArray_toList] at hl
  simp [results, h, hp', asAddr, hl]
/-- The zero struct. -/
def zrow : Array Value := (wrow wd0).setIfInBounds 3 (.int .i64 0)
theorem zrow_size : zrow.size = 47 := by rw [zrow, Array.size_setIfInBounds, wrow_size]
theorem zero40 (w : World) : Sem.run Tryd.prog (zeroValue 40) w = .ok (.agg zrow) w := by kernel_rfl
theorem info40 (d : WD) : (Tryd.prog.info? 40).map (·.size) = some (wrow d).size := by rw [wrow_size]; kernel_rfl
theorem info40l (d : WD) : (Tryd.prog.info? 40).map (·.size) = some (wrow d).toList.length := by rw [Array.length_toList]; exact info40 d
/-- Each cell is one. -/
theorem wrow_one {d : WD} (h : d.m.oneCell' = true ∧ d.s.oneCell' = true ∧ d.t.oneCell' = true ∧ d.up.oneCell' = true) : (wrow d).all (·.oneCell') = true := by
  refine Array.all_eq_true_iff_forall_mem.2 (fun v hv => ?_)
  obtain ⟨i, hi⟩ := Array.mem_iff_getElem?.1 hv
  have h47 : i < 47 := by
    rcases Nat.lt_or_ge i 47 with h | h
    · exact h
    · rw [Array.getElem?_eq_none (by rw [wrow_size]; exact h)] at hi; cases hi
  rw [wrow_get d i h47] at hi
  cases hi
  by_cases h7 : i < 7
  · rcases (by omega : i = 0 ∨ i = 1 ∨ i = 2 ∨ i = 3 ∨ i = 4 ∨ i = 5 ∨ i = 6) with rfl | rfl | rfl | rfl | rfl | rfl | rfl
    · exact h.1
    · exact h.2.1
    · exact h.2.2.1
    · rfl
    · rfl
    · rfl
    · rfl
  · unfold wcell
    rw [if_neg h7]
    by_cases h15 : i < 15
    · rw [if_pos h15]; rfl
    · rw [if_neg h15]
      by_cases h45 : i < 45
      · rw [if_pos h45]; rfl
      · rw [if_neg h45]
        by_cases h46 : i = 45
        · rw [if_pos h46]; exact h.2.2.2
        · rw [if_neg h46]; rfl
theorem WO.one {w : World} {W : Nat} {d : WD} {x : WX} {u : Nat → Bool} {s : MS} (h : WO w W d x u s) : d.m.oneCell' = true ∧ d.s.oneCell' = true ∧ d.t.oneCell' = true ∧ d.up.oneCell' = true := by
  rw [h.b.m, h.ps, h.pt, h.b.up]; exact ⟨rfl, rfl, rfl, rfl⟩
theorem WC.range {w : World} {W : Nat} {d : WD} (h : WC w W d) : w.rangeAt W 0 (wrow d).toList := fun j v hv => by
  have hj : j < 47 := by have := (List.getElem?_eq_some_iff.1 hv).1; rwa [Array.length_toList, wrow_size] at this
  rw [Nat.zero_add, h.cell j hj, ← hv, Array.getElem?_toList, wrow_get d j hj]
/-- The word that a value becomes. -/
def vU (x : Int) : Nat := (x % 4294967296).toNat
theorem vU_wrap (x : Int) : IntKind.u32.wrap x = ((vU x : Nat) : Int) := by rw [IntKind.wrap_u32]; unfold vU; omega
theorem vU_lt (x : Int) : vU x < 4294967296 := by unfold vU; omega
def putS (d : WD) (k v : Nat) : WD := { d with single := fun i => if i = k then v else d.single i }
theorem WC.setRow {w : World} {W : Nat} {c : Array Value} (h : w.heap[W]? = some (.cells c 40)) (d' : WD) : WC (w.setRow W (wrow d')) W d' := setRow_heap _ _ _ _ _ _ h
theorem puts_row {W : Nat} (vs : List Value) : ∀ (o : Nat) (w : World) (c c' : Array Value), w.heap[W]? = some (.cells c 40) → c.size = 47 → c'.size = 47 → (∀ j, j < 47 → (if o ≤ j ∧ j < o + vs.length then vs[j - o]? else c[j]?) = c'[j]?) → (w.setCells W o vs).heap[W]? = some (.cells c' 40) := by
  induction vs with
  | nil =>
    intro o w c c' h h1 h2 hc
    have : c = c' := by
      apply Array.ext_getElem?
      intro j
      rcases Nat.lt_or_ge j 47 with hj | hj
      · have := hc j hj
        rwa [if_neg (by simp)] at this
      · rw [Array.getElem?_eq_none (by omega), Array.getElem?_eq_none (by omega)]
    rw [← this]; exact h
  | cons v vs ih =>
    intro o w c c' h h1 h2 hc
    refine ih (o + 1) _ (c.setIfInBounds o v) c' (hp_set (i := o) h v) (by simp [h1]) h2 (fun j hj => ?_)
    have := hc j hj
    simp only [List.length_cons] at this
    by_cases ho : j = o
    · subst ho
      rw [if_neg (by omega), Array.getElem?_setIfInBounds, if_pos rfl, if_pos (by omega)]
      rw [if_pos (by omega)] at this
      simpa using this
    · by_cases hr : o + 1 ≤ j ∧ j < o + 1 + vs.length
      · rw [if_pos hr]
        rw [if_pos (by omega), show j - o = (j - (o + 1)) + 1 by omega, List.getElem?_cons_succ] at this
        exact this
      · rw [if_neg hr, Array.getElem?_setIfInBounds, if_neg (Ne.symm ho)]
        rw [if_neg (by omega)] at this
        exact this
theorem WC.putAll {w : World} {B : Nat} {c : Array Value} (h : w.heap[B]? = some (.cells c 40)) (hc : c.size = 47) (d' : WD) : WC (w.setCells B 0 (wrow d').toList) B d' :=
  puts_row _ 0 w c _ h hc (wrow_size _) (fun j hj => by rw [if_pos ⟨by omega, by rw [Array.length_toList, wrow_size]; omega⟩, Nat.sub_zero, Array.getElem?_toList])
theorem mod_row {B : Nat} {a b : World} (h : Mod (fun k => k = B) a b) (cs : Array Value) : Mod (fun k => k = B) a (b.setRow B cs) :=
  ⟨h.os, h.tape, h.output, by simpa [World.setRow] using h.size, fun k hk e => by rw [← h.block k hk e]; exact setRow_other _ _ _ _ e⟩
/-- What change may write. -/
def MC (W : Nat) (x : WX) : World → World → Prop := Mod (fun k => k = W ∨ k = x.bm ∨ k = x.bw ∨ k = x.b1 ∨ k = x.b2)
theorem MC.lo {w w' : World} {W L : Nat} {x : WX} (h : MC W x w w') (hL : WLo L W x) (hz : L ≤ w.heap.size) : Below L w w' := Mod.below h hz (fun k e => by
  rcases e with rfl | rfl | rfl | rfl | rfl
  · exact hL.W
  · exact hL.bm
  · exact hL.bw
  · exact hL.b1
  · exact hL.b2)
theorem MC.more {w w' w'' : World} {W B : Nat} {x : WX} (h : MC W x w w') (h' : Mod (fun k => k = B) w' w'') (hB : w.heap.size ≤ B) : MC W x w w'' := Mod.trans h h' (fun k hk e => by omega)
/-- A copy of a world's struct is made: the frame of change. -/
structure ChF (w : World) (W : Nat) (d dn : WD) (x : WX) (u : Nat → Bool) (s : MS) (b : Blow) (B5 B6 B8 : Nat) (w' : World) : Prop where
  o : WO w' W d x u s
  b5 : w'.heap[B5]? = some (.cells (blA b) 24)
  b6 : w'.heap[B6]? = some (.cells zrow 40)
  b8 : WC w' B8 dn
  lo : ∀ L, WLo L W x → Below L w w'
  md : MC W x w w'
  ge : B5 = w.heap.size ∧ B6 = w.heap.size + 1 ∧ B8 = w.heap.size + 1 + 1
theorem chf_start {w : World} {W : Nat} {d : WD} {x : WX} {u : Nat → Bool} {s : MS} (h : WO w W d x u s) (b : Blow) :
    ChF w W d d x u s b w.heap.size (w.heap.size + 1) ((w.alloc (.cells (blA b) 24)).alloc (.cells zrow 40)).heap.size ((((w.alloc (.cells (blA b) 24)).alloc (.cells zrow 40)).alloc (.cells zrow 40)).setRow ((w.alloc (.cells (blA b) 24)).alloc (.cells zrow 40)).heap.size (wrow d)) := by
  have g : ((w.alloc (.cells (blA b) 24)).alloc (.cells zrow 40)).heap.size = w.heap.size + 1 + 1 := by simp
  have bl : Below w.heap.size w ((((w.alloc (.cells (blA b) 24)).alloc (.cells zrow 40)).alloc (.cells zrow 40)).setRow ((w.alloc (.cells (blA b) 24)).alloc (.cells zrow 40)).heap.size (wrow d)) := bl_row (bl_alloc (bl_alloc (bl_alloc (Below.refl _ _) _) _) _) (by rw [g]; omega) _
  refine ⟨h.below bl, ?_, ?_, WC.setRow (hp_new _ _) d, fun L hL => bl.mono (h.size hL), Mod.of_below bl, rfl, rfl, g⟩
  · rw [setRow_other _ _ _ _ (by rw [g]; omega)]; exact hp_old (hp_old (hp_new _ _) _) _
  · rw [setRow_other _ _ _ _ (by rw [g]; omega)]
    have := hp_new (w.alloc (.cells (blA b) 24)) (.cells zrow 40)
    rw [show (w.alloc (.cells (blA b) 24)).heap.size = w.heap.size + 1 by simp] at this
    exact hp_old this _
theorem WO.lts {w : World} {W : Nat} {d : WD} {x : WX} {u : Nat → Bool} {s : MS} (h : WO w W d x u s) : W < w.heap.size ∧ x.bu < w.heap.size ∧ x.b1 < w.heap.size ∧ x.b2 < w.heap.size ∧ x.bt < w.heap.size ∧ x.br < w.heap.size ∧ x.bi < w.heap.size ∧ x.bm < w.heap.size ∧ x.bw < w.heap.size ∧ 0 < w.heap.size := by
  obtain ⟨nx, s1⟩ := h.s1
  obtain ⟨ny, ts⟩ := h.ts
  have l1 := s1.lt
  have l2 := ts.lts
  exact ⟨h.b.obj.lt, lt_of_obj h.b.ups, l1.1, by omega, by omega, by omega, by omega, by omega, by omega, by omega⟩
theorem WO.far {w w1 w' : World} {W B : Nat} {d d0 : WD} {x : WX} {u : Nat → Bool} {s s0 : MS} (h : WO w W d0 x u s0) (h1 : WO w1 W d x u s) (hm : Mod (fun k => k = B) w1 w') (hB : w.heap.size ≤ B) : WO w' W d x u s := by
  have l := h.lts
  exact h1.go hm (h1.b.me.modS hm (by omega) (by omega)) (by omega) ⟨by omega, by omega, by omega, by omega, by omega, by omega, by omega⟩
theorem ChF.below {w w' w'' : World} {W : Nat} {d dn : WD} {x : WX} {u : Nat → Bool} {s : MS} {b : Blow} {B5 B6 B8 : Nat} (h : ChF w W d dn x u s b B5 B6 B8 w') (k : Below w'.heap.size w' w'') : ChF w W d dn x u s b B5 B6 B8 w'' :=
  ⟨h.o.below k, below_keeps k h.b5 (lt_of_obj h.b5), below_keeps k h.b6 (lt_of_obj h.b6), below_keeps k h.b8 h.b8.lt, fun L hL => (h.lo L hL).trans (k.mono (h.o.size hL)), Mod.trans h.md (Mod.of_below (S := fun _ => False) k) (fun _ _ e => e.elim), h.ge⟩
theorem ChF.put8 {w w' w'' : World} {W : Nat} {d dn dn' d0 : WD} {x : WX} {u : Nat → Bool} {s s0 : MS} {b : Blow} {B5 B6 B8 : Nat} (h : ChF w W d dn x u s b B5 B6 B8 w') (h0 : WO w W d0 x u s0) (hm : Mod (fun k => k = B8) w' w'') (ho : WC w'' B8 dn') : ChF w W d dn' x u s b B5 B6 B8 w'' := by
  have g := h.ge
  have l := h0.lts
  exact ⟨h0.far h.o hm (by omega), hm.keeps h.b5 (by omega), hm.keeps h.b6 (by omega), ho, fun L hL => (h.lo L hL).trans (Mod.below hm (h.o.size hL) (fun k e => by have := h0.size hL; omega)), h.md.more hm (by omega), h.ge⟩
theorem ChF.rd {w w' w'' : World} {W : Nat} {d dn d0 : WD} {x : WX} {u : Nat → Bool} {s s' s0 : MS} {b : Blow} {B5 B6 B8 : Nat} (h : ChF w W d dn x u s b B5 B6 B8 w') (h0 : WO w W d0 x u s0) (me : ME w'' x.bm x.bw 122 112 s') (k : MK x.bm x.bw w' w'') : ChF w W d dn x u s' b B5 B6 B8 w'' := by
  have g := h.ge
  have l := h0.lts
  exact ⟨h.o.rd me k, k.keeps h.b5 (by omega), k.keeps h.b6 (by omega), k.keeps h.b8 (by omega), fun L hL => (h.lo L hL).trans (k.lo hL (h.o.size hL)), Mod.trans h.md k (fun k _ e => by rcases e with e | e <;> simp [e]), h.ge⟩
theorem ChF.putW {w w' w'' : World} {W : Nat} {d d1 dn d0 : WD} {x : WX} {u : Nat → Bool} {s s0 : MS} {b : Blow} {B5 B6 B8 : Nat} (h : ChF w W d dn x u s b B5 B6 B8 w') (h0 : WO w W d0 x u s0) (hm : Mod (fun k => k = W) w' w'') (ho : WC w'' W d1) (e : d1.m = d.m ∧ d1.up = d.up ∧ d1.words = d.words ∧ d1.s = d.s ∧ d1.t = d.t) : ChF w W d1 dn x u s b B5 B6 B8 w'' := by
  have g := h.ge
  have l := h0.lts
  exact ⟨h.o.put hm ho e, hm.keeps h.b5 (by omega), hm.keeps h.b6 (by omega), hm.keeps h.b8 (by omega), fun L hL => (h.lo L hL).trans (Mod.below hm (h.o.size hL) (fun k e => by have := hL.W; omega)), Mod.trans h.md hm (fun k _ e => .inl e), h.ge⟩
theorem ChF.mb1 {w w' w'' : World} {W : Nat} {d dn d0 : WD} {x : WX} {u : Nat → Bool} {s s' s0 : MS} {b : Blow} {B5 B6 B8 : Nat} {nx : Value} (h : ChF w W d dn x u s b B5 B6 B8 w') (h0 : WO w W d0 x u s0) (k : MB x.bm x.bw x.b1 w' w'') (sm : SM w'' x.b1 x.bm x.bw 0 64 122 112 nx s') : ChF w W d dn x u s' b B5 B6 B8 w'' := by
  have g := h.ge
  have l := h0.lts
  exact ⟨h.o.ld k sm, k.keeps h.b5 (by omega), k.keeps h.b6 (by omega), k.keeps h.b8 (by omega), fun L hL => (h.lo L hL).trans (Mod.below k (h.o.size hL) (fun k e => by have := hL.bm; have := hL.bw; have := hL.b1; omega)), Mod.trans h.md k (fun k _ e => by rcases e with e | e | e <;> simp [e]), h.ge⟩
theorem ChF.mb2 {w w' w'' : World} {W : Nat} {d dn d0 : WD} {x : WX} {u : Nat → Bool} {s s' s0 : MS} {b : Blow} {B5 B6 B8 : Nat} {nx : Value} (h : ChF w W d dn x u s b B5 B6 B8 w') (h0 : WO w W d0 x u s0) (k : MB x.bm x.bw x.b2 w' w'') (ts : TS w'' x.bt x.br x.bi x.c x.b2 x.bm x.bw 42 122 112 nx s') : ChF w W d dn x u s' b B5 B6 B8 w'' := by
  have g := h.ge
  have l := h0.lts
  exact ⟨h.o.st k ts, k.keeps h.b5 (by omega), k.keeps h.b6 (by omega), k.keeps h.b8 (by omega), fun L hL => (h.lo L hL).trans (Mod.below k (h.o.size hL) (fun k e => by have := hL.bm; have := hL.bw; have := hL.b2; omega)), Mod.trans h.md k (fun k _ e => by rcases e with e | e | e <;> simp [e]), h.ge⟩
theorem ChF.fin {w w' : World} {W : Nat} {d dn d0 : WD} {x : WX} {u : Nat → Bool} {s s0 : MS} {b : Blow} {B5 B6 B8 : Nat} (h : ChF w W d dn x u s b B5 B6 B8 w') (h0 : WO w W d0 x u s0) :
    WC (w'.setRow B6 (wrow dn)) B6 dn ∧ WO (w'.setRow B6 (wrow dn)) W d x u s ∧ (∀ L, WLo L W x → Below L w (w'.setRow B6 (wrow dn)) ∧ MC W x w (w'.setRow B6 (wrow dn))) := by
  have g := h.ge
  have hm : Mod (fun k => k = B6) w' (w'.setRow B6 (wrow dn)) := mod_row (Mod.refl _ _) _
  exact ⟨WC.setRow h.b6 dn, h0.far h.o hm (by omega), fun L hL => ⟨(h.lo L hL).trans (Mod.below hm (h.o.size hL) (fun k e => by have := h0.size hL; omega)), h.md.more hm (by omega)⟩⟩
theorem WC.rext {w : World} {B : Nat} {d : WD} (h : WC w B d) : ∀ w', (∃ x, w' = ext w x) → w'.rangeAt B 0 (wrow d).toList := fun w' ⟨x, e⟩ => by
  subst e
  exact (show WC (ext w x) B d from hp_ext h x).range
def Blow.Q0 (b : Blow) (L W : Nat) (d : WD) (x : WX) (u : Nat → Bool) (s : MS) (w : World) (e : Ending) (w' : World) : Prop :=
  e = .returned (.tuple #[.agg (wrow (putS d b.place (vU b.value))), .int .i64 0]) ∧ WO w' W d x u (s.store (92 + b.place) (vU b.value)) ∧ Below L w w' ∧ MC W x w w'
set_option maxRecDepth 100000 in
set_option maxHeartbeats 1600000 in
theorem chg0 {w : World} {W L : Nat} {d : WD} {x : WX} {u : Nat → Bool} {s : MS} (h : WO w W d x u s) (hL : WLo L W x) (b : Blow) (hb : b.Ok) :
    Calls Tryd.prog 13 #[.pointer (some ⟨W, 0, none⟩), .int .i64 0, .agg (blA b)] w fun e w' => b.Q0 L W d x u s w e w' := by
  have H := Lib.hid h
  have HL := Lib.hid hL
  have OB := Lib.hid (show w.heap[W]? = some (.cells (wrow d) 40) from h.b.obj)
  have ON := Lib.hid (wrow_one h.one)
  have hW := h.b.obj.lt
  have PL27 := Lib.hid (fun w => place_any b hb w)
  have hz := zero40
  have N5 := Lib.hid (hp_new w (.cells (blA b) 24))
  clear h hL
  have F0 := Lib.hid (chf_start H.out b)
  have N8 := Lib.hid (hp_new ((w.alloc (.cells (blA b) 24)).alloc (.cells zrow 40)) (.cells zrow 40))
  have OB2 : Hid (((w.alloc (.cells (blA b) 24)).alloc (.cells zrow 40)).heap[W]? = some (.cells (wrow d) 40)) := Lib.hid (hp_old (hp_old OB.out _) _)
  have hs2 : Hid (((w.alloc (.cells (blA b) 24)).alloc (.cells zrow 40)).heap.size = w.heap.size + 1 + 1) := Lib.hid (by simp)
  unfold blA at PL27
  go_enter Tryd.func13, Tryd.ntmps13
  go_upto_region 1 with (fail)
  generalize (w.alloc (.cells (blA b) 24)).alloc (.cells zrow 40) = w2 at *
  have hW2 : W < w2.heap.size := by have := hs2.out; omega
  clear N5
  go_upto_region 4 with (first | (refine wpList_load_row rfl 40 _ rfl W rfl 40 _ _ _ OB2.out Tryd.underlying40 rfl (info40 d) ?_) | (refine wpList_store_row rfl 40 _ _ rfl w2.heap.size (wrow d) rfl rfl 40 _ N8.out (info40 d) (by rw [zrow_size, wrow_size]) ON.out ?_))
  generalize (w2.alloc (.cells zrow 40)).setRow w2.heap.size (wrow d) = w3 at *
  have V0 := F0.out.b5
  unfold blA at V0
  have v0 : w3.cell? ⟨w.heap.size, 0, none⟩ = some (.int .u8 b.what) := cell_of V0 rfl
  have v1 : w3.cell? ⟨w.heap.size, 1, none⟩ = some (.int .i64 b.word) := cell_of V0 rfl
  have v2 : w3.cell? ⟨w.heap.size, 2, none⟩ = some (.int .i64 b.bit) := cell_of V0 rfl
  have v3 : w3.cell? ⟨w.heap.size, 3, none⟩ = some (.int .i64 b.value) := cell_of V0 rfl
  have v4 : w3.cell? ⟨w.heap.size, 4, none⟩ = some (.string b.text) := cell_of V0 rfl
  have v5 : w3.cell? ⟨w.heap.size, 5, none⟩ = some (.int .i64 b.fuse) := cell_of V0 rfl
  have g5 := lt_of_obj V0
  clear V0 N8 OB2
  go_wp2_with (fail)
  refine (PL27.out _).mono ?_
  rintro e w4 ⟨rfl, b4⟩
  have F4 := Lib.hid (F0.out.below b4)
  have V0 := F4.out.b5
  unfold blA at V0
  have y3 : w4.cell? ⟨w.heap.size, 3, none⟩ = some (.int .i64 b.value) := cell_of V0 rfl
  have y8 := F4.out.b8.sing b.place b.place_lt
  have y8z : ∀ j, w4.frozen? ⟨w2.heap.size, j, none⟩ = false := fun j => F4.out.b8.free j
  have g5' := lt_of_obj V0
  have g8' := F4.out.b8.lt
  have VW := vU_wrap b.value
  have hk := b.place_lt
  clear V0 v0 v1 v2 v3 v4 v5 g5 b4
  have F5 : Hid (ChF w W d (putS d b.place (vU b.value)) x u s b w.heap.size (w.heap.size + 1) w2.heap.size (w4.setCell ⟨w2.heap.size, 15 + b.place, none⟩ (.int .u32 ((vU b.value : Nat) : Int)))) := Lib.hid
    (F4.out.put8 H.out (mod_at (Mod.refl _ _) _) (F4.out.b8.set (15 + b.place) _ (fun j hj => wcell_single d b.place (vU b.value) hk j hj)))
  go_upto_region 6 with (fail)
  generalize w4.setCell ⟨w2.heap.size, 15 + b.place, none⟩ (.int .u32 ((vU b.value : Nat) : Int)) = w5 at *
  have V0 := F5.out.b5
  unfold blA at V0
  have u0 : w5.cell? ⟨W, 0, none⟩ = some (.pointer (some ⟨x.bm, 0, none⟩)) := F5.out.o.cs.1
  have u3 : w5.cell? ⟨W, 3, none⟩ = some (.int .i64 92) := F5.out.o.cs.2.2.2.1
  have t3 : w5.cell? ⟨w.heap.size, 3, none⟩ = some (.int .i64 b.value) := cell_of V0 rfl
  have lW := F5.out.o.b.obj.lt
  have l5 := lt_of_obj V0
  have wk : IntKind.i64.wrap (92 + ((b.place : Nat) : Int)) = 92 + ((b.place : Nat) : Int) := by rw [IntKind.wrap_i64]; omega
  have WRT := Lib.hid (write_any (F5.out.o.below (Below.refl w5.heap.size w5).drew).b.me (F5.out.o.below (Below.refl w5.heap.size w5).drew).b.tab (92 + b.place) (vU b.value) (by omega) (vU_lt _))
  rw [show ((92 + b.place : Nat) : Int) = 92 + ((b.place : Nat) : Int) by omega] at WRT
  have FIN : Hid (∀ (w7 : World) (s' : MS), ChF w W d (putS d b.place (vU b.value)) x u s' b w.heap.size (w.heap.size + 1) w2.heap.size w7 → s' = s.store (92 + b.place) (vU b.value) → b.Q0 L W d x u s w (.returned (.tuple #[.agg (wrow (putS d b.place (vU b.value))), .int .i64 0])) (w7.setRow (w.heap.size + 1) (wrow (putS d b.place (vU b.value)))) ∧ (w7.setRow (w.heap.size + 1) (wrow (putS d b.place (vU b.value)))).heap[w.heap.size]? = some (.cells (blA b) 24) ∧ WC (w7.setRow (w.heap.size + 1) (wrow (putS d b.place (vU b.value)))) w2.heap.size (putS d b.place (vU b.value))) := Lib.hid (fun w7 s' f e => by
    obtain ⟨h1, h2, h3⟩ := f.fin H.out
    have g := f.ge
    subst e
    refine ⟨⟨rfl, h2, h3 L HL.out⟩, ?_, ?_⟩
    · rw [setRow_other _ _ _ _ (by omega)]; exact f.b5
    · unfold WC; rw [setRow_other _ _ _ _ (by omega)]; exact f.b8)
  have cm : ∀ w' : World, WC w' W d → w'.cell? ⟨W, 0, none⟩ = some (.pointer (some ⟨x.bm, 0, none⟩)) := fun w' h => by have := h.cell 0 (by omega); rw [show wcell d 0 = d.m from rfl, H.out.b.m] at this; exact this
  clear V0 y3 y8 y8z g5' g8' F4 F0 hz
  refine wp_region_held_drew (S := fun w' => WC w' W d ∧ WC w' w2.heap.size (putS d b.place (vU b.value)) ∧ w'.heap[w.heap.size]? = some (.cells (blA b) 24)) (by kernel_rfl) ⟨hp_drew F5.out.o.b.obj, hp_drew F5.out.b8, hp_drew F5.out.b5⟩ (fun hHeld => ?_)
  refine wpAnyH_take (i := 0) rfl (by kernel_rfl) (by kernel_rfl) (by kernel_rfl) (fun _ _ _ h => h) (yieldsIf_load_mid (by rfl) _ _ rfl w2.heap.size 0 rfl _ _ (fun w' h => h.2.1.range) Tryd.underlying40 rfl (info40l _)) (by assumption) ?_
  try simp only [Array.toArray_toList]
  try simp only [Act.put, List.getElem_toArray, List.getElem_cons_zero, List.getElem_cons_succ, List.setIfInBounds_toArray, List.set_cons_zero, List.set_cons_succ]
  refine wpAnyH_take (i := 1) (v := Value.pointer (some ⟨W, 0, none⟩)) rfl (by kernel_rfl) (by kernel_rfl) (by kernel_rfl) (fun _ _ _ h => h) (Or.inl ⟨by rfl, ?_⟩) (by assumption) ?_
  · intro w' hSw; go_simp
  try simp only [Act.put, List.getElem_toArray, List.getElem_cons_zero, List.getElem_cons_succ, List.setIfInBounds_toArray, List.set_cons_zero, List.set_cons_succ]
  refine wpAnyH_take (i := 2) (v := Value.pointer (some ⟨W, 0, none⟩)) rfl (by kernel_rfl) (by kernel_rfl) (by kernel_rfl) (fun _ _ _ h => h) (Or.inl ⟨by rfl, ?_⟩) (by assumption) ?_
  · intro w' hSw; go_simp
  try simp only [Act.put, List.getElem_toArray, List.getElem_cons_zero, List.getElem_cons_succ, List.setIfInBounds_toArray, List.set_cons_zero, List.set_cons_succ]
  refine wpAnyH_take (i := 3) (v := Value.pointer (some ⟨W, 0, none⟩)) rfl (by kernel_rfl) (by kernel_rfl) (by kernel_rfl) (fun _ _ _ h => h) (Or.inl ⟨by rfl, ?_⟩) (by assumption) ?_
  · intro w' hSw; go_simp
  try simp only [Act.put, List.getElem_toArray, List.getElem_cons_zero, List.getElem_cons_succ, List.setIfInBounds_toArray, List.set_cons_zero, List.set_cons_succ]
  refine wpAnyH_take (i := 4) (v := Value.pointer (some ⟨x.bm, 0, none⟩)) rfl (by kernel_rfl) (by kernel_rfl) (by kernel_rfl) (fun _ _ _ h => h) (Or.inl ⟨by rfl, ?_⟩) (by assumption) ?_
  · intro w' hSw; have cc := cm w' hSw.1; go_simp
  try simp only [Act.put, List.getElem_toArray, List.getElem_cons_zero, List.getElem_cons_succ, List.setIfInBounds_toArray, List.set_cons_zero, List.set_cons_succ]
  refine wpAnyH_take (i := 5) (v := Value.pointer (some ⟨W, 0, none⟩)) rfl (by kernel_rfl) (by kernel_rfl) (by kernel_rfl) (fun _ _ _ h => h) (Or.inl ⟨by rfl, ?_⟩) (by assumption) ?_
  · intro w' hSw; go_simp
  try simp only [Act.put, List.getElem_toArray, List.getElem_cons_zero, List.getElem_cons_succ, List.setIfInBounds_toArray, List.set_cons_zero, List.set_cons_succ]
  refine wpAnyH_take (i := 6) (v := Value.pointer (some ⟨W, 0, none⟩)) rfl (by kernel_rfl) (by kernel_rfl) (by kernel_rfl) (fun _ _ _ h => h) (Or.inl ⟨by rfl, ?_⟩) (by assumption) ?_
  · intro w' hSw; go_simp
  try simp only [Act.put, List.getElem_toArray, List.getElem_cons_zero, List.getElem_cons_succ, List.setIfInBounds_toArray, List.set_cons_zero, List.set_cons_succ]
  refine wpAnyH_take (i := 7) (v := Value.pointer (some ⟨W, 3, none⟩)) rfl (by kernel_rfl) (by kernel_rfl) (by kernel_rfl) (fun _ _ _ h => h) (Or.inl ⟨by rfl, ?_⟩) (by assumption) ?_
  · intro w' hSw; go_simp
  try simp only [Act.put, List.getElem_toArray, List.getElem_cons_zero, List.getElem_cons_succ, List.setIfInBounds_toArray, List.set_cons_zero, List.set_cons_succ]
  refine wpAnyH_take (i := 8) (v := Value.int .i64 92) rfl (by kernel_rfl) (by kernel_rfl) (by kernel_rfl) (fun _ _ _ h => h) (Or.inl ⟨by rfl, ?_⟩) (by assumption) ?_
  · intro w' hSw; have cc := hSw.1.c3; go_simp
  try simp only [Act.put, List.getElem_toArray, List.getElem_cons_zero, List.getElem_cons_succ, List.setIfInBounds_toArray, List.set_cons_zero, List.set_cons_succ]
  refine wpAnyH_take (i := 9) (v := Value.int .i64 b.place) rfl (by kernel_rfl) (by kernel_rfl) (by kernel_rfl) (fun _ _ _ h => h) (Or.inl ⟨by rfl, ?_⟩) (by assumption) ?_
  · intro w' hSw; go_simp
  try simp only [Act.put, List.getElem_toArray, List.getElem_cons_zero, List.getElem_cons_succ, List.setIfInBounds_toArray, List.set_cons_zero, List.set_cons_succ]
  refine wpAnyH_take (i := 10) (v := Value.int .i64 (92 + (b.place : Int))) rfl (by kernel_rfl) (by kernel_rfl) (by kernel_rfl) (fun _ _ _ h => h) (Or.inl ⟨by rfl, ?_⟩) (by assumption) ?_
  · intro w' hSw; go_simp
  try simp only [Act.put, List.getElem_toArray, List.getElem_cons_zero, List.getElem_cons_succ, List.setIfInBounds_toArray, List.set_cons_zero, List.set_cons_succ]
  refine wpAnyH_take (i := 11) (v := Value.pointer (some ⟨w.heap.size, 3, none⟩)) rfl (by kernel_rfl) (by kernel_rfl) (by kernel_rfl) (fun _ _ _ h => h) (Or.inl ⟨by rfl, ?_⟩) (by assumption) ?_
  · intro w' hSw; go_simp
  try simp only [Act.put, List.getElem_toArray, List.getElem_cons_zero, List.getElem_cons_succ, List.setIfInBounds_toArray, List.set_cons_zero, List.set_cons_succ]
  refine wpAnyH_take (i := 12) (v := Value.int .i64 b.value) rfl (by kernel_rfl) (by kernel_rfl) (by kernel_rfl) (fun _ _ _ h => h) (Or.inl ⟨by rfl, ?_⟩) (by assumption) ?_
  · intro w' hSw; have cc : w'.cell? ⟨w.heap.size, 3, none⟩ = some (.int .i64 b.value) := cell_of hSw.2.2 rfl; go_simp
  try simp only [Act.put, List.getElem_toArray, List.getElem_cons_zero, List.getElem_cons_succ, List.setIfInBounds_toArray, List.set_cons_zero, List.set_cons_succ]
  refine wpAnyH_take (i := 13) (v := Value.int .u32 (vU b.value : Nat)) rfl (by kernel_rfl) (by kernel_rfl) (by kernel_rfl) (fun _ _ _ h => h) (Or.inl ⟨by rfl, ?_⟩) (by assumption) ?_
  · intro w' hSw; go_simp
  try simp only [Act.put, List.getElem_toArray, List.getElem_cons_zero, List.getElem_cons_succ, List.setIfInBounds_toArray, List.set_cons_zero, List.set_cons_succ]
  refine wpAnyH_ready (rs := [14]) (by kernel_rfl) (by simp) ?_
  refine AllReadyH.cons rfl ?_ ?_
  rotate_left 1
  exact AllReadyH.nil
  intro K hK
  simp only [List.getElem_toArray, List.getElem_cons_zero, List.getElem_cons_succ]
  go_simp
  refine WRT.out.mono ?_
  rintro e w6 ⟨rfl, m6, k6⟩
  have F6 := Lib.hid (F5.out.rd H.out m6 ((MK.below (Below.refl w5.heap.size w5).drew).trans k6))
  refine hK.out _ _ ⟨F6.out.o.b.obj, F6.out.b8, F6.out.b5⟩ (fun hHeld => ?_)
  clear hK K
  try simp only [Act.put, List.getElem_toArray, List.getElem_cons_zero, List.getElem_cons_succ, List.setIfInBounds_toArray, List.set_cons_zero, List.set_cons_succ]
  obtain ⟨q1, q2⟩ := FIN.out w6 _ F6.out rfl
  refine held_store_row 15 (by kernel_rfl) 40 (Operand.tmp 6) (Operand.tmp 27) ?_ (w.heap.size + 1) (wrow (putS d b.place (vU b.value))) rfl rfl 40 _ F6.out.b6 (info40 _) (by rw [zrow_size, wrow_size]) (wrow_one H.out.one) ⟨q1.2.1.b.obj, q2.2, q2.1⟩ ?_
  · exact ⟨_, by rfl, by rfl, by rfl, by rfl⟩
  refine held_assign 16 (by kernel_rfl) (Operand.tmp 41) (some 7) ?_ (.int .i64 0) rfl ⟨q1.2.1.b.obj, q2.2, q2.1⟩ ?_
  · exact ⟨_, by rfl, by rfl, by rfl, by rfl⟩
  refine wpAnyH_done (by kernel_rfl) ?_ _
  try simp only [Act.put, List.getElem_toArray, List.getElem_cons_zero, List.getElem_cons_succ, List.setIfInBounds_toArray, List.set_cons_zero, List.set_cons_succ]
  have QF := Lib.hid q1
  have QR := F6.out.fin H.out
  clear q1
  go_wp2_with (fail)
  refine bodyPost_ret (results_row_tmp rfl _ _ _ (w.heap.size + 1) _ _ rfl (.int .i64 0) rfl QR.1.range Tryd.underlying40 rfl (info40l _)) rfl ?_
  exact QF.out
end Go.Proofs.YtdebfniifijjoaaDoor
/-
  The walk of change, kind 1: a patch. Conditions: a world as it lies.
-/
namespace Go.Proofs.YtdebfniifijjoaaDoor
open Go.RowKit Kit Go.Shelf
set_option linter.unusedVariables false
set_option linter.unusedSimpArgs false
theorem wcell_ctr (d : WD) (v : Nat) (j : Nat) (hj : j < 47) : (if j = 46 then .int .u32 v else wcell d j) = wcell { d with ctr := v } j := by
  by_cases e : j = 46
  · subst e; rfl
  · rw [if_neg e]
    unfold wcell
    by_cases h : j < 7
    · rw [if_pos h, if_pos h]
    · rw [if_neg h, if_neg h]
      by_cases h' : j < 15
      · rw [if_pos h', if_pos h']
      · rw [if_neg h', if_neg h']
        by_cases h'' : j < 45
        · rw [if_pos h'', if_pos h'']
        · rw [if_neg h'', if_neg h'', if_pos (by omega), if_pos (by omega)]
theorem wcell_id (d : WD) (v : Nat) (j : Nat) : (if j = 6 then .int .u32 v else wcell d j) = wcell { d with id := v } j := by
  by_cases e : j = 6
  · subst e; rfl
  · rw [if_neg e]
    unfold wcell
    by_cases h : j < 7
    · rw [if_pos h, if_pos h]
      rcases (by omega : j = 0 ∨ j = 1 ∨ j = 2 ∨ j = 3 ∨ j = 4 ∨ j = 5) with rfl | rfl | rfl | rfl | rfl | rfl <;> rfl
    · rw [if_neg h, if_neg h]
theorem wcell_text (d : WD) (v : ByteArray) (j : Nat) : (if j = 5 then .string v else wcell d j) = wcell { d with text := v } j := by
  by_cases e : j = 5
  · subst e; rfl
  · rw [if_neg e]
    unfold wcell
    by_cases h : j < 7
    · rw [if_pos h, if_pos h]
      rcases (by omega : j = 0 ∨ j = 1 ∨ j = 2 ∨ j = 3 ∨ j = 4 ∨ j = 6) with rfl | rfl | rfl | rfl | rfl | rfl <;> rfl
    · rw [if_neg h, if_neg h]
def ctrD (d : WD) (c : Nat) : WD := { d with ctr := c }
def patD (d : WD) (c : Nat) (text : ByteArray) : WD := { ctrD d c with id := c, text := text }
def Blow.Q1 (b : Blow) (L W : Nat) (d : WD) (x : WX) (u : Nat → Bool) (s : MS) (w : World) (e : Ending) (w' : World) : Prop :=
  ∃ er : Nat, e = .returned (.tuple #[.agg (wrow (patD d (d.ctr + 1) b.text)), .int .i64 er]) ∧ (s.fuse = -1 → er = 0) ∧ (∃ s', s.Go (ldA s.v 0 64 (d.ctr + 1) b.text) s' ∧ WO w' W (ctrD d (d.ctr + 1)) x u s') ∧ Below L w w' ∧ MC W x w w'
theorem patD_one {d : WD} {c : Nat} {text : ByteArray} (h : d.m.oneCell' = true ∧ d.s.oneCell' = true ∧ d.t.oneCell' = true ∧ d.up.oneCell' = true) : (wrow (patD d c text)).all (·.oneCell') = true := wrow_one h
set_option maxRecDepth 100000 in
set_option maxHeartbeats 1600000 in
theorem chg1 {w : World} {W L : Nat} {d : WD} {x : WX} {u : Nat → Bool} {s : MS} (h : WO w W d x u s) (hL : WLo L W x) (b : Blow) (hb : b.Ok) (hc : d.ctr < 1000) (hG : genV s.v 0 64 < 4294967295) :
    Calls Tryd.prog 13 #[.pointer (some ⟨W, 0, none⟩), .int .i64 1, .agg (blA b)] w fun e w' => b.Q1 L W d x u s w e w' := by
  have H := Lib.hid h
  have HL := Lib.hid hL
  have OB := Lib.hid (show w.heap[W]? = some (.cells (wrow d) 40) from h.b.obj)
  have ON := Lib.hid (wrow_one h.one)
  have hW := h.b.obj.lt
  have hz := zero40
  clear h hL
  have F0 := Lib.hid (chf_start H.out b)
  have N8 := Lib.hid (hp_new ((w.alloc (.cells (blA b) 24)).alloc (.cells zrow 40)) (.cells zrow 40))
  have OB2 : Hid (((w.alloc (.cells (blA b) 24)).alloc (.cells zrow 40)).heap[W]? = some (.cells (wrow d) 40)) := Lib.hid (hp_old (hp_old OB.out _) _)
  have hs2 : Hid (((w.alloc (.cells (blA b) 24)).alloc (.cells zrow 40)).heap.size = w.heap.size + 1 + 1) := Lib.hid (by simp)
  go_enter Tryd.func13, Tryd.ntmps13
  go_upto_region 1 with (fail)
  generalize (w.alloc (.cells (blA b) 24)).alloc (.cells zrow 40) = w2 at *
  have hW2 : W < w2.heap.size := by have := hs2.out; omega
  go_upto_region 8 with (first | (refine wpList_load_row rfl 40 _ rfl W rfl 40 _ _ _ OB2.out Tryd.underlying40 rfl (info40 d) ?_) | (refine wpList_store_row rfl 40 _ _ rfl w2.heap.size (wrow d) rfl rfl 40 _ N8.out (info40 d) (by rw [zrow_size, wrow_size]) ON.out ?_))
  generalize (w2.alloc (.cells zrow 40)).setRow w2.heap.size (wrow d) = w3 at *
  obtain ⟨c, ec⟩ : ∃ c, c = d.ctr + 1 := ⟨_, rfl⟩
  have wc : IntKind.u32.wrap ((d.ctr : Int) + 1) = (c : Int) := by rw [IntKind.wrap_u32]; omega
  have EC := Lib.hid ec
  clear ec
  have a46 : w3.cell? ⟨W, 46, none⟩ = some (.int .u32 d.ctr) := F0.out.o.cs.2.2.2.2.2.2.2.2
  have az : ∀ j, w3.frozen? ⟨W, j, none⟩ = false := fun j => F0.out.o.b.obj.free j
  have hW3 := F0.out.o.b.obj.lt
  have b46 : w3.cell? ⟨w2.heap.size, 46, none⟩ = some (.int .u32 d.ctr) := F0.out.b8.cell 46 (by omega)
  have bz : ∀ j, w3.frozen? ⟨w2.heap.size, j, none⟩ = false := fun j => F0.out.b8.free j
  have hB3 := F0.out.b8.lt
  have ne1 : W ≠ w2.heap.size := by omega
  have ne2 : w2.heap.size ≠ W := by omega
  have F8 : Hid (ChF w W (ctrD d c) (ctrD d c) x u s b w.heap.size (w.heap.size + 1) w2.heap.size ((w3.setCell ⟨W, 46, none⟩ (.int .u32 (c : Int))).setCell ⟨w2.heap.size, 46, none⟩ (.int .u32 (c : Int)))) := Lib.hid (by
    have f := F0.out.putW H.out (d1 := ctrD d c) (mod_at (Mod.refl _ _) (.int .u32 (c : Int))) (F0.out.o.b.obj.set 46 _ (fun j hj => wcell_ctr d _ j hj)) ⟨rfl, rfl, rfl, rfl, rfl⟩
    exact f.put8 H.out (mod_at (Mod.refl _ _) _) (f.b8.set 46 _ (fun j hj => wcell_ctr d _ j hj)))
  go_upto_region 10 with (fail)
  generalize (w3.setCell ⟨W, 46, none⟩ (.int .u32 (c : Int))).setCell ⟨w2.heap.size, 46, none⟩ (.int .u32 (c : Int)) = w9 at *
  have e46 : w9.cell? ⟨W, 46, none⟩ = some (.int .u32 (c : Int)) := F8.out.o.cs.2.2.2.2.2.2.2.2
  have e4 : w9.cell? ⟨w.heap.size, 4, none⟩ = some (.string b.text) := cell_of F8.out.b5 rfl
  have c5 : w9.cell? ⟨w2.heap.size, 5, none⟩ = some (.string d.text) := F8.out.b8.cell 5 (by omega)
  have c6 : w9.cell? ⟨w2.heap.size, 6, none⟩ = some (.int .u32 d.id) := F8.out.b8.cell 6 (by omega)
  have cz : ∀ j, w9.frozen? ⟨w2.heap.size, j, none⟩ = false := fun j => F8.out.b8.free j
  have hW9 := F8.out.o.b.obj.lt
  have h59 := lt_of_obj F8.out.b5
  have h89 := F8.out.b8.lt
  have ne3 : w.heap.size ≠ w2.heap.size := by have := hs2.out; omega
  have ne4 : w2.heap.size ≠ w.heap.size := Ne.symm ne3
  have FB : Hid (ChF w W (ctrD d c) (patD d c b.text) x u s b w.heap.size (w.heap.size + 1) w2.heap.size ((w9.setCell ⟨w2.heap.size, 6, none⟩ (.int .u32 (c : Int))).setCell ⟨w2.heap.size, 5, none⟩ (.string b.text)).drew) := Lib.hid (by
    have f := F8.out.put8 H.out (dn' := { ctrD d c with id := c }) (mod_at (Mod.refl _ _) (.int .u32 (c : Int))) (F8.out.b8.set 6 _ (fun j hj => wcell_id _ _ j))
    have g := f.put8 H.out (dn' := patD d c b.text) (mod_at (Mod.refl _ _) (.string b.text)) (f.b8.set 5 _ (fun j hj => wcell_text _ _ j))
    exact g.below (Below.refl _ _).drew)
  clear a46 az b46 bz hB3 hW3 OB OB2 N8 F0 hz
  go_region_held3 (fun w' => w'.cell? ⟨W, 46, none⟩ = some (.int .u32 (c : Int)) ∧ w'.cell? ⟨w.heap.size, 4, none⟩ = some (.string b.text)) (simp [*, World.cell?_setCell_other]) ((fail))
  go_upto_region 11 with (fail)
  generalize ((w9.setCell ⟨w2.heap.size, 6, none⟩ (.int .u32 (c : Int))).setCell ⟨w2.heap.size, 5, none⟩ (.string b.text)).drew = w11 at *
  clear F8 e46 e4 c5 c6 cz hW9 h59 h89
  obtain ⟨nx, s1⟩ := (FB.out.o.below (Below.refl w11.heap.size w11).drew).s1
  have aW := H.out.b.apW; have aW' := H.out.apW
  have LDA := Lib.hid (load_any s1 hG c b.text hb.text (by have := EC.out; omega) (FB.out.o.below (Below.refl w11.heap.size w11).drew).cs.2.1 ⟨aW.1, aW.2.1, aW'.1⟩)
  have FIN : Hid (∀ (w7 : World) (s' : MS) (er : Nat), (s.fuse = -1 → er = 0) → s.Go (ldA s.v 0 64 c b.text) s' → ChF w W (ctrD d c) (patD d c b.text) x u s' b w.heap.size (w.heap.size + 1) w2.heap.size w7 → b.Q1 L W d x u s w (.returned (.tuple #[.agg (wrow (patD d c b.text)), .int .i64 er])) (w7.setRow (w.heap.size + 1) (wrow (patD d c b.text))) ∧ (w7.setRow (w.heap.size + 1) (wrow (patD d c b.text))).heap[w.heap.size]? = some (.cells (blA b) 24) ∧ WC (w7.setRow (w.heap.size + 1) (wrow (patD d c b.text))) w2.heap.size (patD d c b.text) ∧ WC (w7.setRow (w.heap.size + 1) (wrow (patD d c b.text))) W (ctrD d c)) := Lib.hid (fun w7 s' er h1 h2 f => by
    obtain ⟨g1, g2, g3⟩ := f.fin H.out
    have g := f.ge
    refine ⟨⟨er, by rw [EC.out], h1, ⟨s', by rw [← EC.out]; exact h2, by rw [← EC.out]; exact g2⟩, g3 L HL.out⟩, ?_, ?_, g2.b.obj⟩
    · rw [setRow_other _ _ _ _ (by omega)]; exact f.b5
    · unfold WC; rw [setRow_other _ _ _ _ (by omega)]; exact f.b8)
  have cc46 : ∀ w' : World, WC w' W (ctrD d c) → w'.cell? ⟨W, 46, none⟩ = some (.int .u32 c) := fun w' h => h.cell 46 (by omega)
  refine wp_region_held_drew (S := fun w' => WC w' W (ctrD d c) ∧ WC w' w2.heap.size (patD d c b.text) ∧ w'.heap[w.heap.size]? = some (.cells (blA b) 24)) (by kernel_rfl) ⟨hp_drew FB.out.o.b.obj, hp_drew FB.out.b8, hp_drew FB.out.b5⟩ (fun hHeld => ?_)
  refine wpAnyH_take (i := 0) rfl (by kernel_rfl) (by kernel_rfl) (by kernel_rfl) (fun _ _ _ h => h) (yieldsIf_load_mid (by rfl) _ _ rfl w2.heap.size 0 rfl _ _ (fun w' h => h.2.1.range) Tryd.underlying40 rfl (info40l _)) (by assumption) ?_
  try simp only [Array.toArray_toList]
  try simp only [Act.put, List.getElem_toArray, List.getElem_cons_zero, List.getElem_cons_succ, List.setIfInBounds_toArray, List.set_cons_zero, List.set_cons_succ]
  refine wpAnyH_take (i := 1) (v := Value.pointer (some ⟨W, 0, none⟩)) rfl (by kernel_rfl) (by kernel_rfl) (by kernel_rfl) (fun _ _ _ h => h) (Or.inl ⟨by rfl, ?_⟩) (by assumption) ?_
  · intro w' hSw; go_simp
  try simp only [Act.put, List.getElem_toArray, List.getElem_cons_zero, List.getElem_cons_succ, List.setIfInBounds_toArray, List.set_cons_zero, List.set_cons_succ]
  refine wpAnyH_take (i := 2) (v := Value.pointer (some ⟨W, 0, none⟩)) rfl (by kernel_rfl) (by kernel_rfl) (by kernel_rfl) (fun _ _ _ h => h) (Or.inl ⟨by rfl, ?_⟩) (by assumption) ?_
  · intro w' hSw; go_simp
  try simp only [Act.put, List.getElem_toArray, List.getElem_cons_zero, List.getElem_cons_succ, List.setIfInBounds_toArray, List.set_cons_zero, List.set_cons_succ]
  refine wpAnyH_take (i := 3) (v := Value.pointer (some ⟨W, 0, none⟩)) rfl (by kernel_rfl) (by kernel_rfl) (by kernel_rfl) (fun _ _ _ h => h) (Or.inl ⟨by rfl, ?_⟩) (by assumption) ?_
  · intro w' hSw; go_simp
  try simp only [Act.put, List.getElem_toArray, List.getElem_cons_zero, List.getElem_cons_succ, List.setIfInBounds_toArray, List.set_cons_zero, List.set_cons_succ]
  refine wpAnyH_take (i := 4) (v := Value.pointer (some ⟨W, 46, none⟩)) rfl (by kernel_rfl) (by kernel_rfl) (by kernel_rfl) (fun _ _ _ h => h) (Or.inl ⟨by rfl, ?_⟩) (by assumption) ?_
  · intro w' hSw; go_simp
  try simp only [Act.put, List.getElem_toArray, List.getElem_cons_zero, List.getElem_cons_succ, List.setIfInBounds_toArray, List.set_cons_zero, List.set_cons_succ]
  refine wpAnyH_take (i := 5) (v := Value.int .u32 c) rfl (by kernel_rfl) (by kernel_rfl) (by kernel_rfl) (fun _ _ _ h => h) (Or.inl ⟨by rfl, ?_⟩) (by assumption) ?_
  · intro w' hSw; have cc := cc46 w' hSw.1; go_simp
  try simp only [Act.put, List.getElem_toArray, List.getElem_cons_zero, List.getElem_cons_succ, List.setIfInBounds_toArray, List.set_cons_zero, List.set_cons_succ]
  refine wpAnyH_take (i := 6) (v := Value.pointer (some ⟨w.heap.size, 4, none⟩)) rfl (by kernel_rfl) (by kernel_rfl) (by kernel_rfl) (fun _ _ _ h => h) (Or.inl ⟨by rfl, ?_⟩) (by assumption) ?_
  · intro w' hSw; go_simp
  try simp only [Act.put, List.getElem_toArray, List.getElem_cons_zero, List.getElem_cons_succ, List.setIfInBounds_toArray, List.set_cons_zero, List.set_cons_succ]
  refine wpAnyH_take (i := 7) (v := Value.string b.text) rfl (by kernel_rfl) (by kernel_rfl) (by kernel_rfl) (fun _ _ _ h => h) (Or.inl ⟨by rfl, ?_⟩) (by assumption) ?_
  · intro w' hSw; have cc : w'.cell? ⟨w.heap.size, 4, none⟩ = some (.string b.text) := cell_of hSw.2.2 rfl; go_simp
  try simp only [Act.put, List.getElem_toArray, List.getElem_cons_zero, List.getElem_cons_succ, List.setIfInBounds_toArray, List.set_cons_zero, List.set_cons_succ]
  refine wpAnyH_ready (rs := [8]) (by kernel_rfl) (by simp) ?_
  refine AllReadyH.cons rfl ?_ ?_
  rotate_left 1
  exact AllReadyH.nil
  intro K hK
  simp only [List.getElem_toArray, List.getElem_cons_zero, List.getElem_cons_succ]
  go_simp
  refine LDA.out.mono ?_
  rintro e w6 ⟨er, rfl, hf6, s6, nx6, sm6, hn6, go6, mb6⟩
  have F6 := Lib.hid (FB.out.mb1 H.out ((MK.below (Below.refl w11.heap.size w11).drew).mb.trans mb6) sm6)
  obtain ⟨q1, q2⟩ := FIN.out w6 _ er hf6 go6 F6.out
  have q1' := Lib.hid q1
  have f1 := Lib.hid (show _ ∧ _ ∧ _ from ⟨q2.2.2, q2.2.1, q2.1⟩)
  clear hf6 go6 mb6 sm6 hn6 q1 q2
  refine hK.out _ _ ⟨F6.out.o.b.obj, F6.out.b8, F6.out.b5⟩ (fun hHeld => ?_)
  clear hK K
  try simp only [Act.put, List.getElem_toArray, List.getElem_cons_zero, List.getElem_cons_succ, List.setIfInBounds_toArray, List.set_cons_zero, List.set_cons_succ]
  refine held_store_row 9 (by kernel_rfl) 40 (Operand.tmp 6) (Operand.tmp 64) ?_ (w.heap.size + 1) (wrow (patD d c b.text)) rfl rfl 40 _ F6.out.b6 (info40 _) (by rw [zrow_size, wrow_size]) (patD_one H.out.one) f1.out ?_
  · exact ⟨_, by rfl, by rfl, by rfl, by rfl⟩
  refine held_assign 10 (by kernel_rfl) (Operand.tmp 72) (some 7) ?_ (.int .i64 er) rfl f1.out ?_
  · exact ⟨_, by rfl, by rfl, by rfl, by rfl⟩
  refine wpAnyH_done (by kernel_rfl) ?_ _
  try simp only [Act.put, List.getElem_toArray, List.getElem_cons_zero, List.getElem_cons_succ, List.setIfInBounds_toArray, List.set_cons_zero, List.set_cons_succ]
  have QR := F6.out.fin H.out
  go_wp2_with (fail)
  refine bodyPost_ret (results_row_tmp rfl _ _ _ (w.heap.size + 1) _ _ rfl (.int .i64 er) rfl QR.1.range Tryd.underlying40 rfl (info40l _)) rfl ?_
  exact q1'.out
end Go.Proofs.YtdebfniifijjoaaDoor
