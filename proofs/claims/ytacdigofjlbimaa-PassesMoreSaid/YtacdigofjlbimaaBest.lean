/-
  The walk of Best. Conditions: none beyond a slice of windows.
-/
import Derived.Test.YtacdigofjlbimaaAft
import Derived.Deep.RegionWith
import Derived.Deep.AppendLies
import Derived.Deep.RegionLaw
namespace Go.Proofs.Ytacdigofjlbimaa
open Go.RowKit Kit Go.Maps
set_option linter.unusedVariables false
theorem info3 : (Try.prog.info? 3).map (fun i => (i.zero, i.size, i.bytes)) = some (some (.int .i64 0), 1, 8) := by kernel_rfl
def ixs (P : List Nat) : List Value := P.map (fun i : Nat => Value.int .i64 (i : Int))
structure BI (w : World) (p mb ab gb : Nat) (a : Option Addr) (n c : Nat) (L : List Wn) (gap : Int) (last : Option Nat) (k : Nat) (bud : Int) (g : Int × Int) (wr : World) : Prop where
  rp : RP wr p mb a n c L gap
  bl : Below w.heap.size w wr
  ac : wr.heap[ab]? = some (.cells #[.int .i64 (lz last), .int .i64 k, .int .i64 bud] 55)
  gc : wr.heap[gb]? = some (.cells #[.int .i64 g.1, .int .i64 g.2] 57)
  lo : w.heap.size ≤ mb ∧ w.heap.size ≤ ab ∧ w.heap.size ≤ gb
section
variable {w wr wr' : World} {p mb ab gb n c k : Nat} {a : Option Addr} {L : List Wn} {gap bud : Int} {last : Option Nat} {g : Int × Int}
theorem RP.ne {b : Nat} {cs : Array Value} {t : TypeId} {fr : Nat × Nat} (h : RP w p mb a n c L gap) (hb : w.heap[b]? = some (.cells cs t fr)) : b ≠ mb := by
  obtain ⟨es, cl, hm⟩ := h.me.map
  intro e
  rw [e, hm] at hb
  cases hb
theorem BI.below (h : BI w p mb ab gb a n c L gap last k bud g wr) (hb : Below wr.heap.size wr wr') : BI w p mb ab gb a n c L gap last k bud g wr' :=
  ⟨h.rp.below hb, bl_step h.bl hb, below_keeps hb h.ac (lt_of_obj h.ac), below_keeps hb h.gc (lt_of_obj h.gc), h.lo⟩
theorem BI.mod (h : BI w p mb ab gb a n c L gap last k bud g wr) (hm : Memo wr' mb (wl L) n gap) (hb : Mod (fun x => x = mb) wr wr') : BI w p mb ab gb a n c L gap last k bud g wr' :=
  ⟨h.rp.mod hm hb, bl_mod h.bl hb h.lo.1, hb.keeps h.ac (h.rp.ne h.ac), hb.keeps h.gc (h.rp.ne h.gc), h.lo⟩
theorem own_map {v : Value} {m : Nat} {xs : List Value} {base : Nat} (h : wr.ownsRow base 3 1 v m xs) (hr : RP wr p mb a n c L gap) (hb : Mod (fun x => x = mb) wr wr') : wr'.ownsRow base 3 1 v m xs := by
  refine own_mod h hb (fun j hj e => ?_)
  rcases h.2 with ⟨rfl, _⟩ | ⟨gg, cap, cur, rfl, _, hg, _⟩
  · cases hj
  · have : gg = j := Option.some.inj hj
    exact hr.ne hg (this.trans e)
theorem own_not_map {v : Value} {m' : Nat} {xs : List Value} {base : Nat} (h : wr.ownsRow base 3 1 v m' xs) (hr : RP wr p mb a n c L gap) : some mb ≠ v.ownBlock := by
  intro e
  rcases h.2 with ⟨rfl, _⟩ | ⟨gg, cap, cur, rfl, _, hg, _⟩
  · cases e
  · have : mb = gg := Option.some.inj e
    exact hr.ne hg this.symm
theorem BI.grown {v : Value} {m' : Nat} {xs : List Value} (h : BI w p mb ab gb a n c L gap last k bud g wr) (HW : WS w a n c L) (ho : wr.ownsRow w.heap.size 3 1 v m' xs) (hg : wr.grownBy wr' v.ownBlock) : BI w p mb ab gb a n c L gap last k bud g wr' := by
  have hbl : Below w.heap.size w wr' := h.bl.grown hg h.bl.size (fun j e => (ho.lt j e).1)
  obtain ⟨m, D, Ks, ⟨es, cl, h1, h2⟩, hi⟩ := h.rp.me
  refine ⟨⟨HW.below hbl, ?_, ⟨m, D, Ks, ⟨es, cl, ?_, h2⟩, hi⟩⟩, hbl, ?_, ?_, h.lo⟩
  · exact (hg.block p (lt_of_obj h.rp.po) (own_ne_obj ho h.rp.po (by decide)).symm).trans h.rp.po
  · exact (hg.block mb (lt_of_obj h1) (own_not_map ho h.rp)).trans h1
  · exact (hg.block ab (lt_of_obj h.ac) (own_ne_obj ho h.ac (by decide)).symm).trans h.ac
  · exact (hg.block gb (lt_of_obj h.gc) (own_ne_obj ho h.gc (by decide)).symm).trans h.gc
theorem ne_types {b b' : Nat} {cs cs' : Array Value} {t t' : TypeId} {fr fr' : Nat × Nat} (h : wr.heap[b]? = some (.cells cs t fr)) (h' : wr.heap[b']? = some (.cells cs' t' fr')) (ht : t ≠ t') : b ≠ b' := by
  intro e
  subst e
  rw [h] at h'
  simp only [Option.some.injEq, Obj.cells.injEq] at h'
  exact ht h'.2.1
theorem BI.setAt (h : BI w p mb ab gb a n c L gap last k bud g wr) (HW : WS w a n c L) (j k' : Nat) (BD : Int) : BI w p mb ab gb a n c L gap (some j) k' BD g (((wr.setCell ⟨ab, 0, none⟩ (.int .i64 j)).setCell ⟨ab, 1, none⟩ (.int .i64 k')).setCell ⟨ab, 2, none⟩ (.int .i64 BD)) := by
  have hbl : Below w.heap.size w (((wr.setCell ⟨ab, 0, none⟩ (.int .i64 j)).setCell ⟨ab, 1, none⟩ (.int .i64 k')).setCell ⟨ab, 2, none⟩ (.int .i64 BD)) := bl_set (bl_set (bl_set h.bl h.lo.2.1 _) h.lo.2.1 _) h.lo.2.1 _
  have hm : mb ≠ ab := (h.rp.ne h.ac).symm
  have hpa : p ≠ ab := ne_types h.rp.po h.ac (by decide)
  have hga : gb ≠ ab := ne_types h.gc h.ac (by decide)
  refine ⟨⟨HW.below hbl, hp_set_ne (hp_set_ne (hp_set_ne h.rp.po hpa _) hpa _) hpa _, ((h.rp.me.setNe hm).setNe hm).setNe hm⟩, hbl, hp_set (hp_set (hp_set h.ac _) _) _, hp_set_ne (hp_set_ne (hp_set_ne h.gc hga _) hga _) hga _, h.lo⟩
theorem own_setAt {v : Value} {m' : Nat} {xs : List Value} (ho : wr.ownsRow w.heap.size 3 1 v m' xs) (h : BI w p mb ab gb a n c L gap last k bud g wr) (x y z : Value) : (((wr.setCell ⟨ab, 0, none⟩ x).setCell ⟨ab, 1, none⟩ y).setCell ⟨ab, 2, none⟩ z).ownsRow w.heap.size 3 1 v m' xs := by
  have m : Mod (fun b => b = ab) wr (((wr.setCell ⟨ab, 0, none⟩ x).setCell ⟨ab, 1, none⟩ y).setCell ⟨ab, 2, none⟩ z) := mod_at (mod_at (mod_at (Mod.refl _ wr) _) _) _
  refine own_mod ho m (fun j hj e => ?_)
  rw [e] at hj
  exact own_ne_obj ho h.ac (by decide) hj
theorem BI.newG {g' : Int × Int} (h : BI w p mb ab gb a n c L gap last k bud g wr) (hm : Memo wr' mb (wl L) n gap) (hb : Mod (fun x => x = mb) (wr.alloc (.cells #[.int .i64 g.1, .int .i64 g.2] 57)) wr') : BI w p mb ab wr.heap.size a n c L gap last k bud g' ((wr'.setCell ⟨wr.heap.size, 0, none⟩ (.int .i64 g'.1)).setCell ⟨wr.heap.size, 1, none⟩ (.int .i64 g'.2)) := by
  have h1 : BI w p mb ab wr.heap.size a n c L gap last k bud g (wr.alloc (.cells #[.int .i64 g.1, .int .i64 g.2] 57)) := by
    have := h.below (bl_alloc (Below.refl _ _) (.cells #[.int .i64 g.1, .int .i64 g.2] 57))
    exact ⟨this.rp, this.bl, this.ac, hp_new _ _, this.lo.1, this.lo.2.1, h.bl.size⟩
  have h2 := h1.mod hm hb
  have h3 := h2.lo.2.2
  have ne1 : mb ≠ wr.heap.size := (h2.rp.ne h2.gc).symm
  have ne2 : p ≠ wr.heap.size := ne_types h2.rp.po h2.gc (by decide)
  have ne3 : ab ≠ wr.heap.size := ne_types h2.ac h2.gc (by decide)
  have hk : Keep (wr.alloc (.cells #[.int .i64 g.1, .int .i64 g.2] 57)) ((wr'.setCell ⟨wr.heap.size, 0, none⟩ (.int .i64 g'.1)).setCell ⟨wr.heap.size, 1, none⟩ (.int .i64 g'.2)) ∨ True := .inr trivial
  refine ⟨⟨?_, hp_set_ne (hp_set_ne h2.rp.po ne2 _) ne2 _, (h2.rp.me.setNe ne1).setNe ne1⟩, bl_set (bl_set h2.bl h3 _) h3 _, hp_set_ne (hp_set_ne h2.ac ne3 _) ne3 _, hp_set (hp_set h2.gc _) _, h2.lo⟩
  have hw : WS wr' a n c L := h2.rp.ws
  refine ⟨hw.1, hw.2.1, hw.2.2.1, fun i hi => ?_⟩
  obtain ⟨bb, off, rfl, hl, hc⟩ := h.rp.ws.2.2.2 i hi
  obtain ⟨b2, o2, e2, hl2, hc2⟩ := hw.2.2.2 i hi
  simp only [Option.some.injEq, Addr.mk.injEq, and_true] at e2
  obtain ⟨rfl, rfl⟩ := e2
  have hne : bb ≠ wr.heap.size := by omega
  have mm : Mod (fun x => x = wr.heap.size) wr' ((wr'.setCell ⟨wr.heap.size, 0, none⟩ (.int .i64 g'.1)).setCell ⟨wr.heap.size, 1, none⟩ (.int .i64 g'.2)) := mod_at (mod_at (Mod.refl _ wr') _) _
  have cc := fun o => mm.cell (o := o) hl2 hne
  refine ⟨bb, off, rfl, by simpa [World.setCell] using hl2, ?_⟩
  exact ⟨(cc _).trans hc2.1, (cc _).trans hc2.2.1, (cc _).trans hc2.2.2.1, (cc _).trans hc2.2.2.2.1, (cc _).trans hc2.2.2.2.2⟩
theorem own_newG {v : Value} {m' : Nat} {xs : List Value} {x y : Value} {o : Obj} (ho : wr.ownsRow w.heap.size 3 1 v m' xs) (h : BI w p mb ab gb a n c L gap last k bud g wr) (hb : Mod (fun x => x = mb) (wr.alloc o) wr') : ((wr'.setCell ⟨wr.heap.size, 0, none⟩ x).setCell ⟨wr.heap.size, 1, none⟩ y).ownsRow w.heap.size 3 1 v m' xs := by
  have h1 := own_map (ho.alloc o) (h.rp.below (bl_alloc (Below.refl _ _) o)) hb
  have mm : Mod (fun x => x = wr.heap.size) wr' ((wr'.setCell ⟨wr.heap.size, 0, none⟩ x).setCell ⟨wr.heap.size, 1, none⟩ y) := mod_at (mod_at (Mod.refl _ wr') _) _
  refine own_mod h1 mm (fun j hj e => ?_)
  have := (ho.lt j hj).2
  omega
theorem allc_succ (W : Nat → Wn) (i : Nat) : allc W (i + 1) = allc W i + (W i).co := by
  unfold allc
  rw [List.range_succ, cost_app]
  simp [cost]
theorem allc_bound {W : Nat → Wn} {m : Nat} (hv : vL W m) : ∀ i, i ≤ m → 0 ≤ allc W i ∧ allc W i ≤ i * 1000
  | 0, _ => by simp [allc, cost]
  | i + 1, h => by
    have ih := allc_bound hv i (by omega)
    have := hv i (by omega)
    unfold vW at this
    rw [allc_succ]
    omega
end
def BestQ (L : List Wn) (g b m : Int) (w : World) (e : Ending) (w' : World) : Prop :=
  (ckE L g b m = 0 ∧ ∃ v, e = .returned (.tuple #[v, .int .i64 0]) ∧ w'.ownsRow w.heap.size 3 1 v (bestp (wl L) L.length g b m).length (ixs (bestp (wl L) L.length g b m)) ∧ Below w.heap.size w w') ∨
  (ckE L g b m ≠ 0 ∧ e = .returned (.tuple #[.slice none 0 0, .int .i64 (ckE L g b m)]) ∧ Below w.heap.size w w')
set_option maxHeartbeats 3200000 in
theorem best_bad (L : List Wn) (g b m : Int) (a : Option Addr) (n c : Nat) (w : World) (hW : WS w a n c L) (hE : ckE L g b m ≠ 0) :
    Calls Try.prog 11 #[.slice a n c, .agg #[.int .i64 g, .int .i64 b, .int .i64 m]] w fun e w' => BestQ L g b m w e w' := by
  have C := Lib.hid (fun W h => check_any L g b m a n c W h)
  have HW := Lib.hid hW
  have F : Hid (∀ W, Below w.heap.size w W → BestQ L g b m w (.returned (.tuple #[.slice none 0 0, .int .i64 (ckE L g b m)])) W) := Lib.hid (fun W h => .inr ⟨hE, rfl, h⟩)
  generalize ckE L g b m = E at hE C F
  have hb : (E != 0) = true := by simpa using hE
  clear hW hE
  go_enter Try.func11, Try.ntmps11
  go_wp2_with (fail)
  refine (C.out _ (HW.out.below (bl_alloc (Below.refl _ _) _))).mono ?_
  rintro e w1 ⟨rfl, b1⟩
  go_wp2_with (fail)
  go_ret2
  exact F.out _ (bl_go (bl_alloc (Below.refl _ _) _) b1 (by simp))
set_option maxHeartbeats 3200000 in
theorem best_good (L : List Wn) (g b m : Int) (a : Option Addr) (n c : Nat) (w : World) (hW : WS w a n c L) (hE : ckE L g b m = 0) :
    Calls Try.prog 11 #[.slice a n c, .agg #[.int .i64 g, .int .i64 b, .int .i64 m]] w fun e w' => BestQ L g b m w e w' := by
  have hck : ¬ 40 < n ∧ vL (wl L) n ∧ vR g b m := by
    rw [hW.1]
    unfold ckE at hE
    split at hE
    · cases hE
    · split at hE
      · rename_i h1 h2; exact ⟨h1, h2⟩
      · cases hE
  obtain ⟨h40, hv, hr⟩ := hck
  have hn := hW.1
  have C := Lib.hid (fun W h => check_any L g b m a n c W h)
  have HW := Lib.hid hW
  have F : Hid (∀ W v, W.ownsRow w.heap.size 3 1 v (bestp (wl L) n g b m).length (ixs (bestp (wl L) n g b m)) → Below w.heap.size w W → BestQ L g b m w (.returned (.tuple #[v, .int .i64 0])) W) := Lib.hid (fun W v h1 h2 => .inl ⟨hE, v, rfl, by rw [← hn]; exact h1, h2⟩)
  rw [hE] at C
  obtain ⟨Q0, hQ0⟩ : ∃ Q0, Q0 = BestQ L g b m w := ⟨_, rfl⟩
  rw [← hQ0] at F ⊢
  have HV := Lib.hid hv
  have hcap := hW.2.1
  have hcap2 := hW.2.2.1
  unfold maxLen at hcap2
  have hr' := hr
  unfold vR at hr'
  obtain ⟨r1, r2, r3, r4, r5, r6⟩ := hr'
  have gmn := fun w x y => run_min_mn Try.prog w #[3, 3] 3 .i64 .i64 x y
  have gmn2 := fun w x y => run_min_mn Try.prog w #[2, 2] 2 .i64 .i64 x y
  have hmm := @run_makeMap Try.prog
  obtain ⟨ii, hii, hz0, hz1, hz2⟩ := info_parts info3
  clear hW hE hn hv hQ0
  go_enter Try.func11, Try.ntmps11
  go_wp2_with (fail)
  refine (C.out _ (HW.out.below (bl_alloc (Below.refl _ _) _))).mono ?_
  rintro e w1 ⟨rfl, b1⟩
  have B1 : Hid (Below w.heap.size w w1 ∧ w1.heap[w.heap.size]? = some (.cells #[.int .i64 g, .int .i64 b, .int .i64 m] 24)) := Lib.hid ⟨bl_go (bl_alloc (Below.refl _ _) _) b1 (by simp), below_keeps b1 (hp_new w _) (by simp)⟩
  clear C b1
  go_wp2_with (fail)
  go_loopw [7, 9, 25] (fun s _ i wr => ∃ k : Nat, k ≤ n ∧ i = .int .i64 k ∧ s = .int .i64 (allc (wl L) k) ∧ Below w.heap.size w wr ∧ wr.heap[w.heap.size]? = some (.cells #[.int .i64 g, .int .i64 b, .int .i64 m] 24)) (fun _ _ i _ => n - (intOf i).toNat)
  case atStart => exact ⟨0, by omega, rfl, by simp [allc, cost], B1.out⟩
  case round =>
    clear B1
    obtain ⟨k, hk, rfl, rfl, hS, hO⟩ := hrel
    have HS := Lib.hid hS; have HO := Lib.hid hO
    clear hS hO
    by_cases hlt : k < n
    · obtain ⟨bb, off, rfl, hbl, c0, c1, c2, c3, c4⟩ := (HW.out.below HS.out).2.2.2 k hlt
      have hb1 := allc_bound HV.out (k + 1) (by omega)
      have Z := Lib.hid (allc_succ (wl L) k)
      rw [allc_succ] at hb1
      generalize allc (wl L) k = A at hb1 Z ⊢
      generalize (wl L k).co = co at hb1 c4 Z
      generalize (wl L k).fr = x0 at c0
      generalize (wl L k).to = x1 at c1
      generalize (wl L k).st = x2 at c2
      generalize (wl L k).va = x3 at c3
      have wp1 := IntWalk.i64_in (A + co) (by omega)
      clear hb1
      go_wp2_with (fail)
      go_roundw
      case rel => exact ⟨k + 1, by omega, by simp, by rw [Z.out], bl_alloc HS.out _, hp_old HO.out _⟩
      case measure => simp [intOf]; omega
    · have hkn : n = k := by omega
      subst hkn
      have r0 : wr.cell? ⟨w.heap.size, 0, none⟩ = some (.int .i64 g) := cell_of HO.out rfl
      have r1' : wr.cell? ⟨w.heap.size, 1, none⟩ = some (.int .i64 b) := cell_of HO.out rfl
      have r2' : wr.cell? ⟨w.heap.size, 2, none⟩ = some (.int .i64 m) := cell_of HO.out rfl
      have rl := lt_of_obj HO.out
      obtain ⟨K0, hK0⟩ : ∃ K0 : Nat, Hid (K0 = min m.toNat n) := ⟨_, Lib.hid rfl⟩
      obtain ⟨D0, hD0⟩ : ∃ D0 : Int, Hid (D0 = min b (allc (wl L) n)) := ⟨_, Lib.hid rfl⟩
      have eK : mn m (n : Int) = (K0 : Int) := by rw [hK0.out]; unfold mn; omega
      have eD : mn b (allc (wl L) n) = D0 := hD0.out.symm
      have hKb : K0 ≤ 40 := by rw [hK0.out]; omega
      have hDb : 0 ≤ D0 ∧ D0 ≤ 1000 := by have := (allc_bound HV.out n (Nat.le_refl _)).1; rw [hD0.out]; omega
      have HBP : Hid (bestp (wl L) n g b m = plan (wl L) n g K0 none D0) := Lib.hid (by rw [hK0.out, hD0.out]; rfl)
      obtain ⟨W4, hW4⟩ : ∃ W4, W4 = ((wr.alloc (.map #[] 0)).alloc (.cells #[.slice a n c, .int .i64 g, .map (some wr.heap.size)] 53)).alloc (.cells #[.int .i64 (-1), .int .i64 K0, .int .i64 D0] 55) := ⟨_, rfl⟩
      have b4 : Below wr.heap.size wr W4 := by rw [hW4]; exact bl_alloc (bl_alloc (bl_alloc (Below.refl _ _) _) _) _
      have pl4 : W4.heap[wr.heap.size + 1]? = some (.cells #[.slice a n c, .int .i64 g, .map (some wr.heap.size)] 53) := by
        rw [hW4]; have := hp_old (hp_new (wr.alloc (.map #[] 0)) (.cells #[.slice a n c, .int .i64 g, .map (some wr.heap.size)] 53)) (.cells #[.int .i64 (-1), .int .i64 K0, .int .i64 D0] 55); rw [World.size_alloc] at this; exact this
      have at4 : W4.heap[wr.heap.size + 1 + 1]? = some (.cells #[.int .i64 (-1), .int .i64 K0, .int .i64 D0] 55) := by
        rw [hW4]; have := hp_new ((wr.alloc (.map #[] 0)).alloc (.cells #[.slice a n c, .int .i64 g, .map (some wr.heap.size)] 53)) (.cells #[.int .i64 (-1), .int .i64 K0, .int .i64 D0] 55); rw [World.size_alloc, World.size_alloc] at this; exact this
      have RP4 : RP W4 (wr.heap.size + 1) wr.heap.size a n c L g := ⟨HW.out.below (bl_step HS.out b4), pl4, by
        exact (memo_new wr (wl L) n g).below (by rw [hW4]; exact bl_alloc (bl_alloc (Below.refl _ _) _) _)⟩
      have RA := Lib.hid (rest_any L g a n c wr.heap.size (wr.heap.size + 1) HV.out ⟨r1, r2⟩ (by omega))
      have R4 := Lib.hid (RA.out K0 hKb none D0 W4 RP4 hDb (by simp))
      have HW4 := Lib.hid hW4
      have hws := HS.out.size
      clear hW4 hlt
      go_wp2_with (fail)
      rw [← HW4.out]
      refine R4.out.mono ?_
      rintro e w5 ⟨rfl, me5, md5⟩
      have B5 : Hid (BI w (wr.heap.size + 1) wr.heap.size (wr.heap.size + 1 + 1) w5.heap.size a n c L g none K0 D0 (rest (wl L) n g K0 none D0) (w5.alloc (.cells #[.int .i64 (rest (wl L) n g K0 none D0).1, .int .i64 (rest (wl L) n g K0 none D0).2] 57))) := Lib.hid (by
        have bl5 : Below w.heap.size w w5 := bl_mod (bl_step HS.out b4) md5 hws
        have rp5 := RP4.mod me5 md5
        exact ⟨rp5.below (bl_alloc (Below.refl _ _) _), bl_alloc bl5 _, hp_old (md5.keeps at4 (RP4.ne at4)) _, hp_new _ _, hws, by omega, bl5.size⟩)
      clear me5 md5 R4 RP4 pl4 at4 b4 eK eD HW4 HS HO r0 r1' r2' rl gmn gmn2 hmm hws hK0 hD0
      obtain ⟨p, hp⟩ : ∃ p, p = wr.heap.size + 1 := ⟨_, rfl⟩
      obtain ⟨ab, hab⟩ : ∃ ab, ab = wr.heap.size + 1 + 1 := ⟨_, rfl⟩
      obtain ⟨mb, hmb⟩ : ∃ mb, mb = wr.heap.size := ⟨_, rfl⟩
      rw [← hab, ← hp, ← hmb] at B5 ⊢
      rw [← hp, ← hmb] at RA
      clear hp hab hmb
      go_wp2_with (fail)
      go_loopw [12, 13, 14, 15, 16, 61] (fun pv gp _ _ _ _ wr => ∃ (P : List Nat) (last : Option Nat) (k : Nat) (bud : Int) (gb : Nat), gp = .pointer (some ⟨gb, 0, none⟩) ∧ wr.ownsRow w.heap.size 3 1 pv P.length (ixs P) ∧ BI w p mb ab gb a n c L g last k bud (rest (wl L) n g k last bud) wr ∧ bestp (wl L) n g b m = P ++ plan (wl L) n g k last bud ∧ k ≤ 40 ∧ (0 ≤ bud ∧ bud ≤ 1000) ∧ (∀ j, last = some j → j < n) ∧ P.length + k ≤ 40) (fun _ _ _ _ _ _ wr => match wr.cell? ⟨ab, 1, none⟩ with | some (.int _ x) => x.toNat | _ => 0)
      case atStart => exact ⟨[], none, K0, D0, w5.heap.size, rfl, World.ownsRow_nil _ _ _ _, B5.out, HBP.out, hKb, hDb, by simp, by simpa using hKb⟩
      case round =>
        clear B5 HBP hKb hDb
        obtain ⟨P, last, k, bud, gb, rfl, hown, hB, hbest, hk, hbud, hl, hPk⟩ := hrel
        have HB := Lib.hid hB; have HO := Lib.hid hown; have HBE := Lib.hid hbest
        clear hB hown hbest
        obtain ⟨G, hG⟩ : ∃ G, Hid (G = rest (wl L) n g k last bud) := ⟨_, Lib.hid rfl⟩
        rw [← hG.out] at HB
        have g1 : wr.cell? ⟨gb, 1, none⟩ = some (.int .i64 G.2) := cell_of HB.out.gc rfl
        have g0 : wr.cell? ⟨gb, 0, none⟩ = some (.int .i64 G.1) := cell_of HB.out.gc rfl
        have lg := lt_of_obj HB.out.gc
        have mk : (match wr.cell? ⟨ab, 1, none⟩ with | some (.int _ x) => x.toNat | _ => 0) = k := by
          have : wr.cell? ⟨ab, 1, none⟩ = some (.int .i64 k) := cell_of HB.out.ac rfl
          rw [this]; simp
        have MK := Lib.hid mk
        clear mk
        by_cases hpos : 0 < G.2
        · have hpd : decide (0 < G.2) = true := by simpa using hpos
          obtain ⟨k', rfl⟩ : ∃ k', k = k' + 1 := by
            cases k with
            | zero => rw [hG.out] at hpos; exact absurd hpos (by show ¬ (0 : Int) < 0; decide)
            | succ k' => exact ⟨k', rfl⟩
          rw [hG.out] at hpos
          obtain ⟨i0, h1, h2, h3, h4, h5⟩ := plan_find k' last bud hpos
          rw [← hG.out] at h3 h4
          have H2 := Lib.hid h2; have H3 := Lib.hid h3; have H4 := Lib.hid h4; have H5 := Lib.hid h5
          clear hpos h2 h3 h4 h5
          go_wp2_with (fail)
          clear g0 g1 lg hpd
          go_loopw [12, 14, 15, 16, 61] (fun pv _ _ _ i wr3 => ∃ j : Nat, j ≤ i0 ∧ i = .int .i64 j ∧ wr3.ownsRow w.heap.size 3 1 pv P.length (ixs P) ∧ BI w p mb ab gb a n c L g last (k' + 1) bud G wr3) (fun _ _ _ _ i _ => n - (intOf i).toNat)
          case atStart => exact ⟨0, by omega, rfl, HO.out, HB.out⟩
          case round =>
            clear HO HB
            obtain ⟨j, hj, rfl, hO, hB⟩ := hrel
            have HO := Lib.hid hO; have HB := Lib.hid hB
            clear hO hB
            have hlt : j < n := by omega
            have NA := Lib.hid (next_any L g (k' + 1) last bud j a n c mb p wr HB.out.rp.ws HB.out.rp.po HV.out ⟨r1, r2⟩ hlt hl hk hbud)
            have c0 : wr.cell? ⟨ab, 0, none⟩ = some (.int .i64 (lz last)) := cell_of HB.out.ac rfl
            have c1 : wr.cell? ⟨ab, 1, none⟩ = some (.int .i64 ((k' + 1 : Nat) : Int)) := cell_of HB.out.ac rfl
            have c2 : wr.cell? ⟨ab, 2, none⟩ = some (.int .i64 bud) := cell_of HB.out.ac rfl
            have la := lt_of_obj HB.out.ac
            obtain ⟨z, hz⟩ : ∃ z, Hid (z = lz last) := ⟨_, Lib.hid rfl⟩
            obtain ⟨K, hK⟩ : ∃ K : Int, Hid (K = ((k' + 1 : Nat) : Int)) := ⟨_, Lib.hid rfl⟩
            rw [← hz.out] at c0
            rw [← hK.out] at c1
            obtain ⟨T, hT⟩ : ∃ T, Hid (T = nextT (wl L) g (k' + 1) last bud j) := ⟨_, Lib.hid rfl⟩
            rw [← hT.out] at NA
            cases T with
            | false =>
              have NA2 : Hid (Calls Try.prog 27 #[.pointer (some ⟨p, 0, none⟩), pt z K bud, .int .i64 j] wr fun e w' => e = .returned (.tuple #[pt z K bud, .bool false]) ∧ Below wr.heap.size wr w') := Lib.hid (by rw [hz.out, hK.out]; exact NA.out)
              have hji : j < i0 := by
                rcases Nat.lt_or_ge j i0 with h | h
                · exact h
                · obtain rfl : j = i0 := by omega
                  have := hT.out
                  unfold nextT at this
                  rw [H2.out] at this
                  simp at this
              clear NA
              go_wp2_with (fail)
              refine NA2.out.mono ?_
              rintro e w6 ⟨rfl, b6⟩
              have S6 := Lib.hid (HB.out.below b6)
              have O6 := Lib.hid (own_calm HO.out b6)
              clear NA2 c0 c1 c2 la b6
              go_wp2_with (fail)
              go_quiet (fail)
              go_wp2_with (fail)
              go_roundw
              case rel => exact ⟨j + 1, by omega, by simp, own_drewN (O6.out.alloc _) _, S6.out.below (below_drewN (bl_alloc (Below.refl _ _) _) _)⟩
              case measure => simp [intOf]; omega
            | true =>
              have eK : (((k' + 1 : Nat) : Int) - 1) = k' := by omega
              have hT2 := hT.out.symm
              have hco : 0 ≤ (wl L j).co := (HV.out j hlt).2.2.2.2.2.2.2.1
              have hNO : nextOk (wl L) g last bud j = true := by unfold nextT at hT2; simpa using hT2
              have hco2 : (wl L j).co ≤ bud := by have := hNO; unfold nextOk at this; simp at this; omega
              have HNO := Lib.hid hNO
              obtain ⟨BD, hBD⟩ : ∃ BD, Hid (BD = bud - (wl L j).co) := ⟨_, Lib.hid rfl⟩
              have hBDr : 0 ≤ BD ∧ BD ≤ 1000 := by rw [hBD.out]; omega
              have NA2 : Hid (Calls Try.prog 27 #[.pointer (some ⟨p, 0, none⟩), pt z K bud, .int .i64 j] wr fun e w' => e = .returned (.tuple #[pt j k' BD, .bool true]) ∧ Below wr.heap.size wr w') := Lib.hid (by
                rw [hz.out, hK.out, hBD.out]
                have := NA.out
                unfold nextV at this
                rw [if_pos rfl, eK] at this
                exact this)
              have AA := Lib.hid (fun W h => aft_any L g a n c mb p HV.out ⟨r1, r2⟩ (by omega) k' (by omega) j BD W h hBDr hlt)
              rw [show rest (wl L) n g k' (some j) BD = rest (wl L) n g k' (some j) (bud - (wl L j).co) by rw [hBD.out]] at AA
              change Hid (∀ W, _ → Calls _ _ _ W fun e w' => e = .returned (gv (aft (wl L) n g k' bud j)) ∧ _) at AA
              obtain ⟨A, hA⟩ : ∃ A, Hid (A = aft (wl L) n g k' bud j) := ⟨_, Lib.hid rfl⟩
              rw [← hA.out] at AA
              obtain ⟨gv1, gm1⟩ := A
              clear NA eK hT2 hco hco2 hNO
              go_wp2_with (fail)
              refine NA2.out.mono ?_
              rintro e w6 ⟨rfl, b6⟩
              obtain ⟨W6, hW6⟩ : ∃ W6, W6 = w6.alloc (.cells #[.int .i64 j, .int .i64 k', .int .i64 BD] 55) := ⟨_, rfl⟩
              have HW6 := Lib.hid hW6
              have bb6 : Below wr.heap.size wr W6 := by rw [hW6]; exact bl_alloc b6 _
              have tc6 : W6.heap[w6.heap.size]? = some (.cells #[.int .i64 j, .int .i64 k', .int .i64 BD] 55) := by rw [hW6]; exact hp_new _ _
              have S6 := Lib.hid (HB.out.below bb6)
              have O6 := Lib.hid (own_calm HO.out bb6)
              have hw6 : w.heap.size ≤ w6.heap.size := Nat.le_trans HB.out.bl.size b6.size
              have t0 : W6.cell? ⟨w6.heap.size, 0, none⟩ = some (.int .i64 j) := cell_of tc6 rfl
              have t1 : W6.cell? ⟨w6.heap.size, 1, none⟩ = some (.int .i64 k') := cell_of tc6 rfl
              have t2 : W6.cell? ⟨w6.heap.size, 2, none⟩ = some (.int .i64 BD) := cell_of tc6 rfl
              have g0 : W6.cell? ⟨gb, 0, none⟩ = some (.int .i64 G.1) := cell_of S6.out.gc rfl
              have g1 : W6.cell? ⟨gb, 1, none⟩ = some (.int .i64 G.2) := cell_of S6.out.gc rfl
              have lt6 := lt_of_obj tc6
              have lg6 := lt_of_obj S6.out.gc
              have TC6 := Lib.hid tc6
              clear NA2 c0 c1 c2 la b6 HB HO bb6 hW6 tc6
              go_wp2_with (fail)
              rw [← HW6.out]
              obtain ⟨G1, G2⟩ := G
              simp only at g0 g1
              by_cases hq1 : gv1 = G1
              · subst hq1
                by_cases hq2 : gm1 = G2
                · subst hq2
                  go_region_with (go_at_call 28; refine (AA.out _ (S6.out.rp.below (Below.refl _ _).drew)).mono ?_; rintro e w7 ⟨rfl, me7, md7⟩; have S7 := Lib.hid ((S6.out.below (Below.refl _ _).drew).mod me7 md7); have O7 := Lib.hid (own_map (own_calm O6.out (Below.refl _ _).drew) (S6.out.rp.below (Below.refl _ _).drew) md7); have TC7 := Lib.hid (md7.keeps (hp_drew TC6.out) (S6.out.rp.ne TC6.out)); have g0 : w7.cell? ⟨gb, 0, none⟩ = some (.int .i64 gv1) := cell_of S7.out.gc rfl; have g1 : w7.cell? ⟨gb, 1, none⟩ = some (.int .i64 gm1) := cell_of S7.out.gc rfl; clear me7 md7)
                  all_goals
                    have hji : j = i0 := by
                      rcases Nat.lt_or_ge j i0 with h | h
                      · exact absurd ⟨HNO.out, hA.out.symm⟩ (H4.out j h)
                      · omega
                    subst hji
                    have hwl7 := S7.out.bl.size
                    have t0 : w7.cell? ⟨w6.heap.size, 0, none⟩ = some (.int .i64 j) := cell_of TC7.out rfl
                    have t1 : w7.cell? ⟨w6.heap.size, 1, none⟩ = some (.int .i64 k') := cell_of TC7.out rfl
                    have t2 : w7.cell? ⟨w6.heap.size, 2, none⟩ = some (.int .i64 BD) := cell_of TC7.out rfl
                    have y0 : w7.cell? ⟨ab, 0, none⟩ = some (.int .i64 (lz last)) := cell_of S7.out.ac rfl
                    have y1 : w7.cell? ⟨ab, 1, none⟩ = some (.int .i64 ((k' + 1 : Nat) : Int)) := cell_of S7.out.ac rfl
                    have y2 : w7.cell? ⟨ab, 2, none⟩ = some (.int .i64 bud) := cell_of S7.out.ac rfl
                    have f0 := free_of (i := 0) S7.out.ac
                    have f1 := free_of (i := 1) S7.out.ac
                    have f2 := free_of (i := 2) S7.out.ac
                    have la7 := lt_of_obj S7.out.ac
                    have lt7 := lt_of_obj TC7.out
                    have NB : Hid (((((w7.setCell ⟨ab, 0, none⟩ (.int .i64 j)).setCell ⟨ab, 1, none⟩ (.int .i64 k')).setCell ⟨ab, 2, none⟩ (.int .i64 BD)).alloc (.cells #[.int .i64 j] 3)).heap[w7.heap.size]? = some (.cells #[.int .i64 j] 3)) := Lib.hid (by
                      have := hp_new (((w7.setCell ⟨ab, 0, none⟩ (.int .i64 j)).setCell ⟨ab, 1, none⟩ (.int .i64 k')).setCell ⟨ab, 2, none⟩ (.int .i64 BD)) (.cells #[.int .i64 j] 3)
                      rw [World.size_setCell, World.size_setCell, World.size_setCell] at this
                      exact this)
                    clear g0 g1
                    go_wp2_with (fail)
                    go_region_law ((refine step_append_lies _ (by rfl) _ _ _ (by rfl) w.heap.size 3 ii _ 1 8 Try.underlying28 hii hz0 hz1 hz2 rfl (by omega) u12 P.length (ixs P) (by rfl) (by first | exact (O7.out.alloc _).drew | exact ((own_setAt O7.out S7.out _ _ _).alloc _).drew) ⟨w7.heap.size, 0, none⟩ 1 1 [.int .i64 j] (by rfl) (by rfl) (by first | exact World.news_of_block (cs := #[.int .i64 j]) (t := 3) (fr := (0, 0)) (heap_alloc_new w7 _) | exact World.news_of_block (cs := #[.int .i64 j]) (t := 3) (fr := (0, 0)) NB.out) (by simp [Value.oneCell']) (by omega) (by unfold maxLen; omega) (by omega) (by simp; omega) (w7.heap.size + 1) (by simp) ?_; intro gg cap3 w8 hown8 hgrow8 hat hlt8; (first | (have S8 := Lib.hid ((S7.out.below (bl_alloc (Below.refl _ _) _).drew).grown HW.out ((O7.out.alloc _).drew) hgrow8)) | (have S8 := Lib.hid (((S7.out.setAt HW.out j k' BD).below (bl_alloc (Below.refl _ _) _).drew).grown HW.out (((own_setAt O7.out S7.out _ _ _).alloc _).drew) hgrow8))); (try (have TC8 := Lib.hid ((hgrow8.block w6.heap.size (by simp; omega) (own_ne_obj O7.out TC7.out (by decide)).symm).trans (hp_old TC7.out _)); have t0 := cell_of (i := 0) TC8.out rfl; have t1 := cell_of (i := 1) TC8.out rfl; have t2 := cell_of (i := 2) TC8.out rfl; have lt8 := lt_of_obj TC8.out)); have y0 := cell_of (i := 0) S8.out.ac rfl; have y1 := cell_of (i := 1) S8.out.ac rfl; have y2 := cell_of (i := 2) S8.out.ac rfl; have f0 := free_of (i := 0) S8.out.ac; have f1 := free_of (i := 1) S8.out.ac; have f2 := free_of (i := 2) S8.out.ac; have la8 := lt_of_obj S8.out.ac; replace hown8 := Lib.hid hown8; clear hgrow8 hat))
                    all_goals
                      obtain ⟨W9, hW9⟩ : ∃ W9, W9 = ((w8.setCell ⟨ab, 0, none⟩ (.int .i64 j)).setCell ⟨ab, 1, none⟩ (.int .i64 k')).setCell ⟨ab, 2, none⟩ (.int .i64 BD) := ⟨_, rfl⟩
                      have S9 : Hid (BI w p mb ab gb a n c L g (some j) k' BD (gv1, gm1) W9) := Lib.hid (by rw [hW9]; exact S8.out.setAt HW.out j k' BD)
                      have O9 : Hid (W9.ownsRow w.heap.size 3 1 (.slice (some ⟨gg, 0, none⟩) (P.length + 1) cap3) (P.length + 1) (ixs P ++ [.int .i64 (j : Int)])) := Lib.hid (by rw [hW9]; exact own_setAt hown8.out S8.out _ _ _)
                      rw [← hW9]
                      clear hW9 t0 t1 t2 y0 y1 y2 f0 f1 f2 lt8 la8 hlt8 S8 TC8 hown8 NB la7 lt7 hwl7 S7 O7 TC7
                      have g0 : W9.cell? ⟨gb, 0, none⟩ = some (.int .i64 gv1) := cell_of S9.out.gc rfl
                      have g1 : W9.cell? ⟨gb, 1, none⟩ = some (.int .i64 gm1) := cell_of S9.out.gc rfl
                      have a0 : W9.cell? ⟨ab, 0, none⟩ = some (.int .i64 (j : Int)) := cell_of S9.out.ac rfl
                      have a1 : W9.cell? ⟨ab, 1, none⟩ = some (.int .i64 (k' : Int)) := cell_of S9.out.ac rfl
                      have a2 : W9.cell? ⟨ab, 2, none⟩ = some (.int .i64 BD) := cell_of S9.out.ac rfl
                      have la := lt_of_obj S9.out.ac
                      have lg := lt_of_obj S9.out.gc
                      have RR := Lib.hid (RA.out k' (by omega) (some j) BD (W9.alloc (.cells #[.int .i64 gv1, .int .i64 gm1] 57)) (S9.out.rp.below (bl_alloc (Below.refl _ _) _)) hBDr (fun i e => by cases e; exact hlt))
                      rw [show lz (some j) = (j : Int) from rfl] at RR
                      have HR : Hid (∀ w' e, Memo w' mb (wl L) n g ∧ Mod (fun x => x = mb) (W9.alloc (.cells #[.int .i64 gv1, .int .i64 gm1] 57)) w' → e = rest (wl L) n g k' (some j) BD → BI w p mb ab W9.heap.size a n c L g (some j) k' BD e ((w'.setCell ⟨W9.heap.size, 0, none⟩ (.int .i64 e.1)).setCell ⟨W9.heap.size, 1, none⟩ (.int .i64 e.2))) := Lib.hid (fun w' e h he => S9.out.newG h.1 h.2)
                      obtain ⟨E, hE⟩ : ∃ E, Hid (E = rest (wl L) n g k' (some j) BD) := ⟨_, Lib.hid rfl⟩
                      rw [← hE.out] at RR
                      go_wp2_with (fail)
                      refine RR.out.mono ?_
                      rintro e w10 ⟨rfl, me10, md10⟩
                      have S10 := Lib.hid (HR.out w10 E ⟨me10, md10⟩ hE.out)
                      have O10 : Hid (((w10.setCell ⟨W9.heap.size, 0, none⟩ (.int .i64 E.1)).setCell ⟨W9.heap.size, 1, none⟩ (.int .i64 E.2)).ownsRow w.heap.size 3 1 (.slice (some ⟨gg, 0, none⟩) (P.length + 1) cap3) (P.length + 1) (ixs P ++ [.int .i64 (j : Int)])) := Lib.hid (own_newG O9.out S9.out md10)
                      have hne : W9.heap.size ≠ mb := (S9.out.rp.below (bl_alloc (Below.refl _ _) (.cells #[.int .i64 gv1, .int .i64 gm1] 57))).ne (hp_new W9 _)
                      have hg10 : w10.heap[W9.heap.size]? = some (.cells #[.int .i64 gv1, .int .i64 gm1] 57) := md10.keeps (hp_new W9 _) hne
                      have n0 : w10.cell? ⟨W9.heap.size, 0, none⟩ = some (.int .i64 gv1) := cell_of hg10 rfl
                      have n1 : w10.cell? ⟨W9.heap.size, 1, none⟩ = some (.int .i64 gm1) := cell_of hg10 rfl
                      have f0 := free_of (i := 0) hg10
                      have f1 := free_of (i := 1) hg10
                      have ln := lt_of_obj hg10
                      clear RR HR me10 md10 g0 g1 a0 a1 a2 la lg hne hg10 S9
                      go_wp2_with (fail)
                      go_roundw
                      case rel => exact ⟨P ++ [j], some j, k', BD, W9.heap.size, rfl, by rw [List.length_append]; simpa [ixs] using O10.out, by rw [← hE.out]; exact S10.out, by rw [HBE.out, H5.out, hBD.out]; simp, by omega, hBDr, fun i e => by cases e; exact hlt, by simp; omega⟩
                      case measure =>
                        rw [MK.out]
                        have := cell_of (i := 1) S10.out.ac rfl
                        rw [this]
                        simp
                · have hq : (gm1 == G2) = false := by simpa using hq2
                  have hji : j < i0 := by
                    rcases Nat.lt_or_ge j i0 with h | h
                    · exact h
                    · obtain rfl : j = i0 := by omega
                      have := hA.out.trans H3.out
                      exact absurd (congrArg Prod.snd this) hq2
                  go_region_with (go_at_call 28; refine (AA.out _ (S6.out.rp.below (Below.refl _ _).drew)).mono ?_; rintro e w7 ⟨rfl, me7, md7⟩; have S7 := Lib.hid ((S6.out.below (Below.refl _ _).drew).mod me7 md7); have O7 := Lib.hid (own_map (own_calm O6.out (Below.refl _ _).drew) (S6.out.rp.below (Below.refl _ _).drew) md7); have TC7 := Lib.hid (md7.keeps (hp_drew TC6.out) (S6.out.rp.ne TC6.out)); have g0 : w7.cell? ⟨gb, 0, none⟩ = some (.int .i64 gv1) := cell_of S7.out.gc rfl; have g1 : w7.cell? ⟨gb, 1, none⟩ = some (.int .i64 G2) := cell_of S7.out.gc rfl; clear me7 md7)
                  all_goals
                    go_wp2_with (fail)
                    go_roundw
                    case rel => exact ⟨j + 1, by omega, by simp, O7.out, S7.out⟩
                    case measure => simp [intOf]; omega
              · have hq : (gv1 == G1) = false := by simpa using hq1
                have hji : j < i0 := by
                  rcases Nat.lt_or_ge j i0 with h | h
                  · exact h
                  · obtain rfl : j = i0 := by omega
                    have := hA.out.trans H3.out
                    exact absurd (congrArg Prod.fst this) hq1
                go_region_with (go_at_call 28; refine (AA.out _ (S6.out.rp.below (Below.refl _ _).drew)).mono ?_; rintro e w7 ⟨rfl, me7, md7⟩; have S7 := Lib.hid ((S6.out.below (Below.refl _ _).drew).mod me7 md7); have O7 := Lib.hid (own_map (own_calm O6.out (Below.refl _ _).drew) (S6.out.rp.below (Below.refl _ _).drew) md7); have TC7 := Lib.hid (md7.keeps (hp_drew TC6.out) (S6.out.rp.ne TC6.out)); have g0 : w7.cell? ⟨gb, 0, none⟩ = some (.int .i64 G1) := cell_of S7.out.gc rfl; have g1 : w7.cell? ⟨gb, 1, none⟩ = some (.int .i64 G2) := cell_of S7.out.gc rfl; clear me7 md7)
                all_goals
                  go_wp2_with (fail)
                  go_roundw
                  case rel => exact ⟨j + 1, by omega, by simp, O7.out, S7.out⟩
                  case measure => simp [intOf]; omega
        · have hpd : decide (0 < G.2) = false := by simpa using hpos
          have R : Hid (Q0 (.returned (.tuple #[u12, .int .i64 0])) wr) := Lib.hid (F.out _ _ (by
            rw [HBE.out, plan_done _ _ _ (by rw [← hG.out]; exact hpos), List.append_nil]
            exact HO.out) HB.out.bl)
          clear hpos
          go_wp2_with (fail)
          exact R.out
theorem best_any (L : List Wn) (g b m : Int) (a : Option Addr) (n c : Nat) (w : World) (hW : WS w a n c L) :
    Calls Try.prog 11 #[.slice a n c, .agg #[.int .i64 g, .int .i64 b, .int .i64 m]] w fun e w' => BestQ L g b m w e w' := by
  by_cases hE : ckE L g b m = 0
  · exact best_good L g b m a n c w hW hE
  · exact best_bad L g b m a n c w hW hE
end Go.Proofs.Ytacdigofjlbimaa
