/-
  The walk of fails: the power fails during a change. Conditions: what holds between two steps.
-/
import Derived.Test.YtdebfniifijjoaaDoorM23
namespace Go.Proofs.YtdebfniifijjoaaDoor
open Go.RowKit Kit Go.Shelf
set_option linter.unusedVariables false
set_option linter.unusedSimpArgs false
def Blow.kd (b : Blow) : Nat := (b.bit % 3).toNat
def Blow.fz (b : Blow) : Nat := (b.fuse % 40).toNat
theorem inv_fuse {N : Nat} {d : WD} {u : Nat → Bool} {s : MS} (h : Inv N d u s) (f : Int) : Inv N d u { s with fuse := f, blown := false } := ⟨⟨h.snd.p, h.snd.t, h.snd.r, h.snd.s⟩, h.sc, h.u, h.g1, h.g2, h.c⟩
/-- Behind the change. -/
structure FlA (N L W : Nat) (d : WD) (x : WX) (u : Nat → Bool) (w : World) (B : Nat) (w' : World) (dn d1 : WD) (s : MS) : Prop where
  o : WO w' W d1 x u s
  b : WC w' B dn
  lo : Below L w w'
  hB : w.heap.size ≤ B
  d1 : ∃ c, d1 = ctrD d c ∧ c ≤ N + 1
  hf : Half (N + 1) d dn u s
theorem fla_end {w w3 : World} {N L W B : Nat} {d d1 dn : WD} {x : WX} {u : Nat → Bool} {s s0 : MS} (h0 : WO w W d x u s0) (o : WO w3 W d1 x u s) (hz : w3.heap[B]? = some (.cells zrow 40)) (hB : w.heap.size ≤ B) (lo : Below L w w3) (hL : WLo L W x) (hd : ∃ c, d1 = ctrD d c ∧ c ≤ N + 1) (hf : Half (N + 1) d dn u s) :
    FlA N L W d x u w B (w3.setRow B (wrow dn)) dn d1 s := by
  have hm : Mod (fun k => k = B) w3 (w3.setRow B (wrow dn)) := mod_row (Mod.refl _ _) _
  exact ⟨h0.far o hm hB, WC.setRow hz dn, lo.trans (Mod.below hm (o.size hL) (fun k e => by have := h0.size hL; omega)), hB, hd, hf⟩
theorem blA_range {w : World} {B : Nat} {b : Blow} (h : w.heap[B]? = some (.cells (blA b) 24)) : w.rangeAt B 0 (blA b).toList := by
  have := World.rangeAt_of_block h 0 6
  exact this
theorem info24 (b : Blow) : (Tryd.prog.info? 24).map (·.size) = some (blA b).toList.length := by show _ = some 6; kernel_rfl
set_option maxRecDepth 100000 in
def FlMid (N L W : Nat) (d : WD) (x : WX) (u : Nat → Bool) (w : World) (e : Exit) (a' : Act) (w' : World) : Prop := match e with | .normal => ∃ (B : Nat) (dn d1 : WD) (s' : MS), FlA N L W d x u w B w' dn d1 s' ∧ ∃ (q1 q2 q3 q4 q6 q7 q8 q9 q10 q11 q12 q13 q14 q15 q16 q17 q18 q19 q20 q21 q22 q23 q24 q25 q26 q27 q28 q29 q30 q31 q32 q33 q34 q35 q36 q37 q38 q39 q40 q41 q42 q43 q44 q45 q46 q47 q48 q49 q50 q51 q52 q53 q54 q55 q56 q57 q58 q59 q60 q61 q62 q63 q64 q65 q66 q67 q68 q69 q70 q71 q72 q73 q74 q75 q76 q77 q78 q79 q80 q81 q82 q83 q84 q85 q86 q87 q88 q89 q90 q91 q92 q93 q94 q95 q96 q97 q98 q99 : Value), a' = { tmps := List.toArray (Value.pointer (some ⟨W, 0, none⟩) :: q1 :: q2 :: q3 :: q4 :: Value.pointer (some ⟨B, 0, none⟩) :: q6 :: q7 :: q8 :: q9 :: q10 :: q11 :: q12 :: q13 :: q14 :: q15 :: q16 :: q17 :: q18 :: q19 :: q20 :: q21 :: q22 :: q23 :: q24 :: q25 :: q26 :: q27 :: q28 :: q29 :: q30 :: q31 :: q32 :: q33 :: q34 :: q35 :: q36 :: q37 :: q38 :: q39 :: q40 :: q41 :: q42 :: q43 :: q44 :: q45 :: q46 :: q47 :: q48 :: q49 :: q50 :: q51 :: q52 :: q53 :: q54 :: q55 :: q56 :: q57 :: q58 :: q59 :: q60 :: q61 :: q62 :: q63 :: q64 :: q65 :: q66 :: q67 :: q68 :: q69 :: q70 :: q71 :: q72 :: q73 :: q74 :: q75 :: q76 :: q77 :: q78 :: q79 :: q80 :: q81 :: q82 :: q83 :: q84 :: q85 :: q86 :: q87 :: q88 :: q89 :: q90 :: q91 :: q92 :: q93 :: q94 :: q95 :: q96 :: q97 :: q98 :: q99 :: []), defers := [] } | _ => False
set_option maxRecDepth 100000 in
set_option maxHeartbeats 3200000 in
theorem fails_w {w : World} {N W L : Nat} {d : WD} {x : WX} {u : Nat → Bool} {s : MS} (h : WO w W d x u s) (hL : WLo L W x) (hi : Inv N d u s) (hN : N < 900) (b : Blow) (hb : b.Ok) :
    Calls Tryd.prog 17 #[.pointer (some ⟨W, 0, none⟩), .agg (blA b)] w fun e w' => StpQ (N + 1) L W w e w' := by
  have H := Lib.hid h
  have HL := Lib.hid hL
  have hW := h.b.obj.lt
  have V0 := Lib.hid (hp_new w (.cells (blA b) 24))
  have BL0 := Lib.hid (bl_alloc (Below.refl w.heap.size w) (.cells (blA b) 24))
  have O1 := Lib.hid (h.below BL0.out)
  have kf : b.fuse % 40 = ((b.fz : Nat) : Int) := by unfold Blow.fz; omega
  have kk : b.bit % 3 = ((b.kd : Nat) : Int) := by unfold Blow.kd; omega
  have hfz : b.fz < 40 := by unfold Blow.fz; omega
  have hkd : b.kd < 3 := by unfold Blow.kd; omega
  have P40 := Lib.hid (fun w => pick_any b.fuse 40 hb.fuse (by omega) w)
  have P3 := Lib.hid (fun w => pick_any b.bit 3 hb.bit (by omega) w)
  rw [kf] at P40
  rw [kk] at P3
  have FU := Lib.hid (fun (w' : World) (o : WO w' W d x u s) => fuse_any o.b.me (by omega) (b.fz : Int) (by omega))
  have CH := Lib.hid (fun (w' : World) (o : WO w' W d x u { s with fuse := (b.fz : Int), blown := false }) => chgI b.kd hkd o hL (inv_fuse hi (b.fz : Int)) hN b hb)
  have v0 : (w.alloc (.cells (blA b) 24)).cell? ⟨w.heap.size, 5, none⟩ = some (.int .i64 b.fuse) := cell_of V0.out rfl
  have c0 : (w.alloc (.cells (blA b) 24)).cell? ⟨W, 0, none⟩ = some (.pointer (some ⟨x.bm, 0, none⟩)) := O1.out.cs.1
  have ls1 : (w.alloc (.cells (blA b) 24)).heap.size = w.heap.size + 1 := by simp
  have LS1 := Lib.hid ls1
  have HN := Lib.hid hN
  clear h hL hi hb kf kk ls1 hN
  go_enter Tryd.func17, Tryd.ntmps17
  go_upto_region 1 with (fail)
  generalize w.alloc (.cells (blA b) 24) = w1 at *
  have l1 := lt_of_obj V0.out
  have lW1 := O1.out.b.obj.lt
  have FU1 := Lib.hid (FU.out _ (O1.out.below (Below.refl w1.heap.size w1).drew))
  clear FU
  go_region_held3 (fun w' => w'.cell? ⟨W, 0, none⟩ = some (.pointer (some ⟨x.bm, 0, none⟩)) ∧ w'.cell? ⟨w.heap.size, 5, none⟩ = some (.int .i64 b.fuse)) (go_keep) ((first | (go_at_call 14; refine (P40.out _).mono ?_; rintro e _ ⟨rfl, rfl⟩) | (go_at_call 32; refine FU1.out.mono ?_; rintro e w2 ⟨rfl, m2, k2⟩; have K2 : Hid (MK x.bm x.bw w1 w2) := Lib.hid ((MK.below (Below.refl w1.heap.size w1).drew).trans k2); have O2 := Lib.hid (O1.out.rd m2 K2.out); have lts := H.out.lts; have V2 := Lib.hid (K2.out.keeps V0.out (by omega)); have c0' : w2.cell? ⟨W, 0, none⟩ = some (.pointer (some ⟨x.bm, 0, none⟩)) := O2.out.cs.1; have v0' : w2.cell? ⟨w.heap.size, 5, none⟩ = some (.int .i64 b.fuse) := cell_of V2.out rfl; clear m2 k2 lts)))
  go_upto_region 3 with (fail)
  have lts := H.out.lts
  have LO2 : Hid (Below L w w2) := Lib.hid ((BL0.out.mono (H.out.size HL.out)).trans (K2.out.lo HL.out (O1.out.size HL.out)))
  have LS2 : Hid (w.heap.size + 1 ≤ w2.heap.size) := Lib.hid (by have := K2.out.size; have := LS1.out; omega)
  have CHa := Lib.hid (CH.out _ (O2.out.below (Below.refl w2.heap.size w2).drew))
  have BLb : Hid (Below w2.heap.size w2 (w2.drew.alloc (.cells zrow 40))) := Lib.hid ((Below.refl w2.heap.size w2).drew.trans (bl_alloc (Below.refl w2.drew.heap.size w2.drew) (.cells zrow 40)))
  have CHb := Lib.hid (CH.out _ (O2.out.below BLb.out))
  have VD : w2.drew.heap[w.heap.size]? = some (.cells (blA b) 24) := hp_drew V2.out
  have VE : (w2.drew.alloc (.cells zrow 40)).heap[w.heap.size]? = some (.cells (blA b) 24) := hp_old VD _
  have NZ : Hid ((w2.drew.alloc (.cells zrow 40)).heap[w2.heap.size]? = some (.cells zrow 40)) := Lib.hid (hp_new w2.drew _)
  clear CH c0 v0 c0' v0' hfz lW1 l1
  refine Code.wp_mono (Q := FlMid N L W d x u w) (fun e a' w' hm => ?_) ?_
  · cases e
    case normal =>
      clear CHa CHb NZ BLb VD VE P3 P40 FU1 V0 BL0 O1 V2 O2 K2 LO2 LS1
      dsimp only [FlMid] at hm
      obtain ⟨B, dn, d1, s3, fa, hq⟩ := hm
      obtain ⟨q1, q2, q3, q4, q6, q7, q8, q9, q10, q11, q12, q13, q14, q15, q16, q17, q18, q19, q20, q21, q22, q23, q24, q25, q26, q27, q28, q29, q30, q31, q32, q33, q34, q35, q36, q37, q38, q39, q40, q41, q42, q43, q44, q45, q46, q47, q48, q49, q50, q51, q52, q53, q54, q55, q56, q57, q58, q59, q60, q61, q62, q63, q64, q65, q66, q67, q68, q69, q70, q71, q72, q73, q74, q75, q76, q77, q78, q79, q80, q81, q82, q83, q84, q85, q86, q87, q88, q89, q90, q91, q92, q93, q94, q95, q96, q97, q98, q99, rfl⟩ := hq
      have FA := Lib.hid fa
      obtain ⟨c, hd1, hc⟩ := fa.d1
      subst hd1
      have HC := Lib.hid hc
      have aW := H.out.b.apW
      have RS := Lib.hid (reset_w fa.o HL.out)
      have FR := Lib.hid (flr_of fa.hf)
      have hBge : w.heap.size ≤ B := fa.hB
      have c0 : w'.cell? ⟨W, 0, none⟩ = some (.pointer (some ⟨x.bm, 0, none⟩)) := fa.o.cs.1
      have hW' := fa.o.b.obj.lt
      clear fa hc LS2
      go_wp2_with (fail)
      refine RS.out.mono ?_
      rintro e w5 ⟨rfl, ⟨x5, p5, t5, o5, lo5⟩, bl5, md5⟩
      have O5 := Lib.hid o5; have LO5 := Lib.hid lo5
      have BL5 : Hid (Below L w w5) := Lib.hid (FA.out.lo.trans bl5)
      have B5 : Hid (WC w5 B dn) := Lib.hid (md5.keeps FA.out.b (by omega))
      have W5 := O5.out.lts
      have hBl : B < w5.heap.size := B5.out.lt
      have aw5 := O5.out.b.apW
      have NBm : B ≠ W ∧ B ≠ x5.bm ∧ B ≠ x5.bw ∧ B ≠ x5.bu := by
        refine ⟨by omega, ?_, ?_, ?_⟩
        · obtain ⟨fx, st, ho⟩ := O5.out.b.me.obj; exact ne_types B5.out ho (by decide)
        · exact ne_types B5.out O5.out.b.me.words (by decide)
        · exact ne_types B5.out O5.out.b.ups (by decide)
      clear o5 lo5 bl5 md5 RS c0
      have e6 : w5.cell? ⟨W, 6, none⟩ = some (.int .u32 d.id) := O5.out.b.obj.cell 6 (by omega)
      have e5 : w5.cell? ⟨W, 5, none⟩ = some (.string d.text) := O5.out.b.obj.cell 5 (by omega)
      have PT := Lib.hid (patch_any (O5.out.below (Below.refl w5.heap.size w5).drew) d.id d.text)
      have hW5 := O5.out.b.obj.lt
      go_upto_region 6 with (fail)
      cases hp : pat (viewB s3.reset.v 0 64) d.id d.text with
      | true =>
        rw [hp] at PT
        go_region_held3 (fun w' => w'.cell? ⟨W, 5, none⟩ = some (.string d.text) ∧ w'.cell? ⟨W, 6, none⟩ = some (.int .u32 d.id)) (go_keep) ((first | (go_at_call 10; refine PT.out.mono ?_; rintro e w6 ⟨rfl, ⟨s6, l6, o6⟩, k6⟩; have O6 := Lib.hid o6; have L6 := Lib.hid l6; have K6 : Hid (MK x5.bm x5.bw w5 w6) := Lib.hid ((MK.below (Below.refl w5.heap.size w5).drew).trans k6); have f5 : w6.cell? ⟨W, 5, none⟩ = some (.string d.text) := o6.b.obj.cell 5 (by omega); have f6 : w6.cell? ⟨W, 6, none⟩ = some (.int .u32 d.id) := o6.b.obj.cell 6 (by omega); clear l6 o6 k6)))
        have BL6 : Hid (Below L w w6) := Lib.hid (BL5.out.trans (K6.out.lo LO5.out (O5.out.size LO5.out)))
        have B6 : Hid (WC w6 B dn) := Lib.hid (K6.out.keeps B5.out (by omega))
        clear PT e5 e6
        have O7 : Hid (WO w6 W ({ ctrD d c with single := wipeF d.single 30, s := p5, t := t5 } : WD) x5 u s6) := Lib.hid O6.out
        have BL7 := BL6
        have B7 := B6
        have PP := Lib.hid hp
        obtain ⟨vals, bt, tv, tr, tb, tt, tf⟩ := FR.out.t
        have TBL := Lib.hid (table_w O7.out (vals := vals) (by rw [L6.out.v]; exact tv) tr d.vals)
        rw [tb] at TBL
        clear hp tb tv
        go_upto_region 8 with (fail)
        have hW7 := O7.out.b.obj.lt
        have VR7 := Lib.hid (show WC w6 W ({ ctrD d c with single := wipeF d.single 30, s := p5, t := t5 } : WD) from O7.out.b.obj)
        cases bt with
        | true =>
          have TT9 := Lib.hid (tt rfl)
          have RR := Lib.hid FR.out.r.1
          clear tt tf tr
          go_wp2_with (refine wpList_load_mid rfl 36 _ rfl W 7 rfl (vRow d.vals) _ VR7.out.vrange Tryd.underlying36 rfl (info36 _) ?_)
          refine TBL.out.mono ?_
          rintro e w8 ⟨rfl, ⟨s8, l8, o8⟩, k8⟩
          have O8 := Lib.hid o8; have L8 := Lib.hid (L6.out.trans l8); have K8 := Lib.hid k8
          have BL8 : Hid (Below L w w8) := Lib.hid (BL7.out.trans (K8.out.lo LO5.out (O7.out.size LO5.out)))
          have B8 : Hid (WC w8 B dn) := Lib.hid (K8.out.keeps B7.out (by omega))
          clear l8 o8 k8 TBL VR7
          have O9' : Hid (WO w8 W ({ ctrD d c with single := wipeF d.single 30, s := p5, t := t5 } : WD) x5 u s8) := O8
          have L9 := L8
          have B9 := B8
          have BL9 := BL8
          have Z0 : fSg s3.reset d 0 = wipeF d.single 30 := fSg_zero _ _
          have O9 : Hid (∃ s', s3.reset.Le s' ∧ WO w8 W { (({ ctrD d c with single := wipeF d.single 30, s := p5, t := t5 } : WD)) with single := fSg s3.reset d 0 } x5 u s') := Lib.hid (by rw [Z0]; exact ⟨_, L9.out, O9'.out⟩)
          clear Z0
          go_wp2_with (fail)
          go_loopw [7] (fun i wr => ∃ k : Nat, k ≤ 20 ∧ i = .int .i64 k ∧ (∃ s', s3.reset.Le s' ∧ WO wr W { (({ ctrD d c with single := wipeF d.single 30, s := p5, t := t5 } : WD)) with single := fSg s3.reset d k } x5 u s') ∧ WC wr B dn ∧ Below L w wr) (fun i _ => 20 - (intOf i).toNat)
          case atStart => exact ⟨0, by omega, rfl, O9.out, B9.out, BL9.out⟩
          case round =>
            clear O9 O9' L9 B9 BL9
            obtain ⟨k, hk, rfl, ⟨s10, l10, o10⟩, b10, bl10⟩ := hrel
            have O10 := Lib.hid o10; have L10 := Lib.hid l10; have B10 := Lib.hid b10; have BL10 := Lib.hid bl10
            clear o10 l10 b10 bl10
            by_cases hlt : k < 20
            · have dk : decide ((k : Int) < 20) = true := by simp; omega
              have wk : IntKind.i64.wrap (92 + (k : Int)) = 92 + (k : Int) := by rw [IntKind.wrap_i64]; omega
              have a0 : wr.cell? ⟨W, 0, none⟩ = some (.pointer (some ⟨x5.bm, 0, none⟩)) := O10.out.cs.1
              have a3 : wr.cell? ⟨W, 3, none⟩ = some (.int .i64 92) := O10.out.cs.2.2.2.1
              have hWr := O10.out.b.obj.lt
              have RD := Lib.hid ((O10.out.below (Below.refl wr.heap.size wr).drew).read (92 + k) (by omega))
              rw [show ((92 + k : Nat) : Int) = 92 + (k : Int) by omega, L10.out.v] at RD
              generalize hV : s3.reset.v (92 + k) = V at *
              generalize ((s10.kind (92 + k) : Nat) : Int) = kd at *
              have HV := Lib.hid hV
              clear hV
              go_upto_region 13 with (fail)
              go_region_held3 (fun w' => w'.cell? ⟨W, 0, none⟩ = some (.pointer (some ⟨x5.bm, 0, none⟩)) ∧ w'.cell? ⟨W, 3, none⟩ = some (.int .i64 92)) (go_keep) ((first | (go_at_call 12; refine RD.out.mono ?_; rintro e w11 ⟨rfl, ⟨s11, l11, o11⟩, k11⟩; have O11 := Lib.hid o11; have L11 := Lib.hid (L10.out.trans l11); have K11 : Hid (MK x5.bm x5.bw wr w11) := Lib.hid ((MK.below (Below.refl wr.heap.size wr).drew).trans k11); have B11 := Lib.hid (K11.out.keeps B10.out (by omega)); have a0' : w11.cell? ⟨W, 0, none⟩ = some (.pointer (some ⟨x5.bm, 0, none⟩)) := o11.cs.1; have a3' : w11.cell? ⟨W, 3, none⟩ = some (.int .i64 92) := o11.cs.2.2.2.1; clear l11 o11 k11)))
              have BL11 : Hid (Below L w w11) := Lib.hid (BL10.out.trans (K11.out.lo LO5.out (O10.out.size LO5.out)))
              have hW11 := O11.out.b.obj.lt
              have hB11 := (show WC w11 B dn from B11.out).lt
              have nb : w11.cell? ⟨B, 15 + k, none⟩ = some (.int .u32 (dn.single k)) := (show WC w11 B dn from B11.out).sing k (by omega)
              have nw := O11.out.b.obj.sing k (by omega)
              have nz : ∀ j, w11.frozen? ⟨W, j, none⟩ = false := fun j => O11.out.b.obj.free j
              clear RD a0 a3 a0' a3'
              by_cases hv : V = dn.single k
              · subst hv
                have e1 : (((dn.single k : Nat) : Int) == ((dn.single k : Nat) : Int)) = true := by simp
                have NX : Hid (WO (w11.setCell ⟨W, 15 + k, none⟩ (.int .u32 (dn.single k))) W { (({ ctrD d c with single := wipeF d.single 30, s := p5, t := t5 } : WD)) with single := fSg s3.reset d (k + 1) } x5 u s11) := Lib.hid (by
                  have o := O11.out.b.obj.set (15 + k) (.int .u32 (dn.single k)) (fun j hj => wcell_single _ k (dn.single k) (by omega) j hj)
                  rw [fSg_store, HV.out]
                  exact O11.out.put (mod_at (Mod.refl _ _) _) o ⟨rfl, rfl, rfl, rfl, rfl⟩)
                have NB2 : Hid (WC (w11.setCell ⟨W, 15 + k, none⟩ (.int .u32 (dn.single k))) B dn) := Lib.hid (hp_set_ne B11.out NBm.1 _)
                have NL2 : Hid (Below L w (w11.setCell ⟨W, 15 + k, none⟩ (.int .u32 (dn.single k)))) := Lib.hid (BL11.out.setCell LO5.out.W _)
                go_wp2_with (fail)
                exact ⟨⟨k + 1, by omega, by go_num, ⟨_, L11.out, NX.out⟩, NB2.out, NL2.out⟩, by simp [intOf]; omega⟩
              · have e1 : (((V : Nat) : Int) == ((dn.single k : Nat) : Int)) = false := by simp; omega
                have NX : Hid (WO w11 W { (({ ctrD d c with single := wipeF d.single 30, s := p5, t := t5 } : WD)) with single := fSg s3.reset d (k + 1) } x5 u s11) := Lib.hid (by
                  rw [fSg_skip hlt ?_]
                  · exact O11.out
                  · rcases FR.out.sg k hlt with e | e
                    · exact e
                    · rw [HV.out] at e; exact absurd e hv)
                go_wp2_with (fail)
                exact ⟨⟨k + 1, by omega, by go_num, ⟨_, L11.out, NX.out⟩, B11.out, BL11.out⟩, by simp [intOf]; omega⟩
            · have e : k = 20 := by omega
              subst e
              have dk : decide (((20 : Nat) : Int) < 20) = false := by decide
              have FIN : Hid (StpQ (N + 1) L W w (.returned (.bool true)) wr) := Lib.hid ⟨rfl, ⟨_, x5, u, s10, O10.out, LO5.out, flr_end (d3 := ({ ctrD d c with single := wipeF d.single 30, s := p5, t := t5 } : WD)) FR.out L10.out PP.out TT9.out RR.out HC.out, L10.out.f1 rfl⟩, BL10.out⟩
              go_wp2_with (fail)
              go_ret
              exact FIN.out
        | false =>
          have TT9 := Lib.hid (tf rfl)
          have RR := Lib.hid FR.out.r.2
          clear tt tf tr
          go_wp2_with (refine wpList_load_mid rfl 36 _ rfl W 7 rfl (vRow d.vals) _ VR7.out.vrange Tryd.underlying36 rfl (info36 _) ?_)
          refine TBL.out.mono ?_
          rintro e w8 ⟨rfl, ⟨s8, l8, o8⟩, k8⟩
          have O8 := Lib.hid o8; have L8 := Lib.hid (L6.out.trans l8); have K8 := Lib.hid k8
          have BL8 : Hid (Below L w w8) := Lib.hid (BL7.out.trans (K8.out.lo LO5.out (O7.out.size LO5.out)))
          have B8 : Hid (WC w8 B dn) := Lib.hid (K8.out.keeps B7.out (by omega))
          clear l8 o8 k8 TBL VR7
          have RA := Lib.hid O8.out.b.obj
          have O9' : Hid (WO (w8.setCells W 7 (vRow dn.vals)) W ({ (({ ctrD d c with single := wipeF d.single 30, s := p5, t := t5 } : WD)) with vals := dn.vals } : WD) x5 u s8) := Lib.hid (O8.out.put (mod_cells _ _ _ (Mod.refl _ _)) (wc_vals RA.out dn.vals) ⟨rfl, rfl, rfl, rfl, rfl⟩)
          have L9 := L8
          have B9 : Hid (WC (w8.setCells W 7 (vRow dn.vals)) B dn) := Lib.hid ((mod_cells (W := W) (vRow dn.vals) 7 _ (Mod.refl _ w8)).keeps B8.out NBm.1)
          have BL9 : Hid (Below L w (w8.setCells W 7 (vRow dn.vals))) := Lib.hid (BL8.out.trans (Mod.below (mod_cells (W := W) (vRow dn.vals) 7 _ (Mod.refl _ w8)) (O8.out.size LO5.out) (fun k e => by rw [e]; exact LO5.out.W)))
          go_upto_region 10 with (first | (refine wpList_load_mid rfl 36 _ rfl B 7 rfl (vRow dn.vals) _ B8.out.vrange Tryd.underlying36 rfl (info36 _) ?_) | (refine wpList_store_mid rfl 36 _ _ rfl W 7 (vRow dn.vals).toArray rfl rfl (by rw [List.size_toArray, vRow_len]; exact RA.out.there 7 8 (by omega)) (by rw [List.size_toArray]; exact info36 _) (vRow_one _) ?_))
          generalize w8.setCells W 7 (vRow dn.vals) = w9 at *
          have Z0 : fSg s3.reset d 0 = wipeF d.single 30 := fSg_zero _ _
          have O9 : Hid (∃ s', s3.reset.Le s' ∧ WO w9 W { (({ (({ ctrD d c with single := wipeF d.single 30, s := p5, t := t5 } : WD)) with vals := dn.vals } : WD)) with single := fSg s3.reset d 0 } x5 u s') := Lib.hid (by rw [Z0]; exact ⟨_, L9.out, O9'.out⟩)
          clear Z0
          go_wp2_with (fail)
          go_loopw [7] (fun i wr => ∃ k : Nat, k ≤ 20 ∧ i = .int .i64 k ∧ (∃ s', s3.reset.Le s' ∧ WO wr W { (({ (({ ctrD d c with single := wipeF d.single 30, s := p5, t := t5 } : WD)) with vals := dn.vals } : WD)) with single := fSg s3.reset d k } x5 u s') ∧ WC wr B dn ∧ Below L w wr) (fun i _ => 20 - (intOf i).toNat)
          case atStart => exact ⟨0, by omega, rfl, O9.out, B9.out, BL9.out⟩
          case round =>
            clear O9 O9' L9 B9 BL9
            obtain ⟨k, hk, rfl, ⟨s10, l10, o10⟩, b10, bl10⟩ := hrel
            have O10 := Lib.hid o10; have L10 := Lib.hid l10; have B10 := Lib.hid b10; have BL10 := Lib.hid bl10
            clear o10 l10 b10 bl10
            by_cases hlt : k < 20
            · have dk : decide ((k : Int) < 20) = true := by simp; omega
              have wk : IntKind.i64.wrap (92 + (k : Int)) = 92 + (k : Int) := by rw [IntKind.wrap_i64]; omega
              have a0 : wr.cell? ⟨W, 0, none⟩ = some (.pointer (some ⟨x5.bm, 0, none⟩)) := O10.out.cs.1
              have a3 : wr.cell? ⟨W, 3, none⟩ = some (.int .i64 92) := O10.out.cs.2.2.2.1
              have hWr := O10.out.b.obj.lt
              have RD := Lib.hid ((O10.out.below (Below.refl wr.heap.size wr).drew).read (92 + k) (by omega))
              rw [show ((92 + k : Nat) : Int) = 92 + (k : Int) by omega, L10.out.v] at RD
              generalize hV : s3.reset.v (92 + k) = V at *
              generalize ((s10.kind (92 + k) : Nat) : Int) = kd at *
              have HV := Lib.hid hV
              clear hV
              go_upto_region 13 with (fail)
              go_region_held3 (fun w' => w'.cell? ⟨W, 0, none⟩ = some (.pointer (some ⟨x5.bm, 0, none⟩)) ∧ w'.cell? ⟨W, 3, none⟩ = some (.int .i64 92)) (go_keep) ((first | (go_at_call 12; refine RD.out.mono ?_; rintro e w11 ⟨rfl, ⟨s11, l11, o11⟩, k11⟩; have O11 := Lib.hid o11; have L11 := Lib.hid (L10.out.trans l11); have K11 : Hid (MK x5.bm x5.bw wr w11) := Lib.hid ((MK.below (Below.refl wr.heap.size wr).drew).trans k11); have B11 := Lib.hid (K11.out.keeps B10.out (by omega)); have a0' : w11.cell? ⟨W, 0, none⟩ = some (.pointer (some ⟨x5.bm, 0, none⟩)) := o11.cs.1; have a3' : w11.cell? ⟨W, 3, none⟩ = some (.int .i64 92) := o11.cs.2.2.2.1; clear l11 o11 k11)))
              have BL11 : Hid (Below L w w11) := Lib.hid (BL10.out.trans (K11.out.lo LO5.out (O10.out.size LO5.out)))
              have hW11 := O11.out.b.obj.lt
              have hB11 := (show WC w11 B dn from B11.out).lt
              have nb : w11.cell? ⟨B, 15 + k, none⟩ = some (.int .u32 (dn.single k)) := (show WC w11 B dn from B11.out).sing k (by omega)
              have nw := O11.out.b.obj.sing k (by omega)
              have nz : ∀ j, w11.frozen? ⟨W, j, none⟩ = false := fun j => O11.out.b.obj.free j
              clear RD a0 a3 a0' a3'
              by_cases hv : V = dn.single k
              · subst hv
                have e1 : (((dn.single k : Nat) : Int) == ((dn.single k : Nat) : Int)) = true := by simp
                have NX : Hid (WO (w11.setCell ⟨W, 15 + k, none⟩ (.int .u32 (dn.single k))) W { (({ (({ ctrD d c with single := wipeF d.single 30, s := p5, t := t5 } : WD)) with vals := dn.vals } : WD)) with single := fSg s3.reset d (k + 1) } x5 u s11) := Lib.hid (by
                  have o := O11.out.b.obj.set (15 + k) (.int .u32 (dn.single k)) (fun j hj => wcell_single _ k (dn.single k) (by omega) j hj)
                  rw [fSg_store, HV.out]
                  exact O11.out.put (mod_at (Mod.refl _ _) _) o ⟨rfl, rfl, rfl, rfl, rfl⟩)
                have NB2 : Hid (WC (w11.setCell ⟨W, 15 + k, none⟩ (.int .u32 (dn.single k))) B dn) := Lib.hid (hp_set_ne B11.out NBm.1 _)
                have NL2 : Hid (Below L w (w11.setCell ⟨W, 15 + k, none⟩ (.int .u32 (dn.single k)))) := Lib.hid (BL11.out.setCell LO5.out.W _)
                go_wp2_with (fail)
                exact ⟨⟨k + 1, by omega, by go_num, ⟨_, L11.out, NX.out⟩, NB2.out, NL2.out⟩, by simp [intOf]; omega⟩
              · have e1 : (((V : Nat) : Int) == ((dn.single k : Nat) : Int)) = false := by simp; omega
                have NX : Hid (WO w11 W { (({ (({ ctrD d c with single := wipeF d.single 30, s := p5, t := t5 } : WD)) with vals := dn.vals } : WD)) with single := fSg s3.reset d (k + 1) } x5 u s11) := Lib.hid (by
                  rw [fSg_skip hlt ?_]
                  · exact O11.out
                  · rcases FR.out.sg k hlt with e | e
                    · exact e
                    · rw [HV.out] at e; exact absurd e hv)
                go_wp2_with (fail)
                exact ⟨⟨k + 1, by omega, by go_num, ⟨_, L11.out, NX.out⟩, B11.out, BL11.out⟩, by simp [intOf]; omega⟩
            · have e : k = 20 := by omega
              subst e
              have dk : decide (((20 : Nat) : Int) < 20) = false := by decide
              have FIN : Hid (StpQ (N + 1) L W w (.returned (.bool true)) wr) := Lib.hid ⟨rfl, ⟨_, x5, u, s10, O10.out, LO5.out, flr_end (d3 := ({ (({ ctrD d c with single := wipeF d.single 30, s := p5, t := t5 } : WD)) with vals := dn.vals } : WD)) FR.out L10.out PP.out TT9.out RR.out HC.out, L10.out.f1 rfl⟩, BL10.out⟩
              go_wp2_with (fail)
              go_ret
              exact FIN.out
      | false =>
        rw [hp] at PT
        go_region_held3 (fun w' => w'.cell? ⟨W, 5, none⟩ = some (.string d.text) ∧ w'.cell? ⟨W, 6, none⟩ = some (.int .u32 d.id)) (go_keep) ((first | (go_at_call 10; refine PT.out.mono ?_; rintro e w6 ⟨rfl, ⟨s6, l6, o6⟩, k6⟩; have O6 := Lib.hid o6; have L6 := Lib.hid l6; have K6 : Hid (MK x5.bm x5.bw w5 w6) := Lib.hid ((MK.below (Below.refl w5.heap.size w5).drew).trans k6); have f5 : w6.cell? ⟨W, 5, none⟩ = some (.string d.text) := o6.b.obj.cell 5 (by omega); have f6 : w6.cell? ⟨W, 6, none⟩ = some (.int .u32 d.id) := o6.b.obj.cell 6 (by omega); clear l6 o6 k6)))
        have BL6 : Hid (Below L w w6) := Lib.hid (BL5.out.trans (K6.out.lo LO5.out (O5.out.size LO5.out)))
        have B6 : Hid (WC w6 B dn) := Lib.hid (K6.out.keeps B5.out (by omega))
        clear PT e5 e6
        have hW6 := O6.out.b.obj.lt
        have hB6 := B6.out.lt
        have g5 : w6.cell? ⟨B, 5, none⟩ = some (.string dn.text) := B6.out.cell 5 (by omega)
        have g6 : w6.cell? ⟨B, 6, none⟩ = some (.int .u32 dn.id) := B6.out.cell 6 (by omega)
        have gz : ∀ j, w6.frozen? ⟨W, j, none⟩ = false := fun j => O6.out.b.obj.free j
        have q1 := NBm.1
        have q2 := Ne.symm NBm.1
        have PP : Hid (pat (viewB s3.reset.v 0 64) dn.id dn.text = true) := Lib.hid (FR.out.p.resolve_left (by rw [hp]; simp))
        have O7 : Hid (WO ((w6.setCell ⟨W, 6, none⟩ (.int .u32 dn.id)).setCell ⟨W, 5, none⟩ (.string dn.text)).drew W ({ (({ ctrD d c with single := wipeF d.single 30, s := p5, t := t5 } : WD)) with id := dn.id, text := dn.text } : WD) x5 u s6) := Lib.hid (by
          have a := O6.out.b.obj.set 6 (.int .u32 dn.id) (fun j _ => wcell_id _ _ j)
          have b := a.set 5 (.string dn.text) (fun j _ => wcell_text _ _ j)
          exact (O6.out.put (mod_at (mod_at (Mod.refl _ _) _) _) b ⟨rfl, rfl, rfl, rfl, rfl⟩).below (Below.refl _ _).drew)
        have BL7 : Hid (Below L w ((w6.setCell ⟨W, 6, none⟩ (.int .u32 dn.id)).setCell ⟨W, 5, none⟩ (.string dn.text)).drew) := Lib.hid (((BL6.out.setCell LO5.out.W _).setCell LO5.out.W _).drew)
        have B7 : Hid (WC ((w6.setCell ⟨W, 6, none⟩ (.int .u32 dn.id)).setCell ⟨W, 5, none⟩ (.string dn.text)).drew B dn) := Lib.hid (hp_drew (hp_set_ne (hp_set_ne B6.out NBm.1 _) NBm.1 _))
        go_upto_region 7 with (fail)
        go_region_held3 (fun w' => w'.cell? ⟨B, 5, none⟩ = some (.string dn.text) ∧ w'.cell? ⟨B, 6, none⟩ = some (.int .u32 dn.id)) (simp [*, World.cell?_setCell_other]) ((fail))
        clear f5 f6 g5 g6 gz
        obtain ⟨vals, bt, tv, tr, tb, tt, tf⟩ := FR.out.t
        have TBL := Lib.hid (table_w O7.out (vals := vals) (by rw [L6.out.v]; exact tv) tr d.vals)
        rw [tb] at TBL
        clear hp tb tv
        go_upto_region 8 with (fail)
        generalize ((w6.setCell ⟨W, 6, none⟩ (.int .u32 dn.id)).setCell ⟨W, 5, none⟩ (.string dn.text)).drew = w7 at *
        have hW7 := O7.out.b.obj.lt
        have VR7 := Lib.hid (show WC w7 W ({ (({ ctrD d c with single := wipeF d.single 30, s := p5, t := t5 } : WD)) with id := dn.id, text := dn.text } : WD) from O7.out.b.obj)
        cases bt with
        | true =>
          have TT9 := Lib.hid (tt rfl)
          have RR := Lib.hid FR.out.r.1
          clear tt tf tr
          go_wp2_with (refine wpList_load_mid rfl 36 _ rfl W 7 rfl (vRow d.vals) _ VR7.out.vrange Tryd.underlying36 rfl (info36 _) ?_)
          refine TBL.out.mono ?_
          rintro e w8 ⟨rfl, ⟨s8, l8, o8⟩, k8⟩
          have O8 := Lib.hid o8; have L8 := Lib.hid (L6.out.trans l8); have K8 := Lib.hid k8
          have BL8 : Hid (Below L w w8) := Lib.hid (BL7.out.trans (K8.out.lo LO5.out (O7.out.size LO5.out)))
          have B8 : Hid (WC w8 B dn) := Lib.hid (K8.out.keeps B7.out (by omega))
          clear l8 o8 k8 TBL VR7
          have O9' : Hid (WO w8 W ({ (({ ctrD d c with single := wipeF d.single 30, s := p5, t := t5 } : WD)) with id := dn.id, text := dn.text } : WD) x5 u s8) := O8
          have L9 := L8
          have B9 := B8
          have BL9 := BL8
          have Z0 : fSg s3.reset d 0 = wipeF d.single 30 := fSg_zero _ _
          have O9 : Hid (∃ s', s3.reset.Le s' ∧ WO w8 W { (({ (({ ctrD d c with single := wipeF d.single 30, s := p5, t := t5 } : WD)) with id := dn.id, text := dn.text } : WD)) with single := fSg s3.reset d 0 } x5 u s') := Lib.hid (by rw [Z0]; exact ⟨_, L9.out, O9'.out⟩)
          clear Z0
          go_wp2_with (fail)
          go_loopw [7] (fun i wr => ∃ k : Nat, k ≤ 20 ∧ i = .int .i64 k ∧ (∃ s', s3.reset.Le s' ∧ WO wr W { (({ (({ ctrD d c with single := wipeF d.single 30, s := p5, t := t5 } : WD)) with id := dn.id, text := dn.text } : WD)) with single := fSg s3.reset d k } x5 u s') ∧ WC wr B dn ∧ Below L w wr) (fun i _ => 20 - (intOf i).toNat)
          case atStart => exact ⟨0, by omega, rfl, O9.out, B9.out, BL9.out⟩
          case round =>
            clear O9 O9' L9 B9 BL9
            obtain ⟨k, hk, rfl, ⟨s10, l10, o10⟩, b10, bl10⟩ := hrel
            have O10 := Lib.hid o10; have L10 := Lib.hid l10; have B10 := Lib.hid b10; have BL10 := Lib.hid bl10
            clear o10 l10 b10 bl10
            by_cases hlt : k < 20
            · have dk : decide ((k : Int) < 20) = true := by simp; omega
              have wk : IntKind.i64.wrap (92 + (k : Int)) = 92 + (k : Int) := by rw [IntKind.wrap_i64]; omega
              have a0 : wr.cell? ⟨W, 0, none⟩ = some (.pointer (some ⟨x5.bm, 0, none⟩)) := O10.out.cs.1
              have a3 : wr.cell? ⟨W, 3, none⟩ = some (.int .i64 92) := O10.out.cs.2.2.2.1
              have hWr := O10.out.b.obj.lt
              have RD := Lib.hid ((O10.out.below (Below.refl wr.heap.size wr).drew).read (92 + k) (by omega))
              rw [show ((92 + k : Nat) : Int) = 92 + (k : Int) by omega, L10.out.v] at RD
              generalize hV : s3.reset.v (92 + k) = V at *
              generalize ((s10.kind (92 + k) : Nat) : Int) = kd at *
              have HV := Lib.hid hV
              clear hV
              go_upto_region 13 with (fail)
              go_region_held3 (fun w' => w'.cell? ⟨W, 0, none⟩ = some (.pointer (some ⟨x5.bm, 0, none⟩)) ∧ w'.cell? ⟨W, 3, none⟩ = some (.int .i64 92)) (go_keep) ((first | (go_at_call 12; refine RD.out.mono ?_; rintro e w11 ⟨rfl, ⟨s11, l11, o11⟩, k11⟩; have O11 := Lib.hid o11; have L11 := Lib.hid (L10.out.trans l11); have K11 : Hid (MK x5.bm x5.bw wr w11) := Lib.hid ((MK.below (Below.refl wr.heap.size wr).drew).trans k11); have B11 := Lib.hid (K11.out.keeps B10.out (by omega)); have a0' : w11.cell? ⟨W, 0, none⟩ = some (.pointer (some ⟨x5.bm, 0, none⟩)) := o11.cs.1; have a3' : w11.cell? ⟨W, 3, none⟩ = some (.int .i64 92) := o11.cs.2.2.2.1; clear l11 o11 k11)))
              have BL11 : Hid (Below L w w11) := Lib.hid (BL10.out.trans (K11.out.lo LO5.out (O10.out.size LO5.out)))
              have hW11 := O11.out.b.obj.lt
              have hB11 := (show WC w11 B dn from B11.out).lt
              have nb : w11.cell? ⟨B, 15 + k, none⟩ = some (.int .u32 (dn.single k)) := (show WC w11 B dn from B11.out).sing k (by omega)
              have nw := O11.out.b.obj.sing k (by omega)
              have nz : ∀ j, w11.frozen? ⟨W, j, none⟩ = false := fun j => O11.out.b.obj.free j
              clear RD a0 a3 a0' a3'
              by_cases hv : V = dn.single k
              · subst hv
                have e1 : (((dn.single k : Nat) : Int) == ((dn.single k : Nat) : Int)) = true := by simp
                have NX : Hid (WO (w11.setCell ⟨W, 15 + k, none⟩ (.int .u32 (dn.single k))) W { (({ (({ ctrD d c with single := wipeF d.single 30, s := p5, t := t5 } : WD)) with id := dn.id, text := dn.text } : WD)) with single := fSg s3.reset d (k + 1) } x5 u s11) := Lib.hid (by
                  have o := O11.out.b.obj.set (15 + k) (.int .u32 (dn.single k)) (fun j hj => wcell_single _ k (dn.single k) (by omega) j hj)
                  rw [fSg_store, HV.out]
                  exact O11.out.put (mod_at (Mod.refl _ _) _) o ⟨rfl, rfl, rfl, rfl, rfl⟩)
                have NB2 : Hid (WC (w11.setCell ⟨W, 15 + k, none⟩ (.int .u32 (dn.single k))) B dn) := Lib.hid (hp_set_ne B11.out NBm.1 _)
                have NL2 : Hid (Below L w (w11.setCell ⟨W, 15 + k, none⟩ (.int .u32 (dn.single k)))) := Lib.hid (BL11.out.setCell LO5.out.W _)
                go_wp2_with (fail)
                exact ⟨⟨k + 1, by omega, by go_num, ⟨_, L11.out, NX.out⟩, NB2.out, NL2.out⟩, by simp [intOf]; omega⟩
              · have e1 : (((V : Nat) : Int) == ((dn.single k : Nat) : Int)) = false := by simp; omega
                have NX : Hid (WO w11 W { (({ (({ ctrD d c with single := wipeF d.single 30, s := p5, t := t5 } : WD)) with id := dn.id, text := dn.text } : WD)) with single := fSg s3.reset d (k + 1) } x5 u s11) := Lib.hid (by
                  rw [fSg_skip hlt ?_]
                  · exact O11.out
                  · rcases FR.out.sg k hlt with e | e
                    · exact e
                    · rw [HV.out] at e; exact absurd e hv)
                go_wp2_with (fail)
                exact ⟨⟨k + 1, by omega, by go_num, ⟨_, L11.out, NX.out⟩, B11.out, BL11.out⟩, by simp [intOf]; omega⟩
            · have e : k = 20 := by omega
              subst e
              have dk : decide (((20 : Nat) : Int) < 20) = false := by decide
              have FIN : Hid (StpQ (N + 1) L W w (.returned (.bool true)) wr) := Lib.hid ⟨rfl, ⟨_, x5, u, s10, O10.out, LO5.out, flr_end (d3 := ({ (({ ctrD d c with single := wipeF d.single 30, s := p5, t := t5 } : WD)) with id := dn.id, text := dn.text } : WD)) FR.out L10.out PP.out TT9.out RR.out HC.out, L10.out.f1 rfl⟩, BL10.out⟩
              go_wp2_with (fail)
              go_ret
              exact FIN.out
        | false =>
          have TT9 := Lib.hid (tf rfl)
          have RR := Lib.hid FR.out.r.2
          clear tt tf tr
          go_wp2_with (refine wpList_load_mid rfl 36 _ rfl W 7 rfl (vRow d.vals) _ VR7.out.vrange Tryd.underlying36 rfl (info36 _) ?_)
          refine TBL.out.mono ?_
          rintro e w8 ⟨rfl, ⟨s8, l8, o8⟩, k8⟩
          have O8 := Lib.hid o8; have L8 := Lib.hid (L6.out.trans l8); have K8 := Lib.hid k8
          have BL8 : Hid (Below L w w8) := Lib.hid (BL7.out.trans (K8.out.lo LO5.out (O7.out.size LO5.out)))
          have B8 : Hid (WC w8 B dn) := Lib.hid (K8.out.keeps B7.out (by omega))
          clear l8 o8 k8 TBL VR7
          have RA := Lib.hid O8.out.b.obj
          have O9' : Hid (WO (w8.setCells W 7 (vRow dn.vals)) W ({ (({ (({ ctrD d c with single := wipeF d.single 30, s := p5, t := t5 } : WD)) with id := dn.id, text := dn.text } : WD)) with vals := dn.vals } : WD) x5 u s8) := Lib.hid (O8.out.put (mod_cells _ _ _ (Mod.refl _ _)) (wc_vals RA.out dn.vals) ⟨rfl, rfl, rfl, rfl, rfl⟩)
          have L9 := L8
          have B9 : Hid (WC (w8.setCells W 7 (vRow dn.vals)) B dn) := Lib.hid ((mod_cells (W := W) (vRow dn.vals) 7 _ (Mod.refl _ w8)).keeps B8.out NBm.1)
          have BL9 : Hid (Below L w (w8.setCells W 7 (vRow dn.vals))) := Lib.hid (BL8.out.trans (Mod.below (mod_cells (W := W) (vRow dn.vals) 7 _ (Mod.refl _ w8)) (O8.out.size LO5.out) (fun k e => by rw [e]; exact LO5.out.W)))
          go_upto_region 10 with (first | (refine wpList_load_mid rfl 36 _ rfl B 7 rfl (vRow dn.vals) _ B8.out.vrange Tryd.underlying36 rfl (info36 _) ?_) | (refine wpList_store_mid rfl 36 _ _ rfl W 7 (vRow dn.vals).toArray rfl rfl (by rw [List.size_toArray, vRow_len]; exact RA.out.there 7 8 (by omega)) (by rw [List.size_toArray]; exact info36 _) (vRow_one _) ?_))
          generalize w8.setCells W 7 (vRow dn.vals) = w9 at *
          have Z0 : fSg s3.reset d 0 = wipeF d.single 30 := fSg_zero _ _
          have O9 : Hid (∃ s', s3.reset.Le s' ∧ WO w9 W { (({ (({ (({ ctrD d c with single := wipeF d.single 30, s := p5, t := t5 } : WD)) with id := dn.id, text := dn.text } : WD)) with vals := dn.vals } : WD)) with single := fSg s3.reset d 0 } x5 u s') := Lib.hid (by rw [Z0]; exact ⟨_, L9.out, O9'.out⟩)
          clear Z0
          go_wp2_with (fail)
          go_loopw [7] (fun i wr => ∃ k : Nat, k ≤ 20 ∧ i = .int .i64 k ∧ (∃ s', s3.reset.Le s' ∧ WO wr W { (({ (({ (({ ctrD d c with single := wipeF d.single 30, s := p5, t := t5 } : WD)) with id := dn.id, text := dn.text } : WD)) with vals := dn.vals } : WD)) with single := fSg s3.reset d k } x5 u s') ∧ WC wr B dn ∧ Below L w wr) (fun i _ => 20 - (intOf i).toNat)
          case atStart => exact ⟨0, by omega, rfl, O9.out, B9.out, BL9.out⟩
          case round =>
            clear O9 O9' L9 B9 BL9
            obtain ⟨k, hk, rfl, ⟨s10, l10, o10⟩, b10, bl10⟩ := hrel
            have O10 := Lib.hid o10; have L10 := Lib.hid l10; have B10 := Lib.hid b10; have BL10 := Lib.hid bl10
            clear o10 l10 b10 bl10
            by_cases hlt : k < 20
            · have dk : decide ((k : Int) < 20) = true := by simp; omega
              have wk : IntKind.i64.wrap (92 + (k : Int)) = 92 + (k : Int) := by rw [IntKind.wrap_i64]; omega
              have a0 : wr.cell? ⟨W, 0, none⟩ = some (.pointer (some ⟨x5.bm, 0, none⟩)) := O10.out.cs.1
              have a3 : wr.cell? ⟨W, 3, none⟩ = some (.int .i64 92) := O10.out.cs.2.2.2.1
              have hWr := O10.out.b.obj.lt
              have RD := Lib.hid ((O10.out.below (Below.refl wr.heap.size wr).drew).read (92 + k) (by omega))
              rw [show ((92 + k : Nat) : Int) = 92 + (k : Int) by omega, L10.out.v] at RD
              generalize hV : s3.reset.v (92 + k) = V at *
              generalize ((s10.kind (92 + k) : Nat) : Int) = kd at *
              have HV := Lib.hid hV
              clear hV
              go_upto_region 13 with (fail)
              go_region_held3 (fun w' => w'.cell? ⟨W, 0, none⟩ = some (.pointer (some ⟨x5.bm, 0, none⟩)) ∧ w'.cell? ⟨W, 3, none⟩ = some (.int .i64 92)) (go_keep) ((first | (go_at_call 12; refine RD.out.mono ?_; rintro e w11 ⟨rfl, ⟨s11, l11, o11⟩, k11⟩; have O11 := Lib.hid o11; have L11 := Lib.hid (L10.out.trans l11); have K11 : Hid (MK x5.bm x5.bw wr w11) := Lib.hid ((MK.below (Below.refl wr.heap.size wr).drew).trans k11); have B11 := Lib.hid (K11.out.keeps B10.out (by omega)); have a0' : w11.cell? ⟨W, 0, none⟩ = some (.pointer (some ⟨x5.bm, 0, none⟩)) := o11.cs.1; have a3' : w11.cell? ⟨W, 3, none⟩ = some (.int .i64 92) := o11.cs.2.2.2.1; clear l11 o11 k11)))
              have BL11 : Hid (Below L w w11) := Lib.hid (BL10.out.trans (K11.out.lo LO5.out (O10.out.size LO5.out)))
              have hW11 := O11.out.b.obj.lt
              have hB11 := (show WC w11 B dn from B11.out).lt
              have nb : w11.cell? ⟨B, 15 + k, none⟩ = some (.int .u32 (dn.single k)) := (show WC w11 B dn from B11.out).sing k (by omega)
              have nw := O11.out.b.obj.sing k (by omega)
              have nz : ∀ j, w11.frozen? ⟨W, j, none⟩ = false := fun j => O11.out.b.obj.free j
              clear RD a0 a3 a0' a3'
              by_cases hv : V = dn.single k
              · subst hv
                have e1 : (((dn.single k : Nat) : Int) == ((dn.single k : Nat) : Int)) = true := by simp
                have NX : Hid (WO (w11.setCell ⟨W, 15 + k, none⟩ (.int .u32 (dn.single k))) W { (({ (({ (({ ctrD d c with single := wipeF d.single 30, s := p5, t := t5 } : WD)) with id := dn.id, text := dn.text } : WD)) with vals := dn.vals } : WD)) with single := fSg s3.reset d (k + 1) } x5 u s11) := Lib.hid (by
                  have o := O11.out.b.obj.set (15 + k) (.int .u32 (dn.single k)) (fun j hj => wcell_single _ k (dn.single k) (by omega) j hj)
                  rw [fSg_store, HV.out]
                  exact O11.out.put (mod_at (Mod.refl _ _) _) o ⟨rfl, rfl, rfl, rfl, rfl⟩)
                have NB2 : Hid (WC (w11.setCell ⟨W, 15 + k, none⟩ (.int .u32 (dn.single k))) B dn) := Lib.hid (hp_set_ne B11.out NBm.1 _)
                have NL2 : Hid (Below L w (w11.setCell ⟨W, 15 + k, none⟩ (.int .u32 (dn.single k)))) := Lib.hid (BL11.out.setCell LO5.out.W _)
                go_wp2_with (fail)
                exact ⟨⟨k + 1, by omega, by go_num, ⟨_, L11.out, NX.out⟩, NB2.out, NL2.out⟩, by simp [intOf]; omega⟩
              · have e1 : (((V : Nat) : Int) == ((dn.single k : Nat) : Int)) = false := by simp; omega
                have NX : Hid (WO w11 W { (({ (({ (({ ctrD d c with single := wipeF d.single 30, s := p5, t := t5 } : WD)) with id := dn.id, text := dn.text } : WD)) with vals := dn.vals } : WD)) with single := fSg s3.reset d (k + 1) } x5 u s11) := Lib.hid (by
                  rw [fSg_skip hlt ?_]
                  · exact O11.out
                  · rcases FR.out.sg k hlt with e | e
                    · exact e
                    · rw [HV.out] at e; exact absurd e hv)
                go_wp2_with (fail)
                exact ⟨⟨k + 1, by omega, by go_num, ⟨_, L11.out, NX.out⟩, B11.out, BL11.out⟩, by simp [intOf]; omega⟩
            · have e : k = 20 := by omega
              subst e
              have dk : decide (((20 : Nat) : Int) < 20) = false := by decide
              have FIN : Hid (StpQ (N + 1) L W w (.returned (.bool true)) wr) := Lib.hid ⟨rfl, ⟨_, x5, u, s10, O10.out, LO5.out, flr_end (d3 := ({ (({ (({ ctrD d c with single := wipeF d.single 30, s := p5, t := t5 } : WD)) with id := dn.id, text := dn.text } : WD)) with vals := dn.vals } : WD)) FR.out L10.out PP.out TT9.out RR.out HC.out, L10.out.f1 rfl⟩, BL10.out⟩
              go_wp2_with (fail)
              go_ret
              exact FIN.out
    all_goals exact False.elim hm
  refine wp_region_held_drew (S := fun w' => w'.heap[w.heap.size]? = some (.cells (blA b) 24)) (by kernel_rfl) VD (fun hHeld => ?_)
  refine wpAnyH_take (i := 0) (v := Value.pointer (some ⟨W, 0, none⟩)) rfl (by kernel_rfl) (by kernel_rfl) (by kernel_rfl) (fun _ _ _ h => h) (Or.inl ⟨by rfl, ?_⟩) (by assumption) ?_
  · intro w' hSw; go_simp
  try simp only [Act.put, List.getElem_toArray, List.getElem_cons_zero, List.getElem_cons_succ, List.setIfInBounds_toArray, List.set_cons_zero, List.set_cons_succ]
  refine wpAnyH_take (i := 1) (v := Value.pointer (some ⟨w.heap.size, 2, none⟩)) rfl (by kernel_rfl) (by kernel_rfl) (by kernel_rfl) (fun _ _ _ h => h) (Or.inl ⟨by rfl, ?_⟩) (by assumption) ?_
  · intro w' hSw; go_simp
  try simp only [Act.put, List.getElem_toArray, List.getElem_cons_zero, List.getElem_cons_succ, List.setIfInBounds_toArray, List.set_cons_zero, List.set_cons_succ]
  refine wpAnyH_take (i := 2) (v := Value.int .i64 b.bit) rfl (by kernel_rfl) (by kernel_rfl) (by kernel_rfl) (fun _ _ _ h => h) (Or.inl ⟨by rfl, ?_⟩) (by assumption) ?_
  · intro w' hSw; have cc : w'.cell? ⟨w.heap.size, 2, none⟩ = some (.int .i64 b.bit) := cell_of hSw rfl; go_simp
  try simp only [Act.put, List.getElem_toArray, List.getElem_cons_zero, List.getElem_cons_succ, List.setIfInBounds_toArray, List.set_cons_zero, List.set_cons_succ]
  refine wpAnyH_take (i := 4) rfl (by kernel_rfl) (by kernel_rfl) (by kernel_rfl) (fun _ _ _ h => h) (yieldsIf_load_mid (by rfl) _ _ rfl w.heap.size 0 rfl _ _ (fun w' h => blA_range h) Tryd.underlying24 rfl (info24 _)) (by assumption) ?_
  try simp only [Array.toArray_toList]
  try simp only [Act.put, List.getElem_toArray, List.getElem_cons_zero, List.getElem_cons_succ, List.setIfInBounds_toArray, List.set_cons_zero, List.set_cons_succ]
  refine all2 3 9 (by kernel_rfl) ?_ ?_
  · refine op_call 3 14 #[.int .i64 b.bit, .int .i64 3] (some 24) ?_ (P3.out (w2.drew)) (fun e w' r => ?_)
    · refine ⟨_, by rfl, by rfl, by rfl, ?_⟩; go_simp
    obtain ⟨rfl, rfl⟩ := r
    refine ⟨_, rfl, VD, ?_⟩
    try simp only [Act.put, List.getElem_toArray, List.getElem_cons_zero, List.getElem_cons_succ, List.setIfInBounds_toArray, List.set_cons_zero, List.set_cons_succ]
    refine all2 5 9 (by kernel_rfl) ?_ ?_
    · refine op_call 5 13 #[.pointer (some ⟨W, 0, none⟩), .int .i64 b.kd, .agg (blA b)] (some 26) ?_ CHa.out (fun e w3 r => ?_)
      · refine ⟨_, by rfl, by rfl, by rfl, ?_⟩; go_simp
      obtain ⟨dn, d1, s3, er, rfl, o3, one3, ⟨bl3, md3⟩, hd3, hh3, _⟩ := r
      have V3 : w3.heap[w.heap.size]? = some (.cells (blA b) 24) := md3.keeps VD (by omega)
      refine ⟨_, rfl, V3, ?_⟩
      try simp only [Act.put, List.getElem_toArray, List.getElem_cons_zero, List.getElem_cons_succ, List.setIfInBounds_toArray, List.set_cons_zero, List.set_cons_succ]
      refine wpAnyH_take (i := 6) (v := Value.tuple #[.agg (wrow dn), .int .i64 er]) rfl (by kernel_rfl) (by kernel_rfl) (by kernel_rfl) (fun _ _ _ h => h) (Or.inl ⟨by rfl, ?_⟩) V3 ?_
      · intro w' hSw; go_simp
      try simp only [Act.put, List.getElem_toArray, List.getElem_cons_zero, List.getElem_cons_succ, List.setIfInBounds_toArray, List.set_cons_zero, List.set_cons_succ]
      refine wpAnyH_take (i := 7) (v := Value.agg (wrow dn)) rfl (by kernel_rfl) (by kernel_rfl) (by kernel_rfl) (fun _ _ _ h => h) (Or.inl ⟨by rfl, ?_⟩) V3 ?_
      · intro w' hSw; go_simp
      try simp only [Act.put, List.getElem_toArray, List.getElem_cons_zero, List.getElem_cons_succ, List.setIfInBounds_toArray, List.set_cons_zero, List.set_cons_succ]
      refine wpAnyH_take (i := 8) (v := Value.int .i64 er) rfl (by kernel_rfl) (by kernel_rfl) (by kernel_rfl) (fun _ _ _ h => h) (Or.inl ⟨by rfl, ?_⟩) V3 ?_
      · intro w' hSw; go_simp
      try simp only [Act.put, List.getElem_toArray, List.getElem_cons_zero, List.getElem_cons_succ, List.setIfInBounds_toArray, List.set_cons_zero, List.set_cons_succ]
      have NW := hp_new w3 (.cells zrow 40)
      have V4 : (w3.alloc (.cells zrow 40)).heap[w.heap.size]? = some (.cells (blA b) 24) := hp_old V3 _
      have hs3 := o3.size HL.out
      have hz3 : w2.heap.size ≤ w3.heap.size := md3.size
      refine all1 9 (by kernel_rfl) ?_
      refine op_alloc 9 40 (some 5) zrow ?_ (zero40 _) ⟨V4, ?_⟩
      · exact ⟨_, by rfl, by rfl, by rfl, by rfl⟩
      try simp only [Act.put, List.getElem_toArray, List.getElem_cons_zero, List.getElem_cons_succ, List.setIfInBounds_toArray, List.set_cons_zero, List.set_cons_succ]
      have FE := fla_end (dn := dn) H.out (o3.below (bl_alloc (Below.refl _ _) _)) NW (by have := LS2.out; omega) ((LO2.out.trans ((Below.refl L w2).drew.trans bl3)).trans ((bl_alloc (Below.refl _ _) _).mono hs3)) HL.out hd3 hh3
      have SS : (World.setRow (w3.alloc (.cells zrow 40)) (w3.heap.size) (wrow dn)).heap[w.heap.size]? = some (.cells (blA b) 24) := by rw [setRow_other _ _ _ _ (by have := LS2.out; omega)]; exact V4
      refine held_store_row 10 (by kernel_rfl) 40 (Operand.tmp 5) (Operand.tmp 27) ?_ (w3.heap.size) (wrow dn) rfl rfl 40 _ NW (info40 _) (by rw [zrow_size, wrow_size]) one3 SS ?_
      · exact ⟨_, by rfl, by rfl, by rfl, by rfl⟩
      refine held_assign 11 (by kernel_rfl) (Operand.tmp 28) (some 6) ?_ (.int .i64 er) rfl SS ?_
      · exact ⟨_, by rfl, by rfl, by rfl, by rfl⟩
      refine wpAnyH_done (by kernel_rfl) ?_ _
      try simp only [Act.put, List.getElem_toArray, List.getElem_cons_zero, List.getElem_cons_succ, List.setIfInBounds_toArray, List.set_cons_zero, List.set_cons_succ]
      exact ⟨_, dn, d1, s3, FE, _, _, _, _, _, _, _, _, _, _, _, _, _, _, _, _, _, _, _, _, _, _, _, _, _, _, _, _, _, _, _, _, _, _, _, _, _, _, _, _, _, _, _, _, _, _, _, _, _, _, _, _, _, _, _, _, _, _, _, _, _, _, _, _, _, _, _, _, _, _, _, _, _, _, _, _, _, _, _, _, _, _, _, _, _, _, _, _, _, _, _, _, _, _, _, _, _, _, rfl⟩
    · refine op_alloc 9 40 (some 5) zrow ?_ (zero40 _) ⟨VE, ?_⟩
      · exact ⟨_, by rfl, by rfl, by rfl, by rfl⟩
      try simp only [Act.put, List.getElem_toArray, List.getElem_cons_zero, List.getElem_cons_succ, List.setIfInBounds_toArray, List.set_cons_zero, List.set_cons_succ]
      refine all1 5 (by kernel_rfl) ?_
      refine op_call 5 13 #[.pointer (some ⟨W, 0, none⟩), .int .i64 b.kd, .agg (blA b)] (some 26) ?_ CHb.out (fun e w3 r => ?_)
      · refine ⟨_, by rfl, by rfl, by rfl, ?_⟩; go_simp
      obtain ⟨dn, d1, s3, er, rfl, o3, one3, ⟨bl3, md3⟩, hd3, hh3, _⟩ := r
      have V3 : w3.heap[w.heap.size]? = some (.cells (blA b) 24) := md3.keeps VE (by omega)
      have Z3 : w3.heap[w2.heap.size]? = some (.cells zrow 40) := md3.keeps NZ.out (by have := LS2.out; omega)
      refine ⟨_, rfl, V3, ?_⟩
      try simp only [Act.put, List.getElem_toArray, List.getElem_cons_zero, List.getElem_cons_succ, List.setIfInBounds_toArray, List.set_cons_zero, List.set_cons_succ]
      refine wpAnyH_take (i := 6) (v := Value.tuple #[.agg (wrow dn), .int .i64 er]) rfl (by kernel_rfl) (by kernel_rfl) (by kernel_rfl) (fun _ _ _ h => h) (Or.inl ⟨by rfl, ?_⟩) V3 ?_
      · intro w' hSw; go_simp
      try simp only [Act.put, List.getElem_toArray, List.getElem_cons_zero, List.getElem_cons_succ, List.setIfInBounds_toArray, List.set_cons_zero, List.set_cons_succ]
      refine wpAnyH_take (i := 7) (v := Value.agg (wrow dn)) rfl (by kernel_rfl) (by kernel_rfl) (by kernel_rfl) (fun _ _ _ h => h) (Or.inl ⟨by rfl, ?_⟩) V3 ?_
      · intro w' hSw; go_simp
      try simp only [Act.put, List.getElem_toArray, List.getElem_cons_zero, List.getElem_cons_succ, List.setIfInBounds_toArray, List.set_cons_zero, List.set_cons_succ]
      refine wpAnyH_take (i := 8) (v := Value.int .i64 er) rfl (by kernel_rfl) (by kernel_rfl) (by kernel_rfl) (fun _ _ _ h => h) (Or.inl ⟨by rfl, ?_⟩) V3 ?_
      · intro w' hSw; go_simp
      try simp only [Act.put, List.getElem_toArray, List.getElem_cons_zero, List.getElem_cons_succ, List.setIfInBounds_toArray, List.set_cons_zero, List.set_cons_succ]
      have FE := fla_end (dn := dn) H.out o3 Z3 (by have := LS2.out; omega) (LO2.out.trans (Below.trans (BLb.out.mono (O2.out.size HL.out)) bl3)) HL.out hd3 hh3
      have SS : (World.setRow (w3) (w2.heap.size) (wrow dn)).heap[w.heap.size]? = some (.cells (blA b) 24) := by rw [setRow_other _ _ _ _ (by have := LS2.out; omega)]; exact V3
      refine held_store_row 10 (by kernel_rfl) 40 (Operand.tmp 5) (Operand.tmp 27) ?_ (w2.heap.size) (wrow dn) rfl rfl 40 _ Z3 (info40 _) (by rw [zrow_size, wrow_size]) one3 SS ?_
      · exact ⟨_, by rfl, by rfl, by rfl, by rfl⟩
      refine held_assign 11 (by kernel_rfl) (Operand.tmp 28) (some 6) ?_ (.int .i64 er) rfl SS ?_
      · exact ⟨_, by rfl, by rfl, by rfl, by rfl⟩
      refine wpAnyH_done (by kernel_rfl) ?_ _
      try simp only [Act.put, List.getElem_toArray, List.getElem_cons_zero, List.getElem_cons_succ, List.setIfInBounds_toArray, List.set_cons_zero, List.set_cons_succ]
      exact ⟨_, dn, d1, s3, FE, _, _, _, _, _, _, _, _, _, _, _, _, _, _, _, _, _, _, _, _, _, _, _, _, _, _, _, _, _, _, _, _, _, _, _, _, _, _, _, _, _, _, _, _, _, _, _, _, _, _, _, _, _, _, _, _, _, _, _, _, _, _, _, _, _, _, _, _, _, _, _, _, _, _, _, _, _, _, _, _, _, _, _, _, _, _, _, _, _, _, _, _, _, _, _, _, _, _, rfl⟩
  · refine op_alloc 9 40 (some 5) zrow ?_ (zero40 _) ⟨VE, ?_⟩
    · exact ⟨_, by rfl, by rfl, by rfl, by rfl⟩
    try simp only [Act.put, List.getElem_toArray, List.getElem_cons_zero, List.getElem_cons_succ, List.setIfInBounds_toArray, List.set_cons_zero, List.set_cons_succ]
    refine all1 3 (by kernel_rfl) ?_
    refine op_call 3 14 #[.int .i64 b.bit, .int .i64 3] (some 24) ?_ (P3.out (w2.drew.alloc (.cells zrow 40))) (fun e w' r => ?_)
    · refine ⟨_, by rfl, by rfl, by rfl, ?_⟩; go_simp
    obtain ⟨rfl, rfl⟩ := r
    refine ⟨_, rfl, VE, ?_⟩
    try simp only [Act.put, List.getElem_toArray, List.getElem_cons_zero, List.getElem_cons_succ, List.setIfInBounds_toArray, List.set_cons_zero, List.set_cons_succ]
    refine all1 5 (by kernel_rfl) ?_
    refine op_call 5 13 #[.pointer (some ⟨W, 0, none⟩), .int .i64 b.kd, .agg (blA b)] (some 26) ?_ CHb.out (fun e w3 r => ?_)
    · refine ⟨_, by rfl, by rfl, by rfl, ?_⟩; go_simp
    obtain ⟨dn, d1, s3, er, rfl, o3, one3, ⟨bl3, md3⟩, hd3, hh3, _⟩ := r
    have V3 : w3.heap[w.heap.size]? = some (.cells (blA b) 24) := md3.keeps VE (by omega)
    have Z3 : w3.heap[w2.heap.size]? = some (.cells zrow 40) := md3.keeps NZ.out (by have := LS2.out; omega)
    refine ⟨_, rfl, V3, ?_⟩
    try simp only [Act.put, List.getElem_toArray, List.getElem_cons_zero, List.getElem_cons_succ, List.setIfInBounds_toArray, List.set_cons_zero, List.set_cons_succ]
    refine wpAnyH_take (i := 6) (v := Value.tuple #[.agg (wrow dn), .int .i64 er]) rfl (by kernel_rfl) (by kernel_rfl) (by kernel_rfl) (fun _ _ _ h => h) (Or.inl ⟨by rfl, ?_⟩) V3 ?_
    · intro w' hSw; go_simp
    try simp only [Act.put, List.getElem_toArray, List.getElem_cons_zero, List.getElem_cons_succ, List.setIfInBounds_toArray, List.set_cons_zero, List.set_cons_succ]
    refine wpAnyH_take (i := 7) (v := Value.agg (wrow dn)) rfl (by kernel_rfl) (by kernel_rfl) (by kernel_rfl) (fun _ _ _ h => h) (Or.inl ⟨by rfl, ?_⟩) V3 ?_
    · intro w' hSw; go_simp
    try simp only [Act.put, List.getElem_toArray, List.getElem_cons_zero, List.getElem_cons_succ, List.setIfInBounds_toArray, List.set_cons_zero, List.set_cons_succ]
    refine wpAnyH_take (i := 8) (v := Value.int .i64 er) rfl (by kernel_rfl) (by kernel_rfl) (by kernel_rfl) (fun _ _ _ h => h) (Or.inl ⟨by rfl, ?_⟩) V3 ?_
    · intro w' hSw; go_simp
    try simp only [Act.put, List.getElem_toArray, List.getElem_cons_zero, List.getElem_cons_succ, List.setIfInBounds_toArray, List.set_cons_zero, List.set_cons_succ]
    have FE := fla_end (dn := dn) H.out o3 Z3 (by have := LS2.out; omega) (LO2.out.trans (Below.trans (BLb.out.mono (O2.out.size HL.out)) bl3)) HL.out hd3 hh3
    have SS : (World.setRow (w3) (w2.heap.size) (wrow dn)).heap[w.heap.size]? = some (.cells (blA b) 24) := by rw [setRow_other _ _ _ _ (by have := LS2.out; omega)]; exact V3
    refine held_store_row 10 (by kernel_rfl) 40 (Operand.tmp 5) (Operand.tmp 27) ?_ (w2.heap.size) (wrow dn) rfl rfl 40 _ Z3 (info40 _) (by rw [zrow_size, wrow_size]) one3 SS ?_
    · exact ⟨_, by rfl, by rfl, by rfl, by rfl⟩
    refine held_assign 11 (by kernel_rfl) (Operand.tmp 28) (some 6) ?_ (.int .i64 er) rfl SS ?_
    · exact ⟨_, by rfl, by rfl, by rfl, by rfl⟩
    refine wpAnyH_done (by kernel_rfl) ?_ _
    try simp only [Act.put, List.getElem_toArray, List.getElem_cons_zero, List.getElem_cons_succ, List.setIfInBounds_toArray, List.set_cons_zero, List.set_cons_succ]
    exact ⟨_, dn, d1, s3, FE, _, _, _, _, _, _, _, _, _, _, _, _, _, _, _, _, _, _, _, _, _, _, _, _, _, _, _, _, _, _, _, _, _, _, _, _, _, _, _, _, _, _, _, _, _, _, _, _, _, _, _, _, _, _, _, _, _, _, _, _, _, _, _, _, _, _, _, _, _, _, _, _, _, _, _, _, _, _, _, _, _, _, _, _, _, _, _, _, _, _, _, _, _, _, _, _, _, _, rfl⟩
end Go.Proofs.YtdebfniifijjoaaDoor
