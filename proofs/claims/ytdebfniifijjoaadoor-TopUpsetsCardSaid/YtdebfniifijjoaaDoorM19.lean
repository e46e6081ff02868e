/-
  The walk of sound. Conditions: a world as it lies, that contains what it should.
-/
import Derived.Test.YtdebfniifijjoaaDoorM18
import Derived.Test.YtdebfniifijjoaaDoorM05
namespace Go.Proofs.YtdebfniifijjoaaDoor
open Go.RowKit Kit Go.Shelf
set_option linter.unusedVariables false
theorem RdW.trans {w w1 w2 : World} {W : Nat} {d : WD} {x : WX} {u : Nat → Bool} {s s1 : MS} (l : s.Le s1) (k : MK x.bm x.bw w w1) (h : RdW w1 W d x u s1 w2) : RdW w W d x u s w2 := by
  obtain ⟨⟨s', l', o⟩, k'⟩ := h
  exact ⟨⟨s', l.trans l', o⟩, k.trans k'⟩
theorem info36 (f : Nat → Int) : (Tryd.prog.info? 36).map (·.size) = some (vRow f).length := by rw [vRow_len]; kernel_rfl
theorem info37 (f : Nat → Nat) : (Tryd.prog.info? 37).map (·.size) = some (sRow f).length := by rw [sRow_len]; kernel_rfl
theorem WC.vcells {w : World} {W : Nat} {d : WD} (h : WC w W d) : w.cell? ⟨W, 7, none⟩ = some (.int .i64 (d.vals 0)) ∧ w.cell? ⟨W, 8, none⟩ = some (.int .i64 (d.vals 1)) ∧ w.cell? ⟨W, 9, none⟩ = some (.int .i64 (d.vals 2)) ∧ w.cell? ⟨W, 10, none⟩ = some (.int .i64 (d.vals 3)) ∧ w.cell? ⟨W, 11, none⟩ = some (.int .i64 (d.vals 4)) ∧ w.cell? ⟨W, 12, none⟩ = some (.int .i64 (d.vals 5)) ∧ w.cell? ⟨W, 13, none⟩ = some (.int .i64 (d.vals 6)) ∧ w.cell? ⟨W, 14, none⟩ = some (.int .i64 (d.vals 7)) :=
  ⟨h.vals 0 (by omega), h.vals 1 (by omega), h.vals 2 (by omega), h.vals 3 (by omega), h.vals 4 (by omega), h.vals 5 (by omega), h.vals 6 (by omega), h.vals 7 (by omega)⟩
theorem vRow_lit (f : Nat → Int) : (vRow f).toArray = #[.int .i64 (f 0), .int .i64 (f 1), .int .i64 (f 2), .int .i64 (f 3), .int .i64 (f 4), .int .i64 (f 5), .int .i64 (f 6), .int .i64 (f 7)] := rfl
/-- A world contains what it should. -/
structure Snd (d : WD) (s : MS) : Prop where
  p : pat (viewB s.v 0 64) d.id d.text = true
  t : TVw (viewB s.v 42 80) d.vals
  r : VR d.vals
  s : ∀ i, i < 30 → s.v (92 + i) = d.single i
theorem Snd.le {d : WD} {s s' : MS} (h : Snd d s) (l : s.Le s') : Snd d s' := ⟨by rw [l.v]; exact h.p, by rw [l.v]; exact h.t, h.r, fun i hi => by rw [l.v]; exact h.s i hi⟩
theorem WO.read {w : World} {W : Nat} {d : WD} {x : WX} {u : Nat → Bool} {s : MS} (h : WO w W d x u s) (i : Nat) (hi : i < 122) :
    Calls Tryd.prog 12 #[.pointer (some ⟨x.bm, 0, none⟩), .int .i64 i] w fun e w' => e = .returned (.tuple #[.int .u32 (s.v i), .int .i64 (s.kind i), .int .i64 0]) ∧ RdW w W d x u s w' :=
  (read3_any h.b.me h.b.tab i hi).mono fun e w' ⟨he, m, k⟩ => ⟨he, ⟨_, le_rd s i, h.rd m k⟩, k⟩
set_option maxRecDepth 100000 in
set_option maxHeartbeats 1600000 in
theorem sound_any {w : World} {W : Nat} {d : WD} {x : WX} {u : Nat → Bool} {s : MS} (h : WO w W d x u s) (hs : Snd d s) :
    Calls Tryd.prog 5 #[.pointer (some ⟨W, 0, none⟩)] w fun e w' => PatQ true W d x u s w e w' := by
  have H := Lib.hid h
  have HS := Lib.hid hs
  have c5 : w.cell? ⟨W, 5, none⟩ = some (.string d.text) := h.cs.2.2.2.2.2.1
  have c6 : w.cell? ⟨W, 6, none⟩ = some (.int .u32 d.id) := h.cs.2.2.2.2.2.2.1
  obtain ⟨q0, q1, q2, q3, q4, q5, q6, q7⟩ := h.b.obj.vcells
  have hW := h.b.obj.lt
  have PT := Lib.hid (patch_any (h.below (Below.refl w.heap.size w).drew) d.id d.text)
  rw [hs.p] at PT
  have TB := Lib.hid (fun (w' : World) (s' : MS) (l : s.Le s') (o : WO w' W d x u s') => table_w o (hs.le l).t hs.r d.vals)
  have TT1 : tabE d.vals d.vals = true := tabE_true.2 (fun _ _ => rfl)
  rw [TT1, vRow_lit] at TB
  have FIN : Hid (∀ (w' : World), RdW w W d x u s w' → PatQ true W d x u s w (.returned (.bool true)) w') := Lib.hid (fun w' r => ⟨rfl, r⟩)
  clear h hs TT1
  go_enter Tryd.func5, Tryd.ntmps5
  go_wp2_with (fail)
  go_region_held3 (fun w' => w'.cell? ⟨W, 5, none⟩ = some (.string d.text) ∧ w'.cell? ⟨W, 6, none⟩ = some (.int .u32 d.id) ∧ w'.cell? ⟨W, 7, none⟩ = some (.int .i64 (d.vals 0)) ∧ w'.cell? ⟨W, 8, none⟩ = some (.int .i64 (d.vals 1)) ∧ w'.cell? ⟨W, 9, none⟩ = some (.int .i64 (d.vals 2)) ∧ w'.cell? ⟨W, 10, none⟩ = some (.int .i64 (d.vals 3)) ∧ w'.cell? ⟨W, 11, none⟩ = some (.int .i64 (d.vals 4)) ∧ w'.cell? ⟨W, 12, none⟩ = some (.int .i64 (d.vals 5)) ∧ w'.cell? ⟨W, 13, none⟩ = some (.int .i64 (d.vals 6)) ∧ w'.cell? ⟨W, 14, none⟩ = some (.int .i64 (d.vals 7))) (go_keep) ((first | (go_at_call 10; refine PT.out.mono ?_; rintro e w1 ⟨rfl, ⟨s1, l1, o1⟩, k1⟩; have O1 := Lib.hid o1; have L1 := Lib.hid l1; have K1 : Hid (MK x.bm x.bw w w1) := Lib.hid ((MK.below (Below.refl w.heap.size w).drew).trans k1); have e5 : w1.cell? ⟨W, 5, none⟩ = some (.string d.text) := o1.cs.2.2.2.2.2.1; have e6 : w1.cell? ⟨W, 6, none⟩ = some (.int .u32 d.id) := o1.cs.2.2.2.2.2.2.1; obtain ⟨p0, p1, p2, p3, p4, p5, p6, p7⟩ := o1.b.obj.vcells; have hW1 := o1.b.obj.lt; have TB1 := Lib.hid (TB.out w1 s1 l1 o1); clear l1 o1 k1) | (go_at_call 11; refine TB1.out.mono ?_; rintro e w2 ⟨rfl, ⟨s2, l2, o2⟩, k2⟩; have O2 := Lib.hid o2; have L2 := Lib.hid l2; have K2 := Lib.hid k2; have f5 : w2.cell? ⟨W, 5, none⟩ = some (.string d.text) := o2.cs.2.2.2.2.2.1; have f6 : w2.cell? ⟨W, 6, none⟩ = some (.int .u32 d.id) := o2.cs.2.2.2.2.2.2.1; obtain ⟨r0, r1, r2, r3, r4, r5, r6, r7⟩ := o2.b.obj.vcells; clear l2 o2 k2)))
  have R2 : Hid ((∃ s', s.Le s' ∧ WO w2 W d x u s') ∧ MK x.bm x.bw w w2) := Lib.hid ⟨⟨s2, L1.out.trans L2.out, O2.out⟩, K1.out.trans K2.out⟩
  clear O1 L1 K1 e5 e6 p0 p1 p2 p3 p4 p5 p6 p7 f5 f6 r0 r1 r2 r3 r4 r5 r6 r7 q0 q1 q2 q3 q4 q5 q6 q7 c5 c6 TB TB1 PT O2 L2 K2
  go_wp2_with (fail)
  go_loopw [3] (fun i wr => ∃ k : Nat, k ≤ 30 ∧ i = .int .i64 k ∧ (∃ s', s.Le s' ∧ WO wr W d x u s') ∧ MK x.bm x.bw w wr) (fun i _ => 30 - (intOf i).toNat)
  case atStart => exact ⟨0, by omega, rfl, R2.out.1, R2.out.2⟩
  case round =>
    clear R2
    obtain ⟨k, hk, rfl, ⟨s3, l3, o3⟩, k3⟩ := hrel
    have O3 := Lib.hid o3; have L3 := Lib.hid l3; have K3 := Lib.hid k3
    clear o3 l3 k3
    by_cases hlt : k < 30
    · have dk : decide ((k : Int) < 30) = true := by simp; omega
      have wk : IntKind.i64.wrap (92 + (k : Int)) = 92 + (k : Int) := by rw [IntKind.wrap_i64]; omega
      have a0 : wr.cell? ⟨W, 0, none⟩ = some (.pointer (some ⟨x.bm, 0, none⟩)) := O3.out.cs.1
      have a3 : wr.cell? ⟨W, 3, none⟩ = some (.int .i64 92) := O3.out.cs.2.2.2.1
      have hWr := O3.out.b.obj.lt
      have RD := Lib.hid ((O3.out.below (Below.refl wr.heap.size wr).drew).read (92 + k) (by omega))
      rw [show ((92 + k : Nat) : Int) = 92 + (k : Int) by omega, L3.out.v, HS.out.s k hlt] at RD
      have KD : ((s3.kind (92 + k) : Nat) : Int) = 0 ∨ ((s3.kind (92 + k) : Nat) : Int) = 1 := by unfold MS.kind; split <;> simp
      generalize ((s3.kind (92 + k) : Nat) : Int) = kd at *
      have e1 : (((d.single k : Nat) : Int) != ((d.single k : Nat) : Int)) = false := by simp
      have e2 : (kd == 2) = false := by rcases KD with rfl | rfl <;> decide
      clear KD
      go_upto_region 6 with (fail)
      go_region_held3 (fun w' => w'.cell? ⟨W, 0, none⟩ = some (.pointer (some ⟨x.bm, 0, none⟩)) ∧ w'.cell? ⟨W, 3, none⟩ = some (.int .i64 92)) (go_keep) ((first | (go_at_call 12; refine RD.out.mono ?_; rintro e w4 ⟨rfl, ⟨s4, l4, o4⟩, k4⟩; have O4 := Lib.hid o4; have L4 := Lib.hid l4; have K4 : Hid (MK x.bm x.bw wr w4) := Lib.hid ((MK.below (Below.refl wr.heap.size wr).drew).trans k4); have a0' : w4.cell? ⟨W, 0, none⟩ = some (.pointer (some ⟨x.bm, 0, none⟩)) := o4.cs.1; have a3' : w4.cell? ⟨W, 3, none⟩ = some (.int .i64 92) := o4.cs.2.2.2.1; clear l4 o4 k4)))
      have hW4 := O4.out.b.obj.lt
      have sk : w4.cell? ⟨W, 15 + k, none⟩ = some (.int .u32 (d.single k)) := O4.out.b.obj.sing k hlt
      clear RD a0 a3 a0' a3'
      go_wp2_with (fail)
      exact ⟨⟨k + 1, by omega, by go_num, ⟨_, L3.out.trans L4.out, O4.out⟩, K3.out.trans K4.out⟩, by simp [intOf]; omega⟩
    · have e : k = 30 := by omega
      subst e
      have dk : decide (((30 : Nat) : Int) < 30) = false := by decide
      go_wp2_with (fail)
      go_ret
      exact FIN.out _ ⟨⟨_, L3.out, O3.out⟩, K3.out⟩
end Go.Proofs.YtdebfniifijjoaaDoor
/-
  The walks of scrub and reset. Conditions: a world as it lies.
-/
namespace Go.Proofs.YtdebfniifijjoaaDoor
open Go.RowKit Kit Go.Shelf
set_option linter.unusedVariables false
theorem WO.size {w : World} {W L : Nat} {d : WD} {x : WX} {u : Nat → Bool} {s : MS} (h : WO w W d x u s) (hL : WLo L W x) : L ≤ w.heap.size := Nat.le_trans hL.W (Nat.le_of_lt h.b.obj.lt)
theorem MK.lo {w w' : World} {W L : Nat} {x : WX} (k : MK x.bm x.bw w w') (hL : WLo L W x) (hz : L ≤ w.heap.size) : Below L w w' := Mod.below k hz (fun k e => by have := hL.bm; have := hL.bw; rcases e with rfl | rfl <;> assumption)
def ScrbQ (L W : Nat) (d : WD) (x : WX) (s : MS) (w : World) (e : Ending) (w' : World) : Prop :=
  e = .returned (.bool true) ∧ (∃ bu : Nat, WO w' W { d with up := .slice (some ⟨bu, 0, none⟩) 122 122 } { x with bu := bu } (fun _ => false) (s.scr 122) ∧ WLo L W { x with bu := bu }) ∧ Below L w w' ∧ Mod (fun k => k = W ∨ k = x.bm ∨ k = x.bw) w w'
theorem WO.renew {w w' : World} {W : Nat} {d : WD} {x : WX} {u : Nat → Bool} {s : MS} {bu : Nat} (h : WO w W d x u s) (hm : Mod (fun k => k = W) w w') (hbu : w.heap.size ≤ bu) (hn : w'.heap[bu]? = some (.cells (ffn fun _ => false) 4))
    (ho : WC w' W { d with up := .slice (some ⟨bu, 0, none⟩) 122 122 }) : WO w' W { d with up := .slice (some ⟨bu, 0, none⟩) 122 122 } { x with bu := bu } (fun _ => false) s := by
  have a := h.b.apW; have aW := h.apW
  obtain ⟨nx, s1⟩ := h.s1
  obtain ⟨ny, ts⟩ := h.ts
  have l1 := s1.lt
  have l2 := ts.lts
  have l3 := h.b.obj.lt
  have me := h.b.me.modS hm (by omega) (by omega)
  have tab := h.b.tab.modS hm (by omega)
  exact ⟨⟨ho, h.b.m, rfl, h.b.words, hn, me, tab, ⟨by ((try dsimp only); omega), by ((try dsimp only); omega), by ((try dsimp only); omega), by ((try dsimp only); omega)⟩, ⟨by ((try dsimp only); omega), by ((try dsimp only); omega), by ((try dsimp only); omega)⟩⟩, h.ps, h.pt,
    ⟨nx, s1.re hm (by omega) me tab⟩, ⟨ny, ts.re hm (by omega) me tab⟩, h.apW, h.ap1, ⟨by dsimp only; omega, by dsimp only; omega, by dsimp only; omega, by dsimp only; omega, by dsimp only; omega⟩, h.z⟩
set_option maxRecDepth 100000 in
set_option maxHeartbeats 1600000 in
theorem scrub_w {w : World} {W L : Nat} {d : WD} {x : WX} {u : Nat → Bool} {s : MS} (h : WO w W d x u s) (hL : WLo L W x) (hs : s.scrub < 122) (hf : s.fuse = -1) (hu : ∀ j, 122 ≤ j → s.u j = none) :
    Calls Tryd.prog 15 #[.pointer (some ⟨W, 0, none⟩)] w fun e w' => ScrbQ L W d x s w e w' := by
  have H := Lib.hid h
  have HL := Lib.hid hL
  have c0 := h.cs.1
  have c4 := h.cs.2.2.2.2.1
  have hW := h.b.obj.lt
  have SC := Lib.hid (scrub_any (h.below (Below.refl w.heap.size w).drew).b.me (h.below (Below.refl w.heap.size w).drew).b.tab hs hf hu)
  have M38 := fun w => make38 w
  clear h hL hf hu
  go_enter Tryd.func15, Tryd.ntmps15
  go_wp2_with (fail)
  go_region_held3 (fun w' => w'.cell? ⟨W, 0, none⟩ = some (.pointer (some ⟨x.bm, 0, none⟩)) ∧ w'.cell? ⟨W, 4, none⟩ = some (.int .i64 122)) (go_keep) ((first | (go_at_call 31; refine SC.out.mono ?_; rintro e w1 ⟨⟨y, rfl⟩, m1, k1⟩; have O1 := Lib.hid ((H.out.below (Below.refl w.heap.size w).drew).rd m1 k1); have K1 : Hid (MK x.bm x.bw w w1) := Lib.hid ((MK.below (Below.refl w.heap.size w).drew).trans k1); have e0 : w1.cell? ⟨W, 0, none⟩ = some (.pointer (some ⟨x.bm, 0, none⟩)) := O1.out.cs.1; have e4 : w1.cell? ⟨W, 4, none⟩ = some (.int .i64 122) := O1.out.cs.2.2.2.2.1; clear m1 k1)))
  have hW1 := O1.out.b.obj.lt
  have ez : ∀ j, w1.frozen? ⟨W, j, none⟩ = false := fun j => O1.out.b.obj.free j
  have e45 := O1.out.cs.2.2.2.2.2.2.2.1
  have q1 : W ≠ w1.heap.size := by omega
  have MD : Hid (Mod (fun k => k = W) w1 ((w1.setCell ⟨W, 45, none⟩ (.slice (some ⟨w1.heap.size, 0, none⟩) 122 122)).alloc (.cells (ffn fun _ => false) 4))) := Lib.hid (Mod.alloc (mod_at (Mod.refl _ _) _) _)
  have FIN : Hid (ScrbQ L W d x s w (.returned (.bool true)) ((w1.setCell ⟨W, 45, none⟩ (.slice (some ⟨w1.heap.size, 0, none⟩) 122 122)).alloc (.cells (ffn fun _ => false) 4))) := Lib.hid (by
    have lo := HL.out
    have hz := H.out.size lo
    have h1 : w.heap.size ≤ w1.heap.size := K1.out.size
    have hnew := hp_new (w1.setCell ⟨W, 45, none⟩ (.slice (some ⟨w1.heap.size, 0, none⟩) 122 122)) (.cells (ffn fun _ => false) 4)
    rw [show (w1.setCell ⟨W, 45, none⟩ (.slice (some ⟨w1.heap.size, 0, none⟩) 122 122)).heap.size = w1.heap.size by simp [World.setCell]] at hnew
    refine ⟨rfl, ⟨w1.heap.size, O1.out.renew MD.out (Nat.le_refl _) hnew (hp_old (O1.out.b.obj.set 45 _ (fun j _ => wcell_up d _ j)) _), ⟨lo.W, lo.bm, lo.bw, lo.b1, lo.b2, by dsimp only; omega⟩⟩, ?_, ?_⟩
    · exact (K1.out.lo lo hz).trans (Mod.below MD.out (by omega) (fun k e => by rw [e]; exact lo.W))
    · exact Mod.trans (Mod.mono K1.out (fun k _ e => .inr e)) MD.out (fun k _ e => .inl e))
  clear SC
  go_wp2_with (fail)
  go_ret
  exact FIN.out
/-- The words that do not survive are gone. -/
def wipeF (f : Nat → Nat) (k : Nat) : Nat → Nat := fun i => if 20 ≤ i ∧ i < k then 0 else f i
def ResQ (L W : Nat) (d : WD) (x : WX) (u : Nat → Bool) (s : MS) (w : World) (e : Ending) (w' : World) : Prop :=
  e = .returned (.bool true) ∧ (∃ (x' : WX) (p q : Value), WO w' W { d with single := wipeF d.single 30, s := p, t := q } x' u s.reset ∧ WLo L W x') ∧ Below L w w' ∧ Mod (fun k => k = W ∨ k = x.bm ∨ k = x.bw) w w'
theorem wcell_single (d : WD) (k v : Nat) (hk : k < 30) (j : Nat) (hj : j < 47) : (if j = 15 + k then .int .u32 v else wcell d j) = wcell { d with single := fun i => if i = k then v else d.single i } j := by
  by_cases e : j = 15 + k
  · subst e
    rw [if_pos rfl]
    unfold wcell
    rw [if_neg (by omega), if_neg (by omega), if_pos (by omega)]
    simp
  · rw [if_neg e]
    unfold wcell
    by_cases h : j < 7
    · rw [if_pos h, if_pos h]
    · rw [if_neg h, if_neg h]
      by_cases h' : j < 15
      · rw [if_pos h', if_pos h']
      · rw [if_neg h', if_neg h']
        by_cases h'' : j < 45
        · rw [if_pos h'', if_pos h'']
          dsimp only
          rw [if_neg (by omega)]
        · rw [if_neg h'', if_neg h'']
set_option maxRecDepth 100000 in
set_option maxHeartbeats 1600000 in
theorem reset_w {w : World} {W L : Nat} {d : WD} {x : WX} {u : Nat → Bool} {s : MS} (h : WO w W d x u s) (hL : WLo L W x) :
    Calls Tryd.prog 18 #[.pointer (some ⟨W, 0, none⟩)] w fun e w' => ResQ L W d x u s w e w' := by
  have H := Lib.hid h
  have HL := Lib.hid hL
  have c0 := h.cs.1
  have hW := h.b.obj.lt
  have RS := Lib.hid (reset_any h.b.me)
  clear h hL
  go_enter Tryd.func18, Tryd.ntmps18
  go_wp2_with (fail)
  refine RS.out.mono ?_
  rintro e w1 ⟨rfl, m1, k1⟩
  have O1 := Lib.hid (H.out.rd m1 k1).b
  have K1 := Lib.hid k1
  have W0 : wipeF d.single 20 = d.single := by funext i; unfold wipeF; rw [if_neg (by omega)]
  have H0 : Hid (WB w1 W { d with single := wipeF d.single 20 } x.bm x.bw x.bu u s.reset) := Lib.hid (by rw [W0]; exact O1.out)
  clear m1 k1 RS W0
  go_wp2_with (fail)
  go_loopw [3] (fun i wr => ∃ k : Nat, 20 ≤ k ∧ k ≤ 30 ∧ i = .int .i64 k ∧ WB wr W { d with single := wipeF d.single k } x.bm x.bw x.bu u s.reset ∧ Mod (fun k => k = W) w1 wr) (fun i _ => 30 - (intOf i).toNat)
  case atStart => exact ⟨20, by omega, by omega, rfl, H0.out, Mod.refl _ _⟩
  case round =>
    clear H0
    obtain ⟨k, hk0, hk, rfl, b3, md3⟩ := hrel
    have B3 := Lib.hid b3; have MD3 := Lib.hid md3
    clear b3 md3
    have hWr := B3.out.obj.lt
    by_cases hlt : k < 30
    · have dk : decide ((k : Int) < 30) = true := by simp; omega
      have sk : wr.cell? ⟨W, 15 + k, none⟩ = some (.int .u32 (wipeF d.single k k)) := B3.out.obj.sing k hlt
      have ez : ∀ j, wr.frozen? ⟨W, j, none⟩ = false := fun j => B3.out.obj.free j
      have FE : wipeF d.single (k + 1) = fun i => if i = k then 0 else wipeF d.single k i := by
        funext i; unfold wipeF
        by_cases e : i = k
        · subst e; rw [if_pos rfl, if_pos (by omega)]
        · rw [if_neg e]
          by_cases h : 20 ≤ i ∧ i < k
          · rw [if_pos h, if_pos (by omega)]
          · rw [if_neg h, if_neg (by omega)]
      have NX : Hid (WB (wr.setCell ⟨W, 15 + k, none⟩ (.int .u32 0)) W { d with single := wipeF d.single (k + 1) } x.bm x.bw x.bu u s.reset) := Lib.hid (by
        rw [FE]
        have o := B3.out.obj.set (15 + k) (.int .u32 0) (fun j hj => wcell_single { d with single := wipeF d.single k } k 0 hlt j hj)
        exact B3.out.put (mod_at (Mod.refl _ _) _) o ⟨rfl, rfl, rfl⟩)
      clear FE
      go_wp2_with (fail)
      exact ⟨⟨k + 1, by omega, by omega, by go_num, NX.out, mod_at MD3.out _⟩, by simp [intOf]; omega⟩
    · have e : k = 30 := by omega
      subst e
      have dk : decide (((30 : Nat) : Int) < 30) = false := by decide
      have BG := Lib.hid (wbegin_any B3.out)
      go_wp2_with (fail)
      refine BG.out.mono ?_
      rintro e w5 ⟨rfl, ⟨x', h1, h2, h3, wo, h4, h5⟩, md5⟩
      have FIN : Hid (ResQ L W d x u s w (.returned (.bool true)) w5) := Lib.hid (by
        have lo := HL.out
        have hz := H.out.size lo
        have z1 : w.heap.size ≤ w1.heap.size := K1.out.size
        have z3 : w1.heap.size ≤ wr.heap.size := MD3.out.size
        have bl : Below L w w5 := ((K1.out.lo lo hz).trans (Mod.below MD3.out (by omega) (fun k e => by rw [e]; exact lo.W))).trans (Mod.below md5 (by omega) (fun k e => by rw [e]; exact lo.W))
        refine ⟨rfl, ⟨x', _, _, wo, ⟨lo.W, by rw [h1]; exact lo.bm, by rw [h2]; exact lo.bw, by omega, by omega, by rw [h3]; exact lo.bu⟩⟩, bl, Mod.trans (Mod.trans (Mod.mono K1.out (fun k _ e => .inr e)) MD3.out (fun k _ e => .inl e)) md5 (fun k _ e => .inl e)⟩)
      clear wo md5 h1 h2 h3 h4 h5
      go_wp2_with (fail)
      go_ret
      exact FIN.out
end Go.Proofs.YtdebfniifijjoaaDoor
