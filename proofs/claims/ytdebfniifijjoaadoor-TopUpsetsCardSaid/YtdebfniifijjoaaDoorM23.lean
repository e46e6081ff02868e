/-
  The walk of step: scrub, reset, upset. Conditions: what holds between two steps.
-/
import Derived.Test.YtdebfniifijjoaaDoorM22
namespace Go.Proofs.YtdebfniifijjoaaDoor
open Go.RowKit Kit Go.Shelf
set_option linter.unusedVariables false
set_option linter.unusedSimpArgs false
theorem ne_types {w : World} {a b : Nat} {c c' : Array Value} {t t' : TypeId} (h : w.heap[a]? = some (.cells c t)) (h' : w.heap[b]? = some (.cells c' t')) (ht : t ≠ t') : a ≠ b := by
  rintro rfl
  have := h.symm.trans h'
  simp at this
  exact ht this.2
theorem inv_scr {N : Nat} {d : WD} {u : Nat → Bool} {s : MS} (h : Inv N d u s) (up : Value) : Inv N { d with up := up } (fun _ => false) (s.scr 122) := by
  refine ⟨⟨h.snd.p, h.snd.t, h.snd.r, h.snd.s⟩, ?_, fun j hj => absurd (scr_u s h.sc h.hu j) hj, h.g1, h.g2, h.c⟩
  show (s.scrub + 122) % 122 < 122
  omega
theorem reset_v (s : MS) (i : Nat) : s.reset.v i = if i < 112 then s.v i else 0 := rfl
theorem reset_u (s : MS) (i : Nat) : s.reset.u i = if i < 112 then s.u i else none := rfl
theorem inv_reset {N : Nat} {d : WD} {u : Nat → Bool} {s : MS} (h : Inv N d u s) (p q : Value) : Inv N { d with single := wipeF d.single 30, s := p, t := q } u s.reset := by
  have hv : ∀ i, i < 92 → s.reset.v i = s.v i := fun i hi => by rw [reset_v, if_pos (by omega)]
  obtain ⟨⟨a1, a2⟩, a3, a4⟩ := views_same hv
  refine ⟨⟨by rw [a1]; exact h.snd.p, by rw [a3]; exact h.snd.t, h.snd.r, fun i hi => ?_⟩, (by show 0 < 122; omega), fun j hj => h.u j ?_, by rw [a2]; exact h.g1, by rw [a4]; exact h.g2, h.c⟩
  · rw [reset_v]
    show _ = wipeF d.single 30 i
    unfold wipeF
    by_cases e : i < 20
    · rw [if_pos (by omega), if_neg (by omega)]; exact h.snd.s i hi
    · rw [if_neg (by omega), if_pos (by omega)]
  · rw [reset_u] at hj
    split at hj
    · exact hj
    · exact absurd rfl hj
def Blow.at (b : Blow) : Nat := (b.word % 122).toNat
def Blow.bi (b : Blow) : Nat := (b.bit % 39).toNat
theorem inv_flip {N : Nat} {d : WD} {u : Nat → Bool} {s : MS} (h : Inv N d u s) (a c : Nat) (ha : a < 122) : Inv N d (fun j => if j = a then true else u j) (s.flip a c) := by
  refine ⟨⟨h.snd.p, h.snd.t, h.snd.r, h.snd.s⟩, h.sc, fun j hj => ?_, h.g1, h.g2, h.c⟩
  by_cases e : j = a
  · subst e; exact ⟨by simp, ha⟩
  · have : (s.flip a c).u j = s.u j := by show (if j = a then some c else s.u j) = _; rw [if_neg e]
    rw [this] at hj
    rw [if_neg e]
    exact h.u j hj
theorem Inv.more {N M : Nat} {d : WD} {u : Nat → Bool} {s : MS} (h : Inv N d u s) (hm : N ≤ M) : Inv M d u s := ⟨h.snd, h.sc, h.u, Nat.le_trans h.g1 hm, Nat.le_trans h.g2 hm, Nat.le_trans h.c hm⟩
set_option maxRecDepth 100000 in
set_option maxHeartbeats 1600000 in
theorem stp4 {w : World} {N W L : Nat} {d : WD} {x : WX} {u : Nat → Bool} {s : MS} (h : WO w W d x u s) (hL : WLo L W x) (hi : Inv N d u s) (hf : s.fuse = -1) (hN : N < 900) (b : Blow) (hb : b.Ok) (hk : b.what % 7 = 4) :
    Calls Tryd.prog 6 #[.pointer (some ⟨W, 0, none⟩), .agg (blA b)] w fun e w' => StpQ (N + 1) L W w e w' := by
  have H := Lib.hid h
  have HL := Lib.hid hL
  have HI := Lib.hid hi
  have hW := h.b.obj.lt
  obtain ⟨m1, m2, m3⟩ := what_mod b 4 hk hb.what
  rw [show ((4 : Nat) : Int) = 4 from rfl] at m1 m2 m3
  have V0 := Lib.hid (hp_new w (.cells (blA b) 24))
  have BL0 := Lib.hid (bl_alloc (Below.refl w.heap.size w) (.cells (blA b) 24))
  have v0 : (w.alloc (.cells (blA b) 24)).cell? ⟨w.heap.size, 0, none⟩ = some (.int .u8 b.what) := cell_of V0.out rfl
  have v1 : (w.alloc (.cells (blA b) 24)).cell? ⟨w.heap.size, 1, none⟩ = some (.int .i64 b.word) := cell_of V0.out rfl
  have v2 : (w.alloc (.cells (blA b) 24)).cell? ⟨w.heap.size, 2, none⟩ = some (.int .i64 b.bit) := cell_of V0.out rfl
  have O1 := Lib.hid (h.below BL0.out)
  have SC := Lib.hid (scrub_w O1.out hL hi.sc hf hi.hu)
  have HF := Lib.hid hf
  clear h hL hi hb hf hk
  go_enter Tryd.func6, Tryd.ntmps6
  go_upto_region 1 with (fail)
  generalize w.alloc (.cells (blA b) 24) = w1 at *
  have l1 := lt_of_obj V0.out
  go_wp2_with (fail)
  refine SC.out.mono ?_
  rintro e w2 ⟨rfl, ⟨bu, o2, lo2⟩, bl2, _⟩
  have FIN : Hid (StpQ (N + 1) L W w (.returned (.bool true)) w2) := Lib.hid ⟨rfl, ⟨_, _, _, _, o2, lo2, (inv_scr HI.out _).more (Nat.le_succ _), HF.out⟩, (BL0.out.mono (H.out.size HL.out)).trans bl2⟩
  clear o2 lo2 bl2
  go_wp2_with (fail)
  go_ret
  exact FIN.out
set_option maxRecDepth 100000 in
set_option maxHeartbeats 1600000 in
theorem stp6 {w : World} {N W L : Nat} {d : WD} {x : WX} {u : Nat → Bool} {s : MS} (h : WO w W d x u s) (hL : WLo L W x) (hi : Inv N d u s) (hf : s.fuse = -1) (hN : N < 900) (b : Blow) (hb : b.Ok) (hk : b.what % 7 = 6) :
    Calls Tryd.prog 6 #[.pointer (some ⟨W, 0, none⟩), .agg (blA b)] w fun e w' => StpQ (N + 1) L W w e w' := by
  have H := Lib.hid h
  have HL := Lib.hid hL
  have HI := Lib.hid hi
  have hW := h.b.obj.lt
  obtain ⟨m1, m2, m3⟩ := what_mod b 6 hk hb.what
  rw [show ((6 : Nat) : Int) = 6 from rfl] at m1 m2 m3
  have V0 := Lib.hid (hp_new w (.cells (blA b) 24))
  have BL0 := Lib.hid (bl_alloc (Below.refl w.heap.size w) (.cells (blA b) 24))
  have v0 : (w.alloc (.cells (blA b) 24)).cell? ⟨w.heap.size, 0, none⟩ = some (.int .u8 b.what) := cell_of V0.out rfl
  have v1 : (w.alloc (.cells (blA b) 24)).cell? ⟨w.heap.size, 1, none⟩ = some (.int .i64 b.word) := cell_of V0.out rfl
  have v2 : (w.alloc (.cells (blA b) 24)).cell? ⟨w.heap.size, 2, none⟩ = some (.int .i64 b.bit) := cell_of V0.out rfl
  have O1 := Lib.hid (h.below BL0.out)
  have RE := Lib.hid (reset_w O1.out hL)
  clear h hL hi hb hf hk
  go_enter Tryd.func6, Tryd.ntmps6
  go_upto_region 1 with (fail)
  generalize w.alloc (.cells (blA b) 24) = w1 at *
  have l1 := lt_of_obj V0.out
  go_wp2_with (fail)
  refine RE.out.mono ?_
  rintro e w2 ⟨rfl, ⟨x', p, q, o2, lo2⟩, bl2, _⟩
  have FIN : Hid (StpQ (N + 1) L W w (.returned (.bool true)) w2) := Lib.hid ⟨rfl, ⟨_, _, _, _, o2, lo2, (inv_reset HI.out p q).more (Nat.le_succ _), rfl⟩, (BL0.out.mono (H.out.size HL.out)).trans bl2⟩
  clear o2 lo2 bl2
  go_wp2_with (fail)
  go_ret
  exact FIN.out
set_option maxRecDepth 100000 in
set_option maxHeartbeats 1600000 in
theorem stp3f {w : World} {N W L : Nat} {d : WD} {x : WX} {u : Nat → Bool} {s : MS} (h : WO w W d x u s) (hL : WLo L W x) (hi : Inv N d u s) (hf : s.fuse = -1) (hN : N < 900) (b : Blow) (hb : b.Ok) (hk : b.what % 7 = 3) (hfl : u b.at = false) :
    Calls Tryd.prog 6 #[.pointer (some ⟨W, 0, none⟩), .agg (blA b)] w fun e w' => StpQ (N + 1) L W w e w' := by
  have H := Lib.hid h
  have HL := Lib.hid hL
  have HI := Lib.hid hi
  have hW := h.b.obj.lt
  obtain ⟨m1, m2, m3⟩ := what_mod b 3 hk hb.what
  rw [show ((3 : Nat) : Int) = 3 from rfl] at m1 m2 m3
  have V0 := Lib.hid (hp_new w (.cells (blA b) 24))
  have BL0 := Lib.hid (bl_alloc (Below.refl w.heap.size w) (.cells (blA b) 24))
  have v0 : (w.alloc (.cells (blA b) 24)).cell? ⟨w.heap.size, 0, none⟩ = some (.int .u8 b.what) := cell_of V0.out rfl
  have v1 : (w.alloc (.cells (blA b) 24)).cell? ⟨w.heap.size, 1, none⟩ = some (.int .i64 b.word) := cell_of V0.out rfl
  have v2 : (w.alloc (.cells (blA b) 24)).cell? ⟨w.heap.size, 2, none⟩ = some (.int .i64 b.bit) := cell_of V0.out rfl
  have O1 := Lib.hid (h.below BL0.out)
  have PK := Lib.hid (fun w => pick_any b.word 122 hb.word (by omega) w)
  have PB := Lib.hid (fun w => pick_any b.bit 39 hb.bit (by omega) w)
  have kv : b.word % 122 = ((b.at : Nat) : Int) := by unfold Blow.at; omega
  have kb : b.bit % 39 = ((b.bi : Nat) : Int) := by unfold Blow.bi; omega
  have hat : b.at < 122 := by unfold Blow.at; omega
  have hbi : b.bi < 39 := by unfold Blow.bi; omega
  rw [kv] at PK
  rw [kb] at PB
  have HF := Lib.hid hf
  have US : Hid (s.u b.at = none) := Lib.hid (by
    cases e : s.u b.at with
    | none => rfl
    | some c => have := (hi.u b.at (by rw [e]; simp)).1; rw [hfl] at this; cases this)
  have e4 : (w.alloc (.cells (blA b) 24)).cell? ⟨W, 4, none⟩ = some (.int .i64 122) := O1.out.cs.2.2.2.2.1
  clear kv kb h hL hi hb hf hk
  go_enter Tryd.func6, Tryd.ntmps6
  go_upto_region 1 with (fail)
  generalize w.alloc (.cells (blA b) 24) = w1 at *
  have l1 := lt_of_obj V0.out
  have lW := O1.out.b.obj.lt
  go_upto_region 10 with (fail)
  go_region_held3 (fun w' => w'.cell? ⟨W, 4, none⟩ = some (.int .i64 122) ∧ w'.cell? ⟨w.heap.size, 1, none⟩ = some (.int .i64 b.word)) (go_keep) ((first | (go_at_call 14; refine (PK.out _).mono ?_; rintro e _ ⟨rfl, rfl⟩)))
  have OD := Lib.hid (O1.out.below (Below.refl w1.heap.size w1).drew)
  have e45 : w1.cell? ⟨W, 45, none⟩ = some (.slice (some ⟨x.bu, 0, none⟩) 122 122) := O1.out.cs.2.2.2.2.2.2.2.1
  have eu : w1.cell? ⟨x.bu, b.at, none⟩ = some (.bool false) := by have := cell_of O1.out.b.ups (ffn_get u b.at hat); rwa [hfl] at this
  have lu := lt_of_obj O1.out.b.ups
  have zu : ∀ j, w1.frozen? ⟨x.bu, j, none⟩ = false := fun j => free_of O1.out.b.ups
  have O2 := Lib.hid O1.out
  have LO2 := HL
  have BL2 : Hid (Below L w1 w1) := Lib.hid (Below.refl _ _)
  have I2 := HI
  have V2 := V0
  clear hfl e4
  have G := Lib.hid (O2.out.flag b.at true)
  have G := Lib.hid (G.out.below (Below.refl _ _).drew)
  have VG : Hid ((w1.setCell ⟨x.bu, b.at, none⟩ (.bool true)).drew.heap[w.heap.size]? = some (.cells (blA b) 24)) := Lib.hid (hp_set_ne V2.out (ne_types V2.out O2.out.b.ups (by decide)) _)
  have BLG : Hid (Below L w1 (w1.setCell ⟨x.bu, b.at, none⟩ (.bool true)).drew) := Lib.hid (Below.setCell (Below.refl _ _) LO2.out.bu _).drew
  go_upto_region 14 with (fail)
  generalize (w1.setCell ⟨x.bu, b.at, none⟩ (.bool true)).drew = w4 at *
  have IF := Lib.hid (inv_flip I2.out b.at b.bi hat)
  have UP := Lib.hid (upset_any (G.out.below (Below.refl w4.heap.size w4).drew).b.me b.at b.bi hat hbi US.out)
  have f0 : w4.cell? ⟨W, 0, none⟩ = some (.pointer (some ⟨x.bm, 0, none⟩)) := G.out.cs.1
  have f2 : w4.cell? ⟨w.heap.size, 2, none⟩ = some (.int .i64 b.bit) := cell_of VG.out rfl
  have lW4 := G.out.b.obj.lt
  have l4 := lt_of_obj VG.out
  clear e45 eu zu lu
  go_region_held3 (fun w' => w'.cell? ⟨W, 0, none⟩ = some (.pointer (some ⟨x.bm, 0, none⟩)) ∧ w'.cell? ⟨w.heap.size, 2, none⟩ = some (.int .i64 b.bit)) (go_keep) ((first | (go_at_call 14; refine (PB.out _).mono ?_; rintro e _ ⟨rfl, rfl⟩) | (go_at_call 16; refine UP.out.mono ?_; rintro e w5 ⟨rfl, m5, k5⟩; have K5 : Hid (MK x.bm x.bw w4 w5) := Lib.hid ((MK.below (Below.refl w4.heap.size w4).drew).trans k5); have G5 := Lib.hid (G.out.rd m5 K5.out); have lts := H.out.lts; have f0' : w5.cell? ⟨W, 0, none⟩ = some (.pointer (some ⟨x.bm, 0, none⟩)) := G5.out.cs.1; have f2' : w5.cell? ⟨w.heap.size, 2, none⟩ = some (.int .i64 b.bit) := cell_of (K5.out.keeps VG.out (by omega)) rfl; clear m5 k5 lts)))
  have FIN : Hid (StpQ (N + 1) L W w (.returned (.bool true)) w5) := Lib.hid ⟨rfl, ⟨_, _, _, _, G5.out, LO2.out, IF.out.more (Nat.le_succ _), HF.out⟩, (((BL0.out.mono (H.out.size HL.out)).trans BL2.out).trans BLG.out).trans (MK.lo (W := W) (x := x) K5.out LO2.out (G.out.size LO2.out))⟩
  go_wp2_with (fail)
  go_ret
  exact FIN.out
set_option maxRecDepth 100000 in
set_option maxHeartbeats 1600000 in
theorem stp3t {w : World} {N W L : Nat} {d : WD} {x : WX} {u : Nat → Bool} {s : MS} (h : WO w W d x u s) (hL : WLo L W x) (hi : Inv N d u s) (hf : s.fuse = -1) (hN : N < 900) (b : Blow) (hb : b.Ok) (hk : b.what % 7 = 3) (hfl : u b.at = true) :
    Calls Tryd.prog 6 #[.pointer (some ⟨W, 0, none⟩), .agg (blA b)] w fun e w' => StpQ (N + 1) L W w e w' := by
  have H := Lib.hid h
  have HL := Lib.hid hL
  have HI := Lib.hid hi
  have hW := h.b.obj.lt
  obtain ⟨m1, m2, m3⟩ := what_mod b 3 hk hb.what
  rw [show ((3 : Nat) : Int) = 3 from rfl] at m1 m2 m3
  have V0 := Lib.hid (hp_new w (.cells (blA b) 24))
  have BL0 := Lib.hid (bl_alloc (Below.refl w.heap.size w) (.cells (blA b) 24))
  have v0 : (w.alloc (.cells (blA b) 24)).cell? ⟨w.heap.size, 0, none⟩ = some (.int .u8 b.what) := cell_of V0.out rfl
  have v1 : (w.alloc (.cells (blA b) 24)).cell? ⟨w.heap.size, 1, none⟩ = some (.int .i64 b.word) := cell_of V0.out rfl
  have v2 : (w.alloc (.cells (blA b) 24)).cell? ⟨w.heap.size, 2, none⟩ = some (.int .i64 b.bit) := cell_of V0.out rfl
  have O1 := Lib.hid (h.below BL0.out)
  have PK := Lib.hid (fun w => pick_any b.word 122 hb.word (by omega) w)
  have PB := Lib.hid (fun w => pick_any b.bit 39 hb.bit (by omega) w)
  have kv : b.word % 122 = ((b.at : Nat) : Int) := by unfold Blow.at; omega
  have kb : b.bit % 39 = ((b.bi : Nat) : Int) := by unfold Blow.bi; omega
  have hat : b.at < 122 := by unfold Blow.at; omega
  have hbi : b.bi < 39 := by unfold Blow.bi; omega
  rw [kv] at PK
  rw [kb] at PB
  have HF := Lib.hid hf
  have SC := Lib.hid (fun (w' : World) (o : WO w' W d x u s) => scrub_w o hL hi.sc hf hi.hu)
  have e4 : (w.alloc (.cells (blA b) 24)).cell? ⟨W, 4, none⟩ = some (.int .i64 122) := O1.out.cs.2.2.2.2.1
  clear kv kb h hL hi hb hf hk
  go_enter Tryd.func6, Tryd.ntmps6
  go_upto_region 1 with (fail)
  generalize w.alloc (.cells (blA b) 24) = w1 at *
  have l1 := lt_of_obj V0.out
  have lW := O1.out.b.obj.lt
  go_upto_region 10 with (fail)
  go_region_held3 (fun w' => w'.cell? ⟨W, 4, none⟩ = some (.int .i64 122) ∧ w'.cell? ⟨w.heap.size, 1, none⟩ = some (.int .i64 b.word)) (go_keep) ((first | (go_at_call 14; refine (PK.out _).mono ?_; rintro e _ ⟨rfl, rfl⟩)))
  have OD := Lib.hid (O1.out.below (Below.refl w1.heap.size w1).drew)
  have e45 : w1.cell? ⟨W, 45, none⟩ = some (.slice (some ⟨x.bu, 0, none⟩) 122 122) := O1.out.cs.2.2.2.2.2.2.2.1
  have eu : w1.cell? ⟨x.bu, b.at, none⟩ = some (.bool true) := by have := cell_of O1.out.b.ups (ffn_get u b.at hat); rwa [hfl] at this
  have lu := lt_of_obj O1.out.b.ups
  have zu : ∀ j, w1.frozen? ⟨x.bu, j, none⟩ = false := fun j => free_of O1.out.b.ups
  have SC1 := Lib.hid (SC.out _ OD.out)
  clear SC hfl e4
  go_wp2_with (fail)
  refine SC1.out.mono ?_
  rintro e w2 ⟨rfl, ⟨bu, o2, lo2⟩, bl2, md2⟩
  have O2 := Lib.hid o2; have LO2 := Lib.hid lo2; have BL2 : Hid (Below L w1 w2) := Lib.hid ((Below.refl L w1).drew.trans bl2)
  have I2 := Lib.hid (inv_scr HI.out (.slice (some ⟨bu, 0, none⟩) 122 122))
  have lts := H.out.lts
  have V2 : Hid (w2.heap[w.heap.size]? = some (.cells (blA b) 24)) := Lib.hid (md2.keeps (hp_drew V0.out) (by omega))
  clear o2 lo2 bl2 md2 lts SC1 e45 eu zu lu v0 v1 v2
  have e45 : w2.cell? ⟨W, 45, none⟩ = some (.slice (some ⟨bu, 0, none⟩) 122 122) := O2.out.cs.2.2.2.2.2.2.2.1
  have eu : w2.cell? ⟨bu, b.at, none⟩ = some (.bool false) := cell_of O2.out.b.ups (ffn_get (fun _ => false) b.at hat)
  have lu := lt_of_obj O2.out.b.ups
  have lW2 := O2.out.b.obj.lt
  have zu : ∀ j, w2.frozen? ⟨bu, j, none⟩ = false := fun j => free_of O2.out.b.ups
  have G := Lib.hid (O2.out.flag b.at true)
  have VG : Hid ((w2.setCell ⟨bu, b.at, none⟩ (.bool true)).heap[w.heap.size]? = some (.cells (blA b) 24)) := Lib.hid (hp_set_ne V2.out (ne_types V2.out O2.out.b.ups (by decide)) _)
  have BLG : Hid (Below L w2 (w2.setCell ⟨bu, b.at, none⟩ (.bool true))) := Lib.hid (Below.setCell (Below.refl _ _) LO2.out.bu _)
  go_upto_region 14 with (fail)
  generalize (w2.setCell ⟨bu, b.at, none⟩ (.bool true)) = w4 at *
  have IF := Lib.hid (inv_flip I2.out b.at b.bi hat)
  have UP := Lib.hid (upset_any (G.out.below (Below.refl w4.heap.size w4).drew).b.me b.at b.bi hat hbi (scr_u s HI.out.sc HI.out.hu b.at))
  have f0 : w4.cell? ⟨W, 0, none⟩ = some (.pointer (some ⟨x.bm, 0, none⟩)) := G.out.cs.1
  have f2 : w4.cell? ⟨w.heap.size, 2, none⟩ = some (.int .i64 b.bit) := cell_of VG.out rfl
  have lW4 := G.out.b.obj.lt
  have l4 := lt_of_obj VG.out
  clear e45 eu zu lu
  go_region_held3 (fun w' => w'.cell? ⟨W, 0, none⟩ = some (.pointer (some ⟨x.bm, 0, none⟩)) ∧ w'.cell? ⟨w.heap.size, 2, none⟩ = some (.int .i64 b.bit)) (go_keep) ((first | (go_at_call 14; refine (PB.out _).mono ?_; rintro e _ ⟨rfl, rfl⟩) | (go_at_call 16; refine UP.out.mono ?_; rintro e w5 ⟨rfl, m5, k5⟩; have K5 : Hid (MK x.bm x.bw w4 w5) := Lib.hid ((MK.below (Below.refl w4.heap.size w4).drew).trans k5); have G5 := Lib.hid (G.out.rd m5 K5.out); have lts := H.out.lts; have f0' : w5.cell? ⟨W, 0, none⟩ = some (.pointer (some ⟨x.bm, 0, none⟩)) := G5.out.cs.1; have f2' : w5.cell? ⟨w.heap.size, 2, none⟩ = some (.int .i64 b.bit) := cell_of (K5.out.keeps VG.out (by omega)) rfl; clear m5 k5 lts)))
  have FIN : Hid (StpQ (N + 1) L W w (.returned (.bool true)) w5) := Lib.hid ⟨rfl, ⟨_, _, _, _, G5.out, LO2.out, IF.out.more (Nat.le_succ _), HF.out⟩, (((BL0.out.mono (H.out.size HL.out)).trans BL2.out).trans BLG.out).trans (MK.lo (W := W) (x := { x with bu := bu }) K5.out LO2.out (G.out.size LO2.out))⟩
  go_wp2_with (fail)
  go_ret
  exact FIN.out
end Go.Proofs.YtdebfniifijjoaaDoor
/-
  What fails leaves, in plain Lean. Conditions: those that each names.
-/
namespace Go.Proofs.YtdebfniifijjoaaDoor
open Go.RowKit Kit Go.Shelf
set_option linter.unusedVariables false
theorem encS_congr {f g : Nat → Int} (h : ∀ i, i < 8 → f i = g i) : encS f = encS g := by
  unfold encS
  congr 1
  apply List.map_congr_left
  intro j hj
  have := List.mem_range.1 hj
  unfold eB
  rw [h (j / 10) (by omega)]
theorem TVw.congr {v : Option (Nat × ByteArray)} {f g : Nat → Int} (h : ∀ i, i < 8 → f i = g i) (hf : TVw v f) : TVw v g := by
  unfold TVw at *
  cases v with
  | none => exact fun i hi => by rw [← h i hi]; exact hf i hi
  | some p => exact ⟨hf.1, by rw [← encS_congr h]; exact hf.2⟩
/-- Behind the reset. -/
structure FlR (N : Nat) (d dn : WD) (u : Nat → Bool) (s : MS) : Prop where
  p : pat (viewB s.v 0 64) d.id d.text = true ∨ pat (viewB s.v 0 64) dn.id dn.text = true
  t : ∃ vals bt, TVw (viewB s.v 42 80) vals ∧ VR vals ∧ tabE vals d.vals = bt ∧ (bt = true → TVw (viewB s.v 42 80) d.vals) ∧ (bt = false → TVw (viewB s.v 42 80) dn.vals)
  r : VR d.vals ∧ VR dn.vals
  sg : ∀ i, i < 20 → s.v (92 + i) = d.single i ∨ s.v (92 + i) = dn.single i
  z : ∀ i, 20 ≤ i → i < 30 → s.v (92 + i) = 0
  sc : s.scrub < 122
  u : ∀ j, s.u j ≠ none → u j = true ∧ j < 122
  g1 : genV s.v 0 64 ≤ N
  g2 : genV s.v 42 80 ≤ N
theorem flr_of {N : Nat} {d dn : WD} {u : Nat → Bool} {s : MS} (h : Half N d dn u s) : FlR N d dn u s.reset := by
  have hv : ∀ i, i < 92 → s.reset.v i = s.v i := fun i hi => by rw [reset_v, if_pos (by omega)]
  obtain ⟨⟨a1, a2⟩, a3, a4⟩ := views_same hv
  refine ⟨by rw [a1]; exact h.p, ?_, h.r, fun i hi => by rw [reset_v, if_pos (by omega)]; exact h.sg i (by omega), fun i h1 h2 => by rw [reset_v, if_neg (by omega)], (by show 0 < 122; omega), fun j hj => h.u j ?_, by rw [a2]; exact h.g1, by rw [a4]; exact h.g2⟩
  · rw [a3]
    rcases h.t with ht | ht
    · exact ⟨d.vals, true, ht, h.r.1, tabE_true.2 (fun _ _ => rfl), fun _ => ht, fun e => by cases e⟩
    · refine ⟨dn.vals, tabE dn.vals d.vals, ht, h.r.2, rfl, fun e => ht.congr (tabE_true.1 e), fun _ => ht⟩
  · rw [reset_u] at hj
    split at hj
    · exact hj
    · exact absurd rfl hj
/-- The single words when the loop has done k of them. -/
def fSg (s : MS) (d : WD) (k : Nat) : Nat → Nat := fun i => if i < k then s.v (92 + i) else wipeF d.single 30 i
theorem fSg_zero (s : MS) (d : WD) : fSg s d 0 = wipeF d.single 30 := by funext i; simp [fSg]
theorem fSg_store (s : MS) (d : WD) (k : Nat) : fSg s d (k + 1) = fun i => if i = k then s.v (92 + k) else fSg s d k i := by
  funext i
  unfold fSg
  by_cases e : i = k
  · subst e; simp
  · rw [if_neg e]
    by_cases h : i < k
    · rw [if_pos h, if_pos (by omega)]
    · rw [if_neg h, if_neg (by omega)]
theorem fSg_skip {s : MS} {d : WD} {k : Nat} (hk : k < 20) (h : s.v (92 + k) = d.single k) : fSg s d (k + 1) = fSg s d k := by
  funext i
  unfold fSg
  by_cases e : i = k
  · subst e
    rw [if_pos (by omega), if_neg (by omega), h]
    unfold wipeF
    rw [if_neg (by omega)]
  · by_cases h : i < k
    · rw [if_pos h, if_pos (by omega)]
    · rw [if_neg h, if_neg (by omega)]
theorem flr_end {N : Nat} {d dn d3 : WD} {u : Nat → Bool} {s s' : MS} (h : FlR N d dn u s) (l : s.Le s') (hp : pat (viewB s.v 0 64) d3.id d3.text = true) (ht : TVw (viewB s.v 42 80) d3.vals) (hr : VR d3.vals) (hc : d3.ctr ≤ N) :
    Inv N { d3 with single := fSg s d 20 } u s' := by
  refine ⟨⟨by rw [l.v]; exact hp, by rw [l.v]; exact ht, hr, fun i hi => ?_⟩, by rw [l.scrub]; exact h.sc, fun j hj => h.u j ?_, by rw [l.v]; exact h.g1, by rw [l.v]; exact h.g2, hc⟩
  · rw [l.v]
    show _ = fSg s d 20 i
    unfold fSg
    by_cases e : i < 20
    · rw [if_pos e]
    · rw [if_neg e, h.z i (by omega) hi]
      unfold wipeF
      rw [if_pos (by omega)]
  · rcases l.u j with e | e
    · exact absurd e hj
    · rwa [e] at hj
end Go.Proofs.YtdebfniifijjoaaDoor
/-
  Steps of a held walk by hand. Conditions: none.
-/
namespace Go.Proofs.YtdebfniifijjoaaDoor
open Go.RowKit Kit Go.Shelf
set_option linter.unusedVariables false
set_option linter.unusedSimpArgs false
theorem op_of {P : Program} {ops : Array Oper} {Q : Exit → Act → World → Prop} {K : Act → World → Prop} {a : Act} {w : World} {i : Nat} {o : Oper} (ho : ops[i]? = some o) (hg : o.guard = none) (h : Oper.wp P o a w K Q) : wpOp P ops Q i K a w := by
  refine wpOp_step ho (fun K' hK => ?_)
  have hw : Region.wanted o (yielded ops a.tmps) = true := by unfold Region.wanted; rw [hg]
  rw [if_pos hw]
  exact Oper.wp_mono hK h
theorem op_call {P : Program} {ops : Array Oper} {Q : Exit → Act → World → Prop} {K : Act → World → Prop} {a : Act} {w : World} {R : Ending → World → Prop} (i : Nat) (f : FuncId) (vs : Array Value) (t : Option Tmp)
    (ho : ∃ o, ops[i]? = some o ∧ o.guard = none ∧ o.dst = t ∧ (execOp a.eval o).run P w = .ok (.enter f vs) w) (C : Calls P f vs w R) (hR : ∀ e w', R e w' → ∃ v, e = .returned v ∧ K (a.put t v) w') : wpOp P ops Q i K a w := by
  obtain ⟨o, ho, hg, hd, hr⟩ := ho
  refine op_of ho hg ?_
  unfold Oper.wp
  rw [hr]
  refine C.mono (fun e w' r => ?_)
  obtain ⟨v, rfl, h⟩ := hR e w' r
  rw [← hd] at h
  exact h
theorem op_alloc {P : Program} {ops : Array Oper} {Q : Exit → Act → World → Prop} {K : Act → World → Prop} {a : Act} {w : World} (i : Nat) (ty : TypeId) (t : Option Tmp) (cs : Array Value)
    (ho : ∃ o, ops[i]? = some o ∧ o.guard = none ∧ o.dst = t ∧ o.op = .alloc ty) (hz : (zeroValue ty).run P w = .ok (.agg cs) w) (h : K (a.put t (.pointer (some ⟨w.heap.size, 0, none⟩))) (w.alloc (.cells cs ty))) : wpOp P ops Q i K a w := by
  obtain ⟨o, ho, hg, hd, hop⟩ := ho
  refine op_of ho hg ?_
  unfold Oper.wp execOp
  have h' : Oper.upon P o a K Q (.ok (.value (.pointer (some ⟨w.heap.size, 0, none⟩))) (w.alloc (.cells cs ty))) := by
    show K (a.put o.dst _) _
    rw [hd]; exact h
  simpa [hop, Instr.alloc, Sem.run_bind, hz, newVar, newRow, Value.cells] using h'
theorem all1 {P : Program} {md : Region.Mode} {ops : Array Oper} {Q : Exit → Act → World → Prop} {S : World → Prop} {fuel : Nat} {listed : Array Bool} {a : Act} {w : World} (i : Nat) (hr : Region.ready md ops listed = [i])
    (h : wpOp P ops Q i (fun a' w' => S w' ∧ wpAnyH P md ops Q S fuel (listed.setIfInBounds i true) a' w') a w) : wpAnyH P md ops Q S (fuel + 1) listed a w :=
  wpAnyH_ready hr (by simp) (fun j hj => by simp at hj; subst hj; exact h)
theorem all2 {P : Program} {md : Region.Mode} {ops : Array Oper} {Q : Exit → Act → World → Prop} {S : World → Prop} {fuel : Nat} {listed : Array Bool} {a : Act} {w : World} (i j : Nat) (hr : Region.ready md ops listed = [i, j])
    (h : wpOp P ops Q i (fun a' w' => S w' ∧ wpAnyH P md ops Q S fuel (listed.setIfInBounds i true) a' w') a w) (h' : wpOp P ops Q j (fun a' w' => S w' ∧ wpAnyH P md ops Q S fuel (listed.setIfInBounds j true) a' w') a w) : wpAnyH P md ops Q S (fuel + 1) listed a w :=
  wpAnyH_ready hr (by simp) (fun k hk => by simp at hk; rcases hk with rfl | rfl <;> assumption)
end Go.Proofs.YtdebfniifijjoaaDoor
