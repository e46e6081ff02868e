/-
  The walk of change, kind 2: a parameter. Conditions: a world as it lies.
-/
import Derived.Test.YtdebfniifijjoaaDoorM20
namespace Go.Proofs.YtdebfniifijjoaaDoor
open Go.RowKit Kit Go.Shelf
set_option linter.unusedVariables false
set_option linter.unusedSimpArgs false
theorem wcell_vals (d : WD) (k : Nat) (v : Int) (hk : k < 8) (j : Nat) (hj : j < 47) : (if j = 7 + k then .int .i64 v else wcell d j) = wcell { d with vals := upd d.vals k v } j := by
  by_cases e : j = 7 + k
  · subst e
    rw [if_pos rfl]
    unfold wcell
    rw [if_neg (by omega), if_pos (by omega)]
    simp [upd]
  · rw [if_neg e]
    unfold wcell
    by_cases h : j < 7
    · rw [if_pos h, if_pos h]
    · rw [if_neg h, if_neg h]
      by_cases h' : j < 15
      · rw [if_pos h', if_pos h']
        simp only [upd]
        rw [if_neg (by omega)]
      · rw [if_neg h', if_neg h']
def valD (d : WD) (k : Nat) (v : Int) : WD := { d with vals := upd d.vals k v }
def Blow.par (b : Blow) : Nat := (b.word % 8).toNat
theorem Blow.par_lt (b : Blow) : b.par < 8 := by unfold Blow.par; omega
def Blow.Q2 (b : Blow) (L W : Nat) (d : WD) (x : WX) (u : Nat → Bool) (s : MS) (vals : Nat → Int) (w : World) (e : Ending) (w' : World) : Prop :=
  ∃ er : Nat, e = .returned (.tuple #[.agg (wrow (valD d b.par b.value)), .int .i64 er]) ∧ (s.fuse = -1 → er = 0) ∧ (∃ s', s.Go (ldA s.v 42 80 4294901768 (encS (upd vals b.par b.value))) s' ∧ WO w' W d x u s') ∧ Below L w w' ∧ MC W x w w'
theorem valD_one {d : WD} {k : Nat} {v : Int} (h : d.m.oneCell' = true ∧ d.s.oneCell' = true ∧ d.t.oneCell' = true ∧ d.up.oneCell' = true) : (wrow (valD d k v)).all (·.oneCell') = true := wrow_one h
set_option maxRecDepth 100000 in
set_option maxHeartbeats 1600000 in
theorem chg2 {w : World} {W L : Nat} {d : WD} {x : WX} {u : Nat → Bool} {s : MS} {vals : Nat → Int} (h : WO w W d x u s) (hL : WLo L W x) (b : Blow) (hb : b.Ok) (hV : TVw (viewB s.v 42 80) vals) (hR : VR vals) (hG : genV s.v 42 80 < 4294967295) :
    Calls Tryd.prog 13 #[.pointer (some ⟨W, 0, none⟩), .int .i64 2, .agg (blA b)] w fun e w' => b.Q2 L W d x u s vals w e w' := by
  have H := Lib.hid h
  have HL := Lib.hid hL
  have OB := Lib.hid (show w.heap[W]? = some (.cells (wrow d) 40) from h.b.obj)
  have ON := Lib.hid (wrow_one h.one)
  have hW := h.b.obj.lt
  have hz := zero40
  clear h hL
  have F0 := Lib.hid (chf_start H.out b)
  have N8 := Lib.hid (hp_new ((w.alloc (.cells (blA b) 24)).alloc (.cells zrow 40)) (.cells zrow 40))
  have OB2 : Hid (((w.alloc (.cells (blA b) 24)).alloc (.cells zrow 40)).heap[W]? = some (.cells (wrow d) 40)) := Lib.hid (hp_old (hp_old OB.out _) _)
  have hs2 : Hid (((w.alloc (.cells (blA b) 24)).alloc (.cells zrow 40)).heap.size = w.heap.size + 1 + 1) := Lib.hid (by simp)
  go_enter Tryd.func13, Tryd.ntmps13
  go_upto_region 1 with (fail)
  generalize (w.alloc (.cells (blA b) 24)).alloc (.cells zrow 40) = w2 at *
  have hW2 : W < w2.heap.size := by have := hs2.out; omega
  go_upto_region 12 with (first | (refine wpList_load_row rfl 40 _ rfl W rfl 40 _ _ _ OB2.out Tryd.underlying40 rfl (info40 d) ?_) | (refine wpList_store_row rfl 40 _ _ rfl w2.heap.size (wrow d) rfl rfl 40 _ N8.out (info40 d) (by rw [zrow_size, wrow_size]) ON.out ?_))
  generalize (w2.alloc (.cells zrow 40)).setRow w2.heap.size (wrow d) = w3 at *
  have PK := Lib.hid (fun w => pick_any b.word 8 hb.word (by omega) w)
  have kv : b.word % 8 = ((b.par : Nat) : Int) := by unfold Blow.par; omega
  have hk := b.par_lt
  rw [kv] at PK
  have v1 : w3.cell? ⟨w.heap.size, 1, none⟩ = some (.int .i64 b.word) := cell_of F0.out.b5 rfl
  have v3 : w3.cell? ⟨w.heap.size, 3, none⟩ = some (.int .i64 b.value) := cell_of F0.out.b5 rfl
  have g5 := lt_of_obj F0.out.b5
  have y8 := F0.out.b8.vals b.par hk
  have y8z : ∀ j, w3.frozen? ⟨w2.heap.size, j, none⟩ = false := fun j => F0.out.b8.free j
  have g8 := F0.out.b8.lt
  have hvb := hb.value
  have FD : Hid (ChF w W d (valD d b.par b.value) x u s b w.heap.size (w.heap.size + 1) w2.heap.size (w3.setCell ⟨w2.heap.size, 7 + b.par, none⟩ (.int .i64 b.value))) := Lib.hid
    (F0.out.put8 H.out (mod_at (Mod.refl _ _) _) (F0.out.b8.set (7 + b.par) _ (fun j hj => wcell_vals d b.par b.value hk j hj)))
  clear kv
  go_wp2_with (fail)
  refine (PK.out _).mono ?_
  rintro e _ ⟨rfl, rfl⟩
  go_upto_region 14 with (fail)
  generalize w3.setCell ⟨w2.heap.size, 7 + b.par, none⟩ (.int .i64 b.value) = w5 at *
  clear v1 v3 g5 y8 y8z g8 F0 N8 OB OB2 PK
  have e2 : w5.cell? ⟨W, 2, none⟩ = some (.pointer (some ⟨x.bt, 0, none⟩)) := FD.out.o.cs.2.2.1
  have e3 : w5.cell? ⟨w.heap.size, 3, none⟩ = some (.int .i64 b.value) := cell_of FD.out.b5 rfl
  have hW5 := FD.out.o.b.obj.lt
  have h55 := lt_of_obj FD.out.b5
  have BLA : Hid (Below w5.heap.size w5 (w5.alloc (.cells #[.int .i64 (b.par : Int), .int .i64 b.value] 68)).drew) := Lib.hid ((bl_alloc (Below.refl _ _) _).trans (Below.refl _ _).drew)
  obtain ⟨nx, ts⟩ := (FD.out.o.below BLA.out).ts
  have NB := Lib.hid (hp_drew (hp_new w5 (.cells #[.int .i64 (b.par : Int), .int .i64 b.value] 68)))
  have SE := Lib.hid (set_any (bl := w5.heap.size) (cl := 1) ts hV hR hG hk hvb (cell_of NB.out rfl) (cell_of NB.out rfl) (by unfold maxLen; omega))
  have q1 : W ≠ w5.heap.size := by omega
  have q2 : w.heap.size ≠ w5.heap.size := by omega
  have q3 : w5.heap.size ≠ W := by omega
  have q4 : w5.heap.size ≠ w.heap.size := by omega
  clear ts
  go_region_held3 (fun w' => w'.cell? ⟨W, 2, none⟩ = some (.pointer (some ⟨x.bt, 0, none⟩)) ∧ w'.cell? ⟨w.heap.size, 3, none⟩ = some (.int .i64 b.value)) (go_keep) ((first | (go_at_call 30; refine SE.out.mono ?_; rintro e w6 ⟨ver, er, rfl, hf6, s6, nx6, ts6, go6, mb6⟩; have F6 := Lib.hid ((FD.out.below BLA.out).mb2 H.out mb6 ts6); have HF := Lib.hid hf6; have GO6 := Lib.hid go6; have e2' : w6.cell? ⟨W, 2, none⟩ = some (.pointer (some ⟨x.bt, 0, none⟩)) := F6.out.o.cs.2.2.1; have e3' : w6.cell? ⟨w.heap.size, 3, none⟩ = some (.int .i64 b.value) := cell_of F6.out.b5 rfl; clear hf6 go6 ts6 mb6)))
  have QR := F6.out.fin H.out
  have QF : Hid (b.Q2 L W d x u s vals w (.returned (.tuple #[.agg (wrow (valD d b.par b.value)), .int .i64 er])) (w6.setRow (w.heap.size + 1) (wrow (valD d b.par b.value)))) := Lib.hid ⟨er, rfl, HF.out, ⟨s6, GO6.out, QR.2.1⟩, QR.2.2 L HL.out⟩
  have R1 := Lib.hid QR.1
  have B8' := Lib.hid (show w6.heap[w2.heap.size]? = some (.cells (wrow (valD d b.par b.value)) 40) from F6.out.b8)
  have l8 := F6.out.b8.lt
  clear QR e2 e3 e2' e3' SE
  go_wp2_with (first | (refine wpList_load_row rfl 40 _ rfl w2.heap.size rfl 40 _ _ _ B8'.out Tryd.underlying40 rfl (info40 _) ?_) | (refine wpList_store_row rfl 40 _ _ rfl (w.heap.size + 1) (wrow (valD d b.par b.value)) rfl rfl 40 _ F6.out.b6 (info40 _) (by rw [zrow_size, wrow_size]) (valD_one H.out.one) ?_))
  refine bodyPost_ret (results_row_tmp rfl _ _ _ (w.heap.size + 1) _ _ rfl (.int .i64 er) rfl R1.out.range Tryd.underlying40 rfl (info40l _)) rfl ?_
  exact QF.out
end Go.Proofs.YtdebfniifijjoaaDoor
/-
  What holds of a world between two steps; and what change leaves, whether the power fails or not. Conditions: those that each names.
-/
namespace Go.Proofs.YtdebfniifijjoaaDoor
open Go.RowKit Kit Go.Shelf
set_option linter.unusedVariables false
/-- What holds between two steps, but for the fuse. -/
structure Inv (N : Nat) (d : WD) (u : Nat → Bool) (s : MS) : Prop where
  snd : Snd d s
  sc : s.scrub < 122
  u : ∀ j, s.u j ≠ none → u j = true ∧ j < 122
  g1 : genV s.v 0 64 ≤ N
  g2 : genV s.v 42 80 ≤ N
  c : d.ctr ≤ N
theorem Inv.hu {N : Nat} {d : WD} {u : Nat → Bool} {s : MS} (h : Inv N d u s) : ∀ j, 122 ≤ j → s.u j = none := fun j hj => by
  cases e : s.u j with
  | none => rfl
  | some b => have := (h.u j (by rw [e]; simp)).2; omega
theorem Inv.le {N : Nat} {d : WD} {u : Nat → Bool} {s s' : MS} (h : Inv N d u s) (l : s.Le s') : Inv N d u s' := by
  refine ⟨h.snd.le l, by rw [l.scrub]; exact h.sc, fun j hj => h.u j ?_, by rw [l.v]; exact h.g1, by rw [l.v]; exact h.g2, h.c⟩
  rcases l.u j with e | e
  · exact absurd e hj
  · rwa [e] at hj
/-- The world's struct behind a change. -/
def newD (d1 dn : WD) : WD := { d1 with id := dn.id, text := dn.text, vals := dn.vals, single := dn.single }
/-- What change leaves: of each part what was there, or what is new. -/
structure Half (N : Nat) (d dn : WD) (u : Nat → Bool) (s : MS) : Prop where
  p : pat (viewB s.v 0 64) d.id d.text = true ∨ pat (viewB s.v 0 64) dn.id dn.text = true
  t : TVw (viewB s.v 42 80) d.vals ∨ TVw (viewB s.v 42 80) dn.vals
  r : VR d.vals ∧ VR dn.vals
  sg : ∀ i, i < 30 → s.v (92 + i) = d.single i ∨ s.v (92 + i) = dn.single i
  sc : s.scrub < 122
  u : ∀ j, s.u j ≠ none → u j = true ∧ j < 122
  g1 : genV s.v 0 64 ≤ N
  g2 : genV s.v 42 80 ≤ N
def ChgI (N L W : Nat) (d : WD) (x : WX) (u : Nat → Bool) (s : MS) (w : World) (e : Ending) (w' : World) : Prop :=
  ∃ (dn d1 : WD) (s' : MS) (er : Nat), e = .returned (.tuple #[.agg (wrow dn), .int .i64 er]) ∧ WO w' W d1 x u s' ∧ (wrow dn).all (·.oneCell') = true ∧ (Below L w w' ∧ MC W x w w') ∧ (∃ c, d1 = ctrD d c ∧ c ≤ N + 1) ∧ Half (N + 1) d dn u s' ∧ (s.fuse = -1 → er = 0 ∧ s'.fuse = -1 ∧ Inv (N + 1) (newD d1 dn) u s')
theorem half64 : half 64 = 21 := rfl
theorem half80 : half 80 = 25 := rfl
theorem store_u {s : MS} {i x : Nat} (j : Nat) : (s.store i x).u j = none ∨ (s.store i x).u j = s.u j := (go_store s i x).u j
/-- A single word: nothing else is written. -/
theorem store_v (s : MS) (i x j : Nat) : (s.store i x).v j = s.v j ∨ (j = i ∧ (s.store i x).v j = x) := by
  unfold MS.store
  split
  · exact .inl rfl
  · by_cases h : j = i
    · exact .inr ⟨h, by simp [h]⟩
    · exact .inl (by simp [h])
theorem store_full (s : MS) (i x : Nat) (h : s.fuse = -1) : (s.store i x).v i = x ∧ (s.store i x).fuse = -1 := by
  unfold MS.store
  rw [if_neg (by omega)]
  exact ⟨by simp, by simp [h]⟩
theorem views_same {v v' : Nat → Nat} (h : ∀ i, i < 92 → v' i = v i) : (viewB v' 0 64 = viewB v 0 64 ∧ genV v' 0 64 = genV v 0 64) ∧ (viewB v' 42 80 = viewB v 42 80 ∧ genV v' 42 80 = genV v 42 80) := by
  have h1 := view_congr (v := v) (v' := v') (base := 0) (size := 64) (fun i _ h2 => h i (by rw [half64] at h2; omega))
  have h2 := view_congr (v := v) (v' := v') (base := 42) (size := 80) (fun i _ h2 => h i (by rw [half80] at h2; omega))
  exact ⟨h1.2, h2.2⟩
theorem chgI0 {N : Nat} {d : WD} {u : Nat → Bool} {s : MS} {b : Blow} (h : Inv N d u s) :
    Half (N + 1) d (putS d b.place (vU b.value)) u (s.store (92 + b.place) (vU b.value)) ∧ (s.fuse = -1 → (s.store (92 + b.place) (vU b.value)).fuse = -1 ∧ Inv (N + 1) (newD d (putS d b.place (vU b.value))) u (s.store (92 + b.place) (vU b.value))) := by
  have hv : ∀ i, i < 92 → (s.store (92 + b.place) (vU b.value)).v i = s.v i := fun i hi => by
    rcases store_v s (92 + b.place) (vU b.value) i with e | ⟨e, _⟩
    · exact e
    · omega
  obtain ⟨⟨a1, a2⟩, a3, a4⟩ := views_same hv
  have hsc : (s.store (92 + b.place) (vU b.value)).scrub = s.scrub := (go_store s _ _).scrub
  have hu : ∀ j, (s.store (92 + b.place) (vU b.value)).u j ≠ none → u j = true ∧ j < 122 := fun j hj => by
    rcases store_u (s := s) (i := 92 + b.place) (x := vU b.value) j with e | e
    · exact absurd e hj
    · rw [e] at hj; exact h.u j hj
  have hG1 := h.g1; have hG2 := h.g2
  refine ⟨⟨.inl (by rw [a1]; exact h.snd.p), .inl (by rw [a3]; exact h.snd.t), ⟨h.snd.r, h.snd.r⟩, fun i hi => ?_, by rw [hsc]; exact h.sc, hu, by omega, by omega⟩, fun hf => ?_⟩
  · rcases store_v s (92 + b.place) (vU b.value) (92 + i) with e | ⟨e, e'⟩
    · left; rw [e]; exact h.snd.s i hi
    · right; rw [e']; show _ = if i = b.place then _ else _; rw [if_pos (by omega)]
  · obtain ⟨f1, f2⟩ := store_full s (92 + b.place) (vU b.value) hf
    refine ⟨f2, ⟨⟨by rw [a1]; exact h.snd.p, by rw [a3]; exact h.snd.t, h.snd.r, fun i hi => ?_⟩, by rw [hsc]; exact h.sc, hu, by omega, by omega, Nat.le_succ_of_le h.c⟩⟩
    show _ = if i = b.place then _ else _
    by_cases e : i = b.place
    · rw [if_pos e, e]; exact f1
    · rw [if_neg e]
      rcases store_v s (92 + b.place) (vU b.value) (92 + i) with e1 | ⟨e1, _⟩
      · rw [e1]; exact h.snd.s i hi
      · omega
theorem chgI1 {N : Nat} {d : WD} {u : Nat → Bool} {s s' : MS} {b : Blow} (h : Inv N d u s) (hb : b.Ok) (hg : s.Go (ldA s.v 0 64 (d.ctr + 1) b.text) s') :
    Half (N + 1) d (patD d (d.ctr + 1) b.text) u s' ∧ (s.fuse = -1 → s'.fuse = -1 ∧ Inv (N + 1) (newD (ctrD d (d.ctr + 1)) (patD d (d.ctr + 1) b.text)) u s') := by
  have l := ld_view (base := 0) (size := 64) hb.text hg
  have ho : ∀ i, 42 ≤ i → s'.v i = s.v i := fun i hi => l.o i (by rw [half64]; omega)
  have h2 := view_congr (v := s.v) (v' := s'.v) (base := 42) (size := 80) (fun i h1 _ => ho i h1)
  have hu : ∀ j, s'.u j ≠ none → u j = true ∧ j < 122 := fun j hj => by
    rcases l.u j with e | e
    · exact absurd e hj
    · rw [e] at hj; exact h.u j hj
  have hG1 := h.g1; have hG2 := h.g2
  have g1 : genV s'.v 0 64 ≤ N + 1 := by rcases l.v with ⟨_, e⟩ | ⟨_, e⟩ <;> omega
  have pn : viewB s'.v 0 64 = some (d.ctr + 1, b.text) → pat (viewB s'.v 0 64) (patD d (d.ctr + 1) b.text).id (patD d (d.ctr + 1) b.text).text = true := fun e => by
    rw [e]; simp [pat, patD]
  refine ⟨⟨?_, .inl (by rw [h2.2.1]; exact h.snd.t), ⟨h.snd.r, h.snd.r⟩, fun i hi => .inl (by rw [ho _ (by omega)]; exact h.snd.s i hi), by rw [l.scrub]; exact h.sc, hu, g1, by rw [h2.2.2]; omega⟩, fun hf => ⟨l.f1 hf, ⟨⟨pn (l.n hf), by rw [h2.2.1]; exact h.snd.t, h.snd.r, fun i hi => by rw [ho _ (by omega)]; exact h.snd.s i hi⟩, by rw [l.scrub]; exact h.sc, hu, g1, by rw [h2.2.2]; omega, Nat.succ_le_succ h.c⟩⟩⟩
  rcases l.v with ⟨e, _⟩ | ⟨e, _⟩
  · left; rw [e]; exact h.snd.p
  · exact .inr (pn e)
theorem chgI2 {N : Nat} {d : WD} {u : Nat → Bool} {s s' : MS} {b : Blow} (h : Inv N d u s) (hb : b.Ok) (hg : s.Go (ldA s.v 42 80 4294901768 (encS (upd d.vals b.par b.value))) s') :
    Half (N + 1) d (valD d b.par b.value) u s' ∧ (s.fuse = -1 → s'.fuse = -1 ∧ Inv (N + 1) (newD d (valD d b.par b.value)) u s') := by
  have l := ld_view (base := 42) (size := 80) (by rw [encS_size]; omega) hg
  have ho : ∀ i, (i < 42 ∨ 92 ≤ i) → s'.v i = s.v i := fun i hi => l.o i (by rw [half80]; omega)
  have h2 := view_congr (v := s.v) (v' := s'.v) (base := 0) (size := 64) (fun i _ h1 => ho i (by rw [half64] at h1; omega))
  have hu : ∀ j, s'.u j ≠ none → u j = true ∧ j < 122 := fun j hj => by
    rcases l.u j with e | e
    · exact absurd e hj
    · rw [e] at hj; exact h.u j hj
  have hG1 := h.g1; have hG2 := h.g2
  have g2 : genV s'.v 42 80 ≤ N + 1 := by rcases l.v with ⟨_, e⟩ | ⟨_, e⟩ <;> omega
  have hr := h.snd.r.upd b.par hb.value
  have tn : viewB s'.v 42 80 = some (4294901768, encS (upd d.vals b.par b.value)) → TVw (viewB s'.v 42 80) (valD d b.par b.value).vals := fun e => by
    rw [e]; exact ⟨rfl, rfl⟩
  refine ⟨⟨.inl (by rw [h2.2.1]; exact h.snd.p), ?_, ⟨h.snd.r, hr⟩, fun i hi => .inl (by rw [ho _ (by omega)]; exact h.snd.s i hi), by rw [l.scrub]; exact h.sc, hu, by rw [h2.2.2]; omega, g2⟩, fun hf => ⟨l.f1 hf, ⟨⟨by rw [h2.2.1]; exact h.snd.p, tn (l.n hf), hr, fun i hi => by rw [ho _ (by omega)]; exact h.snd.s i hi⟩, by rw [l.scrub]; exact h.sc, hu, by rw [h2.2.2]; omega, g2, Nat.le_succ_of_le h.c⟩⟩⟩
  rcases l.v with ⟨e, _⟩ | ⟨e, _⟩
  · left; rw [e]; exact h.snd.t
  · exact .inr (tn e)
theorem chgI {w : World} {N W L : Nat} {d : WD} {x : WX} {u : Nat → Bool} {s : MS} (k : Nat) (hk : k < 3) (h : WO w W d x u s) (hL : WLo L W x) (hi : Inv N d u s) (hN : N < 900) (b : Blow) (hb : b.Ok) :
    Calls Tryd.prog 13 #[.pointer (some ⟨W, 0, none⟩), .int .i64 k, .agg (blA b)] w fun e w' => ChgI N L W d x u s w e w' := by
  have hG1 := hi.g1; have hG2 := hi.g2; have hC := hi.c
  rcases (by omega : k = 0 ∨ k = 1 ∨ k = 2) with rfl | rfl | rfl
  · refine (chg0 h hL b hb).mono fun e w' ⟨he, o, bl⟩ => ?_
    obtain ⟨hh, hn⟩ := chgI0 (b := b) hi
    exact ⟨_, _, _, 0, he, o, wrow_one h.one, bl, ⟨d.ctr, rfl, by omega⟩, hh, fun hf => ⟨rfl, hn hf⟩⟩
  · refine (chg1 h hL b hb (by omega) (by omega)).mono fun e w' ⟨er, he, hf, ⟨s', g, o⟩, bl⟩ => ?_
    obtain ⟨hh, hn⟩ := chgI1 hi hb g
    exact ⟨_, _, _, er, he, o, patD_one h.one, bl, ⟨d.ctr + 1, rfl, by omega⟩, hh, fun hf' => ⟨hf hf', hn hf'⟩⟩
  · refine (chg2 h hL b hb hi.snd.t hi.snd.r (by omega)).mono fun e w' ⟨er, he, hf, ⟨s', g, o⟩, bl⟩ => ?_
    obtain ⟨hh, hn⟩ := chgI2 hi hb g
    exact ⟨_, _, _, er, he, o, valD_one h.one, bl, ⟨d.ctr, rfl, by omega⟩, hh, fun hf' => ⟨hf hf', hn hf'⟩⟩
end Go.Proofs.YtdebfniifijjoaaDoor
