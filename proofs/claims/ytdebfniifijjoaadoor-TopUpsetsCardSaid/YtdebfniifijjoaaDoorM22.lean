/-
  The walk of step, kinds 0 to 2. Conditions: what holds between two steps.
-/
import Derived.Test.YtdebfniifijjoaaDoorM21
namespace Go.Proofs.YtdebfniifijjoaaDoor
open Go.RowKit Kit Go.Shelf
set_option linter.unusedVariables false
set_option linter.unusedSimpArgs false
def StpQ (N L W : Nat) (w : World) (e : Ending) (w' : World) : Prop :=
  e = .returned (.bool true) ∧ (∃ (d : WD) (x : WX) (u : Nat → Bool) (s : MS), WO w' W d x u s ∧ WLo L W x ∧ Inv N d u s ∧ s.fuse = -1) ∧ Below L w w'
theorem what_mod (b : Blow) (k : Nat) (hk : b.what % 7 = k) (hb : b.what < 256) : IntKind.u8.wrap ((b.what : Int).tmod 7) = (k : Int) ∧ (b.what : Int).tmod 7 = (k : Int) ∧ IntKind.i64.wrap (k : Int) = (k : Int) := by
  obtain ⟨t1, t2, t3, t4⟩ := tmod_pos (b.what : Int) 7 (by omega)
  have nn := Int.tmod_nonneg (a := (b.what : Int)) 7 (by omega)
  have e : (b.what : Int).tmod 7 = (k : Int) := by omega
  refine ⟨?_, e, ?_⟩
  · rw [e, wrap_u8]; omega
  · rw [IntKind.wrap_i64]; omega
theorem held_store {P : Program} {md : Region.Mode} {ops : Array Oper} {Q : Exit → Act → World → Prop} {S : World → Prop} {fuel : Nat} {listed : Array Bool} {a : Act} {w : World} (i : Nat) (hr : Region.ready md ops listed = [i]) (ty : TypeId) (x y : Operand)
    (ho : ∃ o, ops[i]? = some o ∧ o.op = .store ty x y ∧ o.guard = none ∧ o.dst = none) (p v : Value) (hx : a.eval x = p) (hy : a.eval y = v) (w1 : World) (hrun : (Instr.storeAt ty p v).run P w = .ok () w1)
    (hS : S w1) (h : wpAnyH P md ops Q S fuel (listed.setIfInBounds i true) a w1) : wpAnyH P md ops Q S (fuel + 1) listed a w := by
  obtain ⟨o, ho, hop, hgd, hd⟩ := ho
  refine wpAnyH_ready (rs := [i]) hr (by simp) ?_
  refine AllReadyH.cons ho (fun K hK => ?_) AllReadyH.nil
  have hw : Region.wanted o (yielded ops a.tmps) = true := by unfold Region.wanted; rw [hgd]
  rw [if_pos hw]
  have := hK.out _ _ hS (fun _ => h)
  unfold Oper.wp execOp
  simp only [hop, hx, hy, Sem.run_bind, Sem.run_pure, hrun, Result.andThen_ok, hd]
  show K (a.put o.dst undef) w1
  rw [hd]
  exact this
theorem run_store1 {P : Program} (w : World) (b o : Nat) (ty : TypeId) (v : Value) (ht : w.there b o 1) (hi : (P.info? ty).map (·.size) = some 1) (h1 : v.oneCell' = true) :
    (Instr.storeAt ty (.pointer (some ⟨b, o, none⟩)) v).run P w = .ok () (w.setCell ⟨b, o, none⟩ v) := by
  have := run_storeCells_cells (P := P) b o [v] 0 w (fun j hj => by simpa using (ht j (by simpa using hj)).1) (fun j hj => by simpa using (ht j (by simpa using hj)).2)
    (fun u hu => by simp at hu; subst hu; exact h1)
  have hc : v.cells = #[v] := by cases v <;> first | rfl | cases h1
  simp only [Instr.storeAt, Instr.sureAddr, Sem.run_bind, Sem.run_pure, Result.andThen_ok]
  cases hq : P.info? ty with
  | none => simp [hq] at hi
  | some i =>
    have hs : i.size = 1 := by simpa [hq] using hi
    simp only [Nat.add_zero] at this
    simp [storeVar, sizeOf, typeInfo, hq, hc, hs, this, World.setCells]
theorem vRow_get? (f : Nat → Int) (k : Nat) (hk : k < 8) : (vRow f)[k]? = some (.int .i64 (f k)) := by simp [vRow, hk]
theorem sRow_get? (f : Nat → Nat) (k : Nat) (hk : k < 30) : (sRow f)[k]? = some (.int .u32 (f k)) := by simp [sRow, hk]
theorem wc_vals {w : World} {W : Nat} {d : WD} (h : WC w W d) (f : Nat → Int) : WC (w.setCells W 7 (vRow f)) W { d with vals := f } := by
  refine h.puts _ 7 w d _ (fun j hj => ?_)
  rw [vRow_len]
  by_cases h1 : 7 ≤ j ∧ j < 7 + 8
  · rw [if_pos h1, vRow_get? f _ (by omega)]
    unfold wcell
    rw [if_neg (by omega), if_pos (by omega)]
  · rw [if_neg h1]
    unfold wcell
    by_cases h2 : j < 7
    · rw [if_pos h2, if_pos h2]
    · rw [if_neg h2, if_neg h2, if_neg (c := j < 15) (by omega), if_neg (c := j < 15) (by omega)]
theorem wc_single {w : World} {W : Nat} {d : WD} (h : WC w W d) (f : Nat → Nat) : WC (w.setCells W 15 (sRow f)) W { d with single := f } := by
  refine h.puts _ 15 w d _ (fun j hj => ?_)
  rw [sRow_len]
  by_cases h1 : 15 ≤ j ∧ j < 15 + 30
  · rw [if_pos h1, sRow_get? f _ (by omega)]
    unfold wcell
    rw [if_neg (by omega), if_neg (by omega), if_pos (by omega)]
  · rw [if_neg h1]
    unfold wcell
    by_cases h2 : j < 7
    · rw [if_pos h2, if_pos h2]
    · rw [if_neg h2, if_neg h2]
      by_cases h3 : j < 15
      · rw [if_pos h3, if_pos h3]
      · rw [if_neg h3, if_neg h3, if_neg (c := j < 45) (by omega), if_neg (c := j < 45) (by omega)]
theorem vRow_one (f : Nat → Int) : (vRow f).toArray.all (·.oneCell') = true := all_oneCell_toArray (fun v hv => by obtain ⟨i, _, rfl⟩ := List.mem_map.1 hv; rfl)
theorem sRow_one (f : Nat → Nat) : (sRow f).toArray.all (·.oneCell') = true := all_oneCell_toArray (fun v hv => by obtain ⟨i, _, rfl⟩ := List.mem_map.1 hv; rfl)
/-- The four parts are taken over. -/
theorem newd_put {w : World} {W B : Nat} {d1 dn : WD} (h : WC w W d1) (hb : WC w B dn) (hne : B ≠ W) :
    WC ((((w.setCell ⟨W, 6, none⟩ (.int .u32 dn.id)).setCell ⟨W, 5, none⟩ (.string dn.text)).setCells W 7 (vRow dn.vals)).setCells W 15 (sRow dn.single)) W (newD d1 dn) ∧
    Mod (fun k => k = W) w ((((w.setCell ⟨W, 6, none⟩ (.int .u32 dn.id)).setCell ⟨W, 5, none⟩ (.string dn.text)).setCells W 7 (vRow dn.vals)).setCells W 15 (sRow dn.single)) := by
  have a := h.set 6 (.int .u32 dn.id) (fun j _ => wcell_id _ _ j)
  have b := a.set 5 (.string dn.text) (fun j _ => wcell_text _ _ j)
  exact ⟨wc_single (wc_vals b dn.vals) dn.single, mod_cells _ _ _ (mod_cells _ _ _ (mod_at (mod_at (Mod.refl _ _) _) _))⟩
set_option maxRecDepth 100000 in
set_option maxHeartbeats 1600000 in
theorem stp0 {w : World} {N W L : Nat} {d : WD} {x : WX} {u : Nat → Bool} {s : MS} (h : WO w W d x u s) (hL : WLo L W x) (hi : Inv N d u s) (hf : s.fuse = -1) (hN : N < 900) (b : Blow) (hb : b.Ok) (hk : b.what % 7 = 0) :
    Calls Tryd.prog 6 #[.pointer (some ⟨W, 0, none⟩), .agg (blA b)] w fun e w' => StpQ (N + 1) L W w e w' := by
  have H := Lib.hid h
  have HL := Lib.hid hL
  have hW := h.b.obj.lt
  obtain ⟨m1, m2, m3⟩ := what_mod b 0 hk hb.what
  rw [show ((0 : Nat) : Int) = 0 from rfl] at m1 m2 m3
  have V0 := Lib.hid (hp_new w (.cells (blA b) 24))
  have BL0 := Lib.hid (bl_alloc (Below.refl w.heap.size w) (.cells (blA b) 24))
  have CH := Lib.hid (chgI 0 (by omega) (h.below BL0.out) hL hi hN b hb)
  rw [show ((0 : Nat) : Int) = 0 from rfl] at CH
  have hz := zero40
  have v0 : (w.alloc (.cells (blA b) 24)).cell? ⟨w.heap.size, 0, none⟩ = some (.int .u8 b.what) := cell_of V0.out rfl
  have v1 : (w.alloc (.cells (blA b) 24)).cell? ⟨w.heap.size, 1, none⟩ = some (.int .i64 b.word) := cell_of V0.out rfl
  have v2 : (w.alloc (.cells (blA b) 24)).cell? ⟨w.heap.size, 2, none⟩ = some (.int .i64 b.bit) := cell_of V0.out rfl
  have v3 : (w.alloc (.cells (blA b) 24)).cell? ⟨w.heap.size, 3, none⟩ = some (.int .i64 b.value) := cell_of V0.out rfl
  have v4 : (w.alloc (.cells (blA b) 24)).cell? ⟨w.heap.size, 4, none⟩ = some (.string b.text) := cell_of V0.out rfl
  have v5 : (w.alloc (.cells (blA b) 24)).cell? ⟨w.heap.size, 5, none⟩ = some (.int .i64 b.fuse) := cell_of V0.out rfl
  have F := Lib.hid hf
  clear h hL hi hb hf hk
  go_enter Tryd.func6, Tryd.ntmps6
  go_upto_region 1 with (fail)
  generalize w.alloc (.cells (blA b) 24) = w1 at *
  unfold blA at CH
  have l1 := lt_of_obj V0.out
  go_wp2_with (fail)
  refine CH.out.mono ?_
  rintro e w3 ⟨dn, d1, s3, er, rfl, o3, one3, ⟨bl3, _⟩, hc3, hh3, hn3⟩
  obtain ⟨rfl, hf3, hi3⟩ := hn3 F.out
  have O3 := Lib.hid o3; have ON3 := Lib.hid one3; have BL3 := Lib.hid bl3; have HI3 := Lib.hid hi3; have HF3 := Lib.hid hf3
  obtain ⟨c, hd1, hc⟩ := hc3
  have HD1 := Lib.hid hd1
  rw [show ((0 : Nat) : Int) = 0 from rfl]
  have N6 := Lib.hid (hp_new w3 (.cells zrow 40))
  have B6 : Hid (WC ((w3.alloc (.cells zrow 40)).setRow w3.heap.size (wrow dn)) w3.heap.size dn) := Lib.hid (WC.setRow N6.out dn)
  have O4 : Hid (WO ((w3.alloc (.cells zrow 40)).setRow w3.heap.size (wrow dn)) W d1 x u s3) := Lib.hid (O3.out.below (bl_row (bl_alloc (Below.refl _ _) _) (Nat.le_refl _) _))
  have BL4 : Hid (Below w3.heap.size w3 ((w3.alloc (.cells zrow 40)).setRow w3.heap.size (wrow dn))) := Lib.hid (bl_row (bl_alloc (Below.refl _ _) _) (Nat.le_refl _) _)
  have hW3 := O3.out.b.obj.lt
  have hne : w3.heap.size ≠ W := by omega
  clear o3 one3 bl3 hi3 hf3 hh3 CH hn3 hd1 hc v0 v1 v2 v3 v4 v5 l1
  go_upto_region 7 with (refine wpList_store_row rfl 40 _ _ rfl w3.heap.size (wrow dn) rfl rfl 40 _ N6.out (info40 dn) (by rw [zrow_size, wrow_size]) ON3.out ?_)
  generalize (w3.alloc (.cells zrow 40)).setRow w3.heap.size (wrow dn) = w4 at *
  have RA := Lib.hid (show WC w4.drew W d1 from hp_drew O4.out.b.obj)
  have RB := Lib.hid (RA.out.set 6 (.int .u32 dn.id) (fun j _ => wcell_id _ _ j))
  have RC := Lib.hid (RB.out.set 5 (.string dn.text) (fun j _ => wcell_text _ _ j))
  have RE := Lib.hid (wc_vals RC.out dn.vals)
  have RD : Hid (Mod (fun k => k = W) w4.drew _) := Lib.hid (mod_cells (vRow dn.vals) 7 _ (mod_at (i := 5) (mod_at (i := 6) (Mod.refl _ _) (.int .u32 dn.id)) (.string dn.text)))
  have RF := Lib.hid (mod_cells (sRow dn.single) 15 _ RD.out)
  have S0 : Hid (WC w4.drew w3.heap.size dn) := Lib.hid (hp_drew B6.out)
  have S1 : Hid (WC _ w3.heap.size dn) := Lib.hid (hp_set_ne (b' := W) (i := 6) S0.out hne (.int .u32 dn.id))
  have S2 : Hid (WC _ w3.heap.size dn) := Lib.hid (hp_set_ne (b' := W) (i := 5) S1.out hne (.string dn.text))
  have S3 : Hid (WC _ w3.heap.size dn) := Lib.hid (RD.out.keeps S0.out hne)
  have S4 : Hid (WC _ w3.heap.size dn) := Lib.hid (RF.out.keeps S0.out hne)
  refine wp_region_held_drew (S := fun w' => WC w' w3.heap.size dn) (by kernel_rfl) (hp_drew B6.out) (fun hHeld => ?_)
  refine wpAnyH_take (i := 0) (v := Value.pointer (some ⟨W, 0, none⟩)) rfl (by kernel_rfl) (by kernel_rfl) (by kernel_rfl) (fun _ _ _ h => h) (Or.inl ⟨by rfl, ?_⟩) (by assumption) ?_
  · intro w' hSw; go_simp
  try simp only [Act.put, List.getElem_toArray, List.getElem_cons_zero, List.getElem_cons_succ, List.setIfInBounds_toArray, List.set_cons_zero, List.set_cons_succ]
  refine wpAnyH_take (i := 1) (v := Value.pointer (some ⟨W, 0, none⟩)) rfl (by kernel_rfl) (by kernel_rfl) (by kernel_rfl) (fun _ _ _ h => h) (Or.inl ⟨by rfl, ?_⟩) (by assumption) ?_
  · intro w' hSw; go_simp
  try simp only [Act.put, List.getElem_toArray, List.getElem_cons_zero, List.getElem_cons_succ, List.setIfInBounds_toArray, List.set_cons_zero, List.set_cons_succ]
  refine wpAnyH_take (i := 2) (v := Value.pointer (some ⟨W, 0, none⟩)) rfl (by kernel_rfl) (by kernel_rfl) (by kernel_rfl) (fun _ _ _ h => h) (Or.inl ⟨by rfl, ?_⟩) (by assumption) ?_
  · intro w' hSw; go_simp
  try simp only [Act.put, List.getElem_toArray, List.getElem_cons_zero, List.getElem_cons_succ, List.setIfInBounds_toArray, List.set_cons_zero, List.set_cons_succ]
  refine wpAnyH_take (i := 3) (v := Value.pointer (some ⟨W, 0, none⟩)) rfl (by kernel_rfl) (by kernel_rfl) (by kernel_rfl) (fun _ _ _ h => h) (Or.inl ⟨by rfl, ?_⟩) (by assumption) ?_
  · intro w' hSw; go_simp
  try simp only [Act.put, List.getElem_toArray, List.getElem_cons_zero, List.getElem_cons_succ, List.setIfInBounds_toArray, List.set_cons_zero, List.set_cons_succ]
  refine wpAnyH_take (i := 4) (v := Value.pointer (some ⟨w3.heap.size, 6, none⟩)) rfl (by kernel_rfl) (by kernel_rfl) (by kernel_rfl) (fun _ _ _ h => h) (Or.inl ⟨by rfl, ?_⟩) (by assumption) ?_
  · intro w' hSw; go_simp
  try simp only [Act.put, List.getElem_toArray, List.getElem_cons_zero, List.getElem_cons_succ, List.setIfInBounds_toArray, List.set_cons_zero, List.set_cons_succ]
  refine wpAnyH_take (i := 5) (v := Value.int .u32 dn.id) rfl (by kernel_rfl) (by kernel_rfl) (by kernel_rfl) (fun _ _ _ h => h) (Or.inl ⟨by rfl, ?_⟩) (by assumption) ?_
  · intro w' hSw; have cc : w'.cell? ⟨w3.heap.size, 6, none⟩ = some (.int .u32 dn.id) := hSw.cell 6 (by omega); go_simp
  try simp only [Act.put, List.getElem_toArray, List.getElem_cons_zero, List.getElem_cons_succ, List.setIfInBounds_toArray, List.set_cons_zero, List.set_cons_succ]
  refine wpAnyH_take (i := 6) (v := Value.pointer (some ⟨w3.heap.size, 5, none⟩)) rfl (by kernel_rfl) (by kernel_rfl) (by kernel_rfl) (fun _ _ _ h => h) (Or.inl ⟨by rfl, ?_⟩) (by assumption) ?_
  · intro w' hSw; go_simp
  try simp only [Act.put, List.getElem_toArray, List.getElem_cons_zero, List.getElem_cons_succ, List.setIfInBounds_toArray, List.set_cons_zero, List.set_cons_succ]
  refine wpAnyH_take (i := 7) (v := Value.string dn.text) rfl (by kernel_rfl) (by kernel_rfl) (by kernel_rfl) (fun _ _ _ h => h) (Or.inl ⟨by rfl, ?_⟩) (by assumption) ?_
  · intro w' hSw; have cc : w'.cell? ⟨w3.heap.size, 5, none⟩ = some (.string dn.text) := hSw.cell 5 (by omega); go_simp
  try simp only [Act.put, List.getElem_toArray, List.getElem_cons_zero, List.getElem_cons_succ, List.setIfInBounds_toArray, List.set_cons_zero, List.set_cons_succ]
  refine wpAnyH_take (i := 8) (v := Value.pointer (some ⟨w3.heap.size, 7, none⟩)) rfl (by kernel_rfl) (by kernel_rfl) (by kernel_rfl) (fun _ _ _ h => h) (Or.inl ⟨by rfl, ?_⟩) (by assumption) ?_
  · intro w' hSw; go_simp
  try simp only [Act.put, List.getElem_toArray, List.getElem_cons_zero, List.getElem_cons_succ, List.setIfInBounds_toArray, List.set_cons_zero, List.set_cons_succ]
  refine wpAnyH_take (i := 9) rfl (by kernel_rfl) (by kernel_rfl) (by kernel_rfl) (fun _ _ _ h => h) (yieldsIf_load_mid (by rfl) _ _ rfl w3.heap.size 7 rfl _ _ (fun w' h => h.vrange) Tryd.underlying36 rfl (info36 _)) (by assumption) ?_
  try simp only [Array.toArray_toList]
  try simp only [Act.put, List.getElem_toArray, List.getElem_cons_zero, List.getElem_cons_succ, List.setIfInBounds_toArray, List.set_cons_zero, List.set_cons_succ]
  refine wpAnyH_take (i := 10) (v := Value.pointer (some ⟨w3.heap.size, 15, none⟩)) rfl (by kernel_rfl) (by kernel_rfl) (by kernel_rfl) (fun _ _ _ h => h) (Or.inl ⟨by rfl, ?_⟩) (by assumption) ?_
  · intro w' hSw; go_simp
  try simp only [Act.put, List.getElem_toArray, List.getElem_cons_zero, List.getElem_cons_succ, List.setIfInBounds_toArray, List.set_cons_zero, List.set_cons_succ]
  refine wpAnyH_take (i := 11) rfl (by kernel_rfl) (by kernel_rfl) (by kernel_rfl) (fun _ _ _ h => h) (yieldsIf_load_mid (by rfl) _ _ rfl w3.heap.size 15 rfl _ _ (fun w' h => h.srange) Tryd.underlying37 rfl (info37 _)) (by assumption) ?_
  try simp only [Array.toArray_toList]
  try simp only [Act.put, List.getElem_toArray, List.getElem_cons_zero, List.getElem_cons_succ, List.setIfInBounds_toArray, List.set_cons_zero, List.set_cons_succ]
  refine wpAnyH_take (i := 12) (v := Value.pointer (some ⟨W, 0, none⟩)) rfl (by kernel_rfl) (by kernel_rfl) (by kernel_rfl) (fun _ _ _ h => h) (Or.inl ⟨by rfl, ?_⟩) (by assumption) ?_
  · intro w' hSw; go_simp
  try simp only [Act.put, List.getElem_toArray, List.getElem_cons_zero, List.getElem_cons_succ, List.setIfInBounds_toArray, List.set_cons_zero, List.set_cons_succ]
  refine wpAnyH_take (i := 13) (v := Value.pointer (some ⟨W, 6, none⟩)) rfl (by kernel_rfl) (by kernel_rfl) (by kernel_rfl) (fun _ _ _ h => h) (Or.inl ⟨by rfl, ?_⟩) (by assumption) ?_
  · intro w' hSw; go_simp
  try simp only [Act.put, List.getElem_toArray, List.getElem_cons_zero, List.getElem_cons_succ, List.setIfInBounds_toArray, List.set_cons_zero, List.set_cons_succ]
  refine held_store 14 (by kernel_rfl) 35 (Operand.tmp 38) (Operand.tmp 30) ?_ (Value.pointer (some ⟨W, 6, none⟩)) (Value.int .u32 dn.id) rfl rfl _ (run_store1 _ W 6 35 _ (RA.out.there 6 1 (by omega)) (by kernel_rfl) rfl) S1.out ?_
  · exact ⟨_, by rfl, by rfl, by rfl, by rfl⟩
  refine wpAnyH_take (i := 15) (v := Value.pointer (some ⟨W, 0, none⟩)) rfl (by kernel_rfl) (by kernel_rfl) (by kernel_rfl) (fun _ _ _ h => h) (Or.inl ⟨by rfl, ?_⟩) S1.out ?_
  · intro w' hSw; go_simp
  try simp only [Act.put, List.getElem_toArray, List.getElem_cons_zero, List.getElem_cons_succ, List.setIfInBounds_toArray, List.set_cons_zero, List.set_cons_succ]
  refine wpAnyH_take (i := 16) (v := Value.pointer (some ⟨W, 5, none⟩)) rfl (by kernel_rfl) (by kernel_rfl) (by kernel_rfl) (fun _ _ _ h => h) (Or.inl ⟨by rfl, ?_⟩) S1.out ?_
  · intro w' hSw; go_simp
  try simp only [Act.put, List.getElem_toArray, List.getElem_cons_zero, List.getElem_cons_succ, List.setIfInBounds_toArray, List.set_cons_zero, List.set_cons_succ]
  refine held_store 17 (by kernel_rfl) 9 (Operand.tmp 40) (Operand.tmp 32) ?_ (Value.pointer (some ⟨W, 5, none⟩)) (Value.string dn.text) rfl rfl _ (run_store1 _ W 5 9 _ (RB.out.there 5 1 (by omega)) (by kernel_rfl) rfl) S2.out ?_
  · exact ⟨_, by rfl, by rfl, by rfl, by rfl⟩
  refine wpAnyH_take (i := 18) (v := Value.pointer (some ⟨W, 0, none⟩)) rfl (by kernel_rfl) (by kernel_rfl) (by kernel_rfl) (fun _ _ _ h => h) (Or.inl ⟨by rfl, ?_⟩) S2.out ?_
  · intro w' hSw; go_simp
  try simp only [Act.put, List.getElem_toArray, List.getElem_cons_zero, List.getElem_cons_succ, List.setIfInBounds_toArray, List.set_cons_zero, List.set_cons_succ]
  refine wpAnyH_take (i := 19) (v := Value.pointer (some ⟨W, 7, none⟩)) rfl (by kernel_rfl) (by kernel_rfl) (by kernel_rfl) (fun _ _ _ h => h) (Or.inl ⟨by rfl, ?_⟩) S2.out ?_
  · intro w' hSw; go_simp
  try simp only [Act.put, List.getElem_toArray, List.getElem_cons_zero, List.getElem_cons_succ, List.setIfInBounds_toArray, List.set_cons_zero, List.set_cons_succ]
  refine held_store 20 (by kernel_rfl) 36 (Operand.tmp 42) (Operand.tmp 34) ?_ (Value.pointer (some ⟨W, 7, none⟩)) (Value.agg (vRow dn.vals).toArray) rfl rfl _ (run_storeAt_mid _ W 7 36 _ (by rw [List.size_toArray, vRow_len]; exact RC.out.there 7 8 (by omega)) (by rw [List.size_toArray]; exact info36 _) (vRow_one _)) S3.out ?_
  · exact ⟨_, by rfl, by rfl, by rfl, by rfl⟩
  refine wpAnyH_take (i := 21) (v := Value.pointer (some ⟨W, 0, none⟩)) rfl (by kernel_rfl) (by kernel_rfl) (by kernel_rfl) (fun _ _ _ h => h) (Or.inl ⟨by rfl, ?_⟩) S3.out ?_
  · intro w' hSw; go_simp
  try simp only [Act.put, List.getElem_toArray, List.getElem_cons_zero, List.getElem_cons_succ, List.setIfInBounds_toArray, List.set_cons_zero, List.set_cons_succ]
  refine wpAnyH_take (i := 22) (v := Value.pointer (some ⟨W, 15, none⟩)) rfl (by kernel_rfl) (by kernel_rfl) (by kernel_rfl) (fun _ _ _ h => h) (Or.inl ⟨by rfl, ?_⟩) S3.out ?_
  · intro w' hSw; go_simp
  try simp only [Act.put, List.getElem_toArray, List.getElem_cons_zero, List.getElem_cons_succ, List.setIfInBounds_toArray, List.set_cons_zero, List.set_cons_succ]
  refine held_store 23 (by kernel_rfl) 37 (Operand.tmp 44) (Operand.tmp 36) ?_ (Value.pointer (some ⟨W, 15, none⟩)) (Value.agg (sRow dn.single).toArray) rfl rfl _ (run_storeAt_mid _ W 15 37 _ (by rw [List.size_toArray, sRow_len]; exact RE.out.there 15 30 (by omega)) (by rw [List.size_toArray]; exact info37 _) (sRow_one _)) S4.out ?_
  · exact ⟨_, by rfl, by rfl, by rfl, by rfl⟩
  refine wpAnyH_done (by kernel_rfl) ?_ _
  try simp only [Act.put, List.getElem_toArray, List.getElem_cons_zero, List.getElem_cons_succ, List.setIfInBounds_toArray, List.set_cons_zero, List.set_cons_succ]
  have ND := newd_put (show WC w4.drew W d1 from hp_drew O4.out.b.obj) (show WC w4.drew w3.heap.size dn from hp_drew B6.out) hne
  have FIN : Hid (StpQ (N + 1) L W w (.returned (.bool true)) ((((w4.drew.setCell ⟨W, 6, none⟩ (.int .u32 dn.id)).setCell ⟨W, 5, none⟩ (.string dn.text)).setCells W 7 (vRow dn.vals)).setCells W 15 (sRow dn.single))) := Lib.hid (by
    have hd := HD1.out
    have o := (O4.out.below (Below.refl _ _).drew).put ND.2 ND.1 ⟨rfl, rfl, rfl, rfl, rfl⟩
    have z := H.out.size HL.out
    have z3 := O3.out.size HL.out
    refine ⟨rfl, ⟨_, x, u, s3, o, HL.out, HI3.out, HF3.out⟩, ?_⟩
    refine (((BL0.out.mono z).trans BL3.out).trans (BL4.out.mono z3)).trans ?_
    exact (Mod.below ND.2 (O4.out.size HL.out) (fun k e => by rw [e]; exact HL.out.W) |> fun q => (Below.refl L w4).drew.trans q))
  clear ND
  go_wp2_with (fail)
  go_ret
  exact FIN.out
set_option maxRecDepth 100000 in
set_option maxHeartbeats 1600000 in
theorem stp1 {w : World} {N W L : Nat} {d : WD} {x : WX} {u : Nat → Bool} {s : MS} (h : WO w W d x u s) (hL : WLo L W x) (hi : Inv N d u s) (hf : s.fuse = -1) (hN : N < 900) (b : Blow) (hb : b.Ok) (hk : b.what % 7 = 1) :
    Calls Tryd.prog 6 #[.pointer (some ⟨W, 0, none⟩), .agg (blA b)] w fun e w' => StpQ (N + 1) L W w e w' := by
  have H := Lib.hid h
  have HL := Lib.hid hL
  have hW := h.b.obj.lt
  obtain ⟨m1, m2, m3⟩ := what_mod b 1 hk hb.what
  rw [show ((1 : Nat) : Int) = 1 from rfl] at m1 m2 m3
  have V0 := Lib.hid (hp_new w (.cells (blA b) 24))
  have BL0 := Lib.hid (bl_alloc (Below.refl w.heap.size w) (.cells (blA b) 24))
  have CH := Lib.hid (chgI 1 (by omega) (h.below BL0.out) hL hi hN b hb)
  rw [show ((1 : Nat) : Int) = 1 from rfl] at CH
  have hz := zero40
  have v0 : (w.alloc (.cells (blA b) 24)).cell? ⟨w.heap.size, 0, none⟩ = some (.int .u8 b.what) := cell_of V0.out rfl
  have v1 : (w.alloc (.cells (blA b) 24)).cell? ⟨w.heap.size, 1, none⟩ = some (.int .i64 b.word) := cell_of V0.out rfl
  have v2 : (w.alloc (.cells (blA b) 24)).cell? ⟨w.heap.size, 2, none⟩ = some (.int .i64 b.bit) := cell_of V0.out rfl
  have v3 : (w.alloc (.cells (blA b) 24)).cell? ⟨w.heap.size, 3, none⟩ = some (.int .i64 b.value) := cell_of V0.out rfl
  have v4 : (w.alloc (.cells (blA b) 24)).cell? ⟨w.heap.size, 4, none⟩ = some (.string b.text) := cell_of V0.out rfl
  have v5 : (w.alloc (.cells (blA b) 24)).cell? ⟨w.heap.size, 5, none⟩ = some (.int .i64 b.fuse) := cell_of V0.out rfl
  have F := Lib.hid hf
  clear h hL hi hb hf hk
  go_enter Tryd.func6, Tryd.ntmps6
  go_upto_region 1 with (fail)
  generalize w.alloc (.cells (blA b) 24) = w1 at *
  unfold blA at CH
  have l1 := lt_of_obj V0.out
  go_wp2_with (fail)
  refine CH.out.mono ?_
  rintro e w3 ⟨dn, d1, s3, er, rfl, o3, one3, ⟨bl3, _⟩, hc3, hh3, hn3⟩
  obtain ⟨rfl, hf3, hi3⟩ := hn3 F.out
  have O3 := Lib.hid o3; have ON3 := Lib.hid one3; have BL3 := Lib.hid bl3; have HI3 := Lib.hid hi3; have HF3 := Lib.hid hf3
  obtain ⟨c, hd1, hc⟩ := hc3
  have HD1 := Lib.hid hd1
  rw [show ((0 : Nat) : Int) = 0 from rfl]
  have N6 := Lib.hid (hp_new w3 (.cells zrow 40))
  have B6 : Hid (WC ((w3.alloc (.cells zrow 40)).setRow w3.heap.size (wrow dn)) w3.heap.size dn) := Lib.hid (WC.setRow N6.out dn)
  have O4 : Hid (WO ((w3.alloc (.cells zrow 40)).setRow w3.heap.size (wrow dn)) W d1 x u s3) := Lib.hid (O3.out.below (bl_row (bl_alloc (Below.refl _ _) _) (Nat.le_refl _) _))
  have BL4 : Hid (Below w3.heap.size w3 ((w3.alloc (.cells zrow 40)).setRow w3.heap.size (wrow dn))) := Lib.hid (bl_row (bl_alloc (Below.refl _ _) _) (Nat.le_refl _) _)
  have hW3 := O3.out.b.obj.lt
  have hne : w3.heap.size ≠ W := by omega
  clear o3 one3 bl3 hi3 hf3 hh3 CH hn3 hd1 hc v0 v1 v2 v3 v4 v5 l1
  go_upto_region 7 with (refine wpList_store_row rfl 40 _ _ rfl w3.heap.size (wrow dn) rfl rfl 40 _ N6.out (info40 dn) (by rw [zrow_size, wrow_size]) ON3.out ?_)
  generalize (w3.alloc (.cells zrow 40)).setRow w3.heap.size (wrow dn) = w4 at *
  have RA := Lib.hid (show WC w4.drew W d1 from hp_drew O4.out.b.obj)
  have RB := Lib.hid (RA.out.set 6 (.int .u32 dn.id) (fun j _ => wcell_id _ _ j))
  have RC := Lib.hid (RB.out.set 5 (.string dn.text) (fun j _ => wcell_text _ _ j))
  have RE := Lib.hid (wc_vals RC.out dn.vals)
  have RD : Hid (Mod (fun k => k = W) w4.drew _) := Lib.hid (mod_cells (vRow dn.vals) 7 _ (mod_at (i := 5) (mod_at (i := 6) (Mod.refl _ _) (.int .u32 dn.id)) (.string dn.text)))
  have RF := Lib.hid (mod_cells (sRow dn.single) 15 _ RD.out)
  have S0 : Hid (WC w4.drew w3.heap.size dn) := Lib.hid (hp_drew B6.out)
  have S1 : Hid (WC _ w3.heap.size dn) := Lib.hid (hp_set_ne (b' := W) (i := 6) S0.out hne (.int .u32 dn.id))
  have S2 : Hid (WC _ w3.heap.size dn) := Lib.hid (hp_set_ne (b' := W) (i := 5) S1.out hne (.string dn.text))
  have S3 : Hid (WC _ w3.heap.size dn) := Lib.hid (RD.out.keeps S0.out hne)
  have S4 : Hid (WC _ w3.heap.size dn) := Lib.hid (RF.out.keeps S0.out hne)
  refine wp_region_held_drew (S := fun w' => WC w' w3.heap.size dn) (by kernel_rfl) (hp_drew B6.out) (fun hHeld => ?_)
  refine wpAnyH_take (i := 0) (v := Value.pointer (some ⟨W, 0, none⟩)) rfl (by kernel_rfl) (by kernel_rfl) (by kernel_rfl) (fun _ _ _ h => h) (Or.inl ⟨by rfl, ?_⟩) (by assumption) ?_
  · intro w' hSw; go_simp
  try simp only [Act.put, List.getElem_toArray, List.getElem_cons_zero, List.getElem_cons_succ, List.setIfInBounds_toArray, List.set_cons_zero, List.set_cons_succ]
  refine wpAnyH_take (i := 1) (v := Value.pointer (some ⟨W, 0, none⟩)) rfl (by kernel_rfl) (by kernel_rfl) (by kernel_rfl) (fun _ _ _ h => h) (Or.inl ⟨by rfl, ?_⟩) (by assumption) ?_
  · intro w' hSw; go_simp
  try simp only [Act.put, List.getElem_toArray, List.getElem_cons_zero, List.getElem_cons_succ, List.setIfInBounds_toArray, List.set_cons_zero, List.set_cons_succ]
  refine wpAnyH_take (i := 2) (v := Value.pointer (some ⟨W, 0, none⟩)) rfl (by kernel_rfl) (by kernel_rfl) (by kernel_rfl) (fun _ _ _ h => h) (Or.inl ⟨by rfl, ?_⟩) (by assumption) ?_
  · intro w' hSw; go_simp
  try simp only [Act.put, List.getElem_toArray, List.getElem_cons_zero, List.getElem_cons_succ, List.setIfInBounds_toArray, List.set_cons_zero, List.set_cons_succ]
  refine wpAnyH_take (i := 3) (v := Value.pointer (some ⟨W, 0, none⟩)) rfl (by kernel_rfl) (by kernel_rfl) (by kernel_rfl) (fun _ _ _ h => h) (Or.inl ⟨by rfl, ?_⟩) (by assumption) ?_
  · intro w' hSw; go_simp
  try simp only [Act.put, List.getElem_toArray, List.getElem_cons_zero, List.getElem_cons_succ, List.setIfInBounds_toArray, List.set_cons_zero, List.set_cons_succ]
  refine wpAnyH_take (i := 4) (v := Value.pointer (some ⟨w3.heap.size, 6, none⟩)) rfl (by kernel_rfl) (by kernel_rfl) (by kernel_rfl) (fun _ _ _ h => h) (Or.inl ⟨by rfl, ?_⟩) (by assumption) ?_
  · intro w' hSw; go_simp
  try simp only [Act.put, List.getElem_toArray, List.getElem_cons_zero, List.getElem_cons_succ, List.setIfInBounds_toArray, List.set_cons_zero, List.set_cons_succ]
  refine wpAnyH_take (i := 5) (v := Value.int .u32 dn.id) rfl (by kernel_rfl) (by kernel_rfl) (by kernel_rfl) (fun _ _ _ h => h) (Or.inl ⟨by rfl, ?_⟩) (by assumption) ?_
  · intro w' hSw; have cc : w'.cell? ⟨w3.heap.size, 6, none⟩ = some (.int .u32 dn.id) := hSw.cell 6 (by omega); go_simp
  try simp only [Act.put, List.getElem_toArray, List.getElem_cons_zero, List.getElem_cons_succ, List.setIfInBounds_toArray, List.set_cons_zero, List.set_cons_succ]
  refine wpAnyH_take (i := 6) (v := Value.pointer (some ⟨w3.heap.size, 5, none⟩)) rfl (by kernel_rfl) (by kernel_rfl) (by kernel_rfl) (fun _ _ _ h => h) (Or.inl ⟨by rfl, ?_⟩) (by assumption) ?_
  · intro w' hSw; go_simp
  try simp only [Act.put, List.getElem_toArray, List.getElem_cons_zero, List.getElem_cons_succ, List.setIfInBounds_toArray, List.set_cons_zero, List.set_cons_succ]
  refine wpAnyH_take (i := 7) (v := Value.string dn.text) rfl (by kernel_rfl) (by kernel_rfl) (by kernel_rfl) (fun _ _ _ h => h) (Or.inl ⟨by rfl, ?_⟩) (by assumption) ?_
  · intro w' hSw; have cc : w'.cell? ⟨w3.heap.size, 5, none⟩ = some (.string dn.text) := hSw.cell 5 (by omega); go_simp
  try simp only [Act.put, List.getElem_toArray, List.getElem_cons_zero, List.getElem_cons_succ, List.setIfInBounds_toArray, List.set_cons_zero, List.set_cons_succ]
  refine wpAnyH_take (i := 8) (v := Value.pointer (some ⟨w3.heap.size, 7, none⟩)) rfl (by kernel_rfl) (by kernel_rfl) (by kernel_rfl) (fun _ _ _ h => h) (Or.inl ⟨by rfl, ?_⟩) (by assumption) ?_
  · intro w' hSw; go_simp
  try simp only [Act.put, List.getElem_toArray, List.getElem_cons_zero, List.getElem_cons_succ, List.setIfInBounds_toArray, List.set_cons_zero, List.set_cons_succ]
  refine wpAnyH_take (i := 9) rfl (by kernel_rfl) (by kernel_rfl) (by kernel_rfl) (fun _ _ _ h => h) (yieldsIf_load_mid (by rfl) _ _ rfl w3.heap.size 7 rfl _ _ (fun w' h => h.vrange) Tryd.underlying36 rfl (info36 _)) (by assumption) ?_
  try simp only [Array.toArray_toList]
  try simp only [Act.put, List.getElem_toArray, List.getElem_cons_zero, List.getElem_cons_succ, List.setIfInBounds_toArray, List.set_cons_zero, List.set_cons_succ]
  refine wpAnyH_take (i := 10) (v := Value.pointer (some ⟨w3.heap.size, 15, none⟩)) rfl (by kernel_rfl) (by kernel_rfl) (by kernel_rfl) (fun _ _ _ h => h) (Or.inl ⟨by rfl, ?_⟩) (by assumption) ?_
  · intro w' hSw; go_simp
  try simp only [Act.put, List.getElem_toArray, List.getElem_cons_zero, List.getElem_cons_succ, List.setIfInBounds_toArray, List.set_cons_zero, List.set_cons_succ]
  refine wpAnyH_take (i := 11) rfl (by kernel_rfl) (by kernel_rfl) (by kernel_rfl) (fun _ _ _ h => h) (yieldsIf_load_mid (by rfl) _ _ rfl w3.heap.size 15 rfl _ _ (fun w' h => h.srange) Tryd.underlying37 rfl (info37 _)) (by assumption) ?_
  try simp only [Array.toArray_toList]
  try simp only [Act.put, List.getElem_toArray, List.getElem_cons_zero, List.getElem_cons_succ, List.setIfInBounds_toArray, List.set_cons_zero, List.set_cons_succ]
  refine wpAnyH_take (i := 12) (v := Value.pointer (some ⟨W, 0, none⟩)) rfl (by kernel_rfl) (by kernel_rfl) (by kernel_rfl) (fun _ _ _ h => h) (Or.inl ⟨by rfl, ?_⟩) (by assumption) ?_
  · intro w' hSw; go_simp
  try simp only [Act.put, List.getElem_toArray, List.getElem_cons_zero, List.getElem_cons_succ, List.setIfInBounds_toArray, List.set_cons_zero, List.set_cons_succ]
  refine wpAnyH_take (i := 13) (v := Value.pointer (some ⟨W, 6, none⟩)) rfl (by kernel_rfl) (by kernel_rfl) (by kernel_rfl) (fun _ _ _ h => h) (Or.inl ⟨by rfl, ?_⟩) (by assumption) ?_
  · intro w' hSw; go_simp
  try simp only [Act.put, List.getElem_toArray, List.getElem_cons_zero, List.getElem_cons_succ, List.setIfInBounds_toArray, List.set_cons_zero, List.set_cons_succ]
  refine held_store 14 (by kernel_rfl) 35 (Operand.tmp 38) (Operand.tmp 30) ?_ (Value.pointer (some ⟨W, 6, none⟩)) (Value.int .u32 dn.id) rfl rfl _ (run_store1 _ W 6 35 _ (RA.out.there 6 1 (by omega)) (by kernel_rfl) rfl) S1.out ?_
  · exact ⟨_, by rfl, by rfl, by rfl, by rfl⟩
  refine wpAnyH_take (i := 15) (v := Value.pointer (some ⟨W, 0, none⟩)) rfl (by kernel_rfl) (by kernel_rfl) (by kernel_rfl) (fun _ _ _ h => h) (Or.inl ⟨by rfl, ?_⟩) S1.out ?_
  · intro w' hSw; go_simp
  try simp only [Act.put, List.getElem_toArray, List.getElem_cons_zero, List.getElem_cons_succ, List.setIfInBounds_toArray, List.set_cons_zero, List.set_cons_succ]
  refine wpAnyH_take (i := 16) (v := Value.pointer (some ⟨W, 5, none⟩)) rfl (by kernel_rfl) (by kernel_rfl) (by kernel_rfl) (fun _ _ _ h => h) (Or.inl ⟨by rfl, ?_⟩) S1.out ?_
  · intro w' hSw; go_simp
  try simp only [Act.put, List.getElem_toArray, List.getElem_cons_zero, List.getElem_cons_succ, List.setIfInBounds_toArray, List.set_cons_zero, List.set_cons_succ]
  refine held_store 17 (by kernel_rfl) 9 (Operand.tmp 40) (Operand.tmp 32) ?_ (Value.pointer (some ⟨W, 5, none⟩)) (Value.string dn.text) rfl rfl _ (run_store1 _ W 5 9 _ (RB.out.there 5 1 (by omega)) (by kernel_rfl) rfl) S2.out ?_
  · exact ⟨_, by rfl, by rfl, by rfl, by rfl⟩
  refine wpAnyH_take (i := 18) (v := Value.pointer (some ⟨W, 0, none⟩)) rfl (by kernel_rfl) (by kernel_rfl) (by kernel_rfl) (fun _ _ _ h => h) (Or.inl ⟨by rfl, ?_⟩) S2.out ?_
  · intro w' hSw; go_simp
  try simp only [Act.put, List.getElem_toArray, List.getElem_cons_zero, List.getElem_cons_succ, List.setIfInBounds_toArray, List.set_cons_zero, List.set_cons_succ]
  refine wpAnyH_take (i := 19) (v := Value.pointer (some ⟨W, 7, none⟩)) rfl (by kernel_rfl) (by kernel_rfl) (by kernel_rfl) (fun _ _ _ h => h) (Or.inl ⟨by rfl, ?_⟩) S2.out ?_
  · intro w' hSw; go_simp
  try simp only [Act.put, List.getElem_toArray, List.getElem_cons_zero, List.getElem_cons_succ, List.setIfInBounds_toArray, List.set_cons_zero, List.set_cons_succ]
  refine held_store 20 (by kernel_rfl) 36 (Operand.tmp 42) (Operand.tmp 34) ?_ (Value.pointer (some ⟨W, 7, none⟩)) (Value.agg (vRow dn.vals).toArray) rfl rfl _ (run_storeAt_mid _ W 7 36 _ (by rw [List.size_toArray, vRow_len]; exact RC.out.there 7 8 (by omega)) (by rw [List.size_toArray]; exact info36 _) (vRow_one _)) S3.out ?_
  · exact ⟨_, by rfl, by rfl, by rfl, by rfl⟩
  refine wpAnyH_take (i := 21) (v := Value.pointer (some ⟨W, 0, none⟩)) rfl (by kernel_rfl) (by kernel_rfl) (by kernel_rfl) (fun _ _ _ h => h) (Or.inl ⟨by rfl, ?_⟩) S3.out ?_
  · intro w' hSw; go_simp
  try simp only [Act.put, List.getElem_toArray, List.getElem_cons_zero, List.getElem_cons_succ, List.setIfInBounds_toArray, List.set_cons_zero, List.set_cons_succ]
  refine wpAnyH_take (i := 22) (v := Value.pointer (some ⟨W, 15, none⟩)) rfl (by kernel_rfl) (by kernel_rfl) (by kernel_rfl) (fun _ _ _ h => h) (Or.inl ⟨by rfl, ?_⟩) S3.out ?_
  · intro w' hSw; go_simp
  try simp only [Act.put, List.getElem_toArray, List.getElem_cons_zero, List.getElem_cons_succ, List.setIfInBounds_toArray, List.set_cons_zero, List.set_cons_succ]
  refine held_store 23 (by kernel_rfl) 37 (Operand.tmp 44) (Operand.tmp 36) ?_ (Value.pointer (some ⟨W, 15, none⟩)) (Value.agg (sRow dn.single).toArray) rfl rfl _ (run_storeAt_mid _ W 15 37 _ (by rw [List.size_toArray, sRow_len]; exact RE.out.there 15 30 (by omega)) (by rw [List.size_toArray]; exact info37 _) (sRow_one _)) S4.out ?_
  · exact ⟨_, by rfl, by rfl, by rfl, by rfl⟩
  refine wpAnyH_done (by kernel_rfl) ?_ _
  try simp only [Act.put, List.getElem_toArray, List.getElem_cons_zero, List.getElem_cons_succ, List.setIfInBounds_toArray, List.set_cons_zero, List.set_cons_succ]
  have ND := newd_put (show WC w4.drew W d1 from hp_drew O4.out.b.obj) (show WC w4.drew w3.heap.size dn from hp_drew B6.out) hne
  have FIN : Hid (StpQ (N + 1) L W w (.returned (.bool true)) ((((w4.drew.setCell ⟨W, 6, none⟩ (.int .u32 dn.id)).setCell ⟨W, 5, none⟩ (.string dn.text)).setCells W 7 (vRow dn.vals)).setCells W 15 (sRow dn.single))) := Lib.hid (by
    have hd := HD1.out
    have o := (O4.out.below (Below.refl _ _).drew).put ND.2 ND.1 ⟨rfl, rfl, rfl, rfl, rfl⟩
    have z := H.out.size HL.out
    have z3 := O3.out.size HL.out
    refine ⟨rfl, ⟨_, x, u, s3, o, HL.out, HI3.out, HF3.out⟩, ?_⟩
    refine (((BL0.out.mono z).trans BL3.out).trans (BL4.out.mono z3)).trans ?_
    exact (Mod.below ND.2 (O4.out.size HL.out) (fun k e => by rw [e]; exact HL.out.W) |> fun q => (Below.refl L w4).drew.trans q))
  clear ND
  go_wp2_with (fail)
  go_ret
  exact FIN.out
set_option maxRecDepth 100000 in
set_option maxHeartbeats 1600000 in
theorem stp2 {w : World} {N W L : Nat} {d : WD} {x : WX} {u : Nat → Bool} {s : MS} (h : WO w W d x u s) (hL : WLo L W x) (hi : Inv N d u s) (hf : s.fuse = -1) (hN : N < 900) (b : Blow) (hb : b.Ok) (hk : b.what % 7 = 2) :
    Calls Tryd.prog 6 #[.pointer (some ⟨W, 0, none⟩), .agg (blA b)] w fun e w' => StpQ (N + 1) L W w e w' := by
  have H := Lib.hid h
  have HL := Lib.hid hL
  have hW := h.b.obj.lt
  obtain ⟨m1, m2, m3⟩ := what_mod b 2 hk hb.what
  rw [show ((2 : Nat) : Int) = 2 from rfl] at m1 m2 m3
  have V0 := Lib.hid (hp_new w (.cells (blA b) 24))
  have BL0 := Lib.hid (bl_alloc (Below.refl w.heap.size w) (.cells (blA b) 24))
  have CH := Lib.hid (chgI 2 (by omega) (h.below BL0.out) hL hi hN b hb)
  rw [show ((2 : Nat) : Int) = 2 from rfl] at CH
  have hz := zero40
  have v0 : (w.alloc (.cells (blA b) 24)).cell? ⟨w.heap.size, 0, none⟩ = some (.int .u8 b.what) := cell_of V0.out rfl
  have v1 : (w.alloc (.cells (blA b) 24)).cell? ⟨w.heap.size, 1, none⟩ = some (.int .i64 b.word) := cell_of V0.out rfl
  have v2 : (w.alloc (.cells (blA b) 24)).cell? ⟨w.heap.size, 2, none⟩ = some (.int .i64 b.bit) := cell_of V0.out rfl
  have v3 : (w.alloc (.cells (blA b) 24)).cell? ⟨w.heap.size, 3, none⟩ = some (.int .i64 b.value) := cell_of V0.out rfl
  have v4 : (w.alloc (.cells (blA b) 24)).cell? ⟨w.heap.size, 4, none⟩ = some (.string b.text) := cell_of V0.out rfl
  have v5 : (w.alloc (.cells (blA b) 24)).cell? ⟨w.heap.size, 5, none⟩ = some (.int .i64 b.fuse) := cell_of V0.out rfl
  have F := Lib.hid hf
  clear h hL hi hb hf hk
  go_enter Tryd.func6, Tryd.ntmps6
  go_upto_region 1 with (fail)
  generalize w.alloc (.cells (blA b) 24) = w1 at *
  unfold blA at CH
  have l1 := lt_of_obj V0.out
  go_wp2_with (fail)
  refine CH.out.mono ?_
  rintro e w3 ⟨dn, d1, s3, er, rfl, o3, one3, ⟨bl3, _⟩, hc3, hh3, hn3⟩
  obtain ⟨rfl, hf3, hi3⟩ := hn3 F.out
  have O3 := Lib.hid o3; have ON3 := Lib.hid one3; have BL3 := Lib.hid bl3; have HI3 := Lib.hid hi3; have HF3 := Lib.hid hf3
  obtain ⟨c, hd1, hc⟩ := hc3
  have HD1 := Lib.hid hd1
  rw [show ((0 : Nat) : Int) = 0 from rfl]
  have N6 := Lib.hid (hp_new w3 (.cells zrow 40))
  have B6 : Hid (WC ((w3.alloc (.cells zrow 40)).setRow w3.heap.size (wrow dn)) w3.heap.size dn) := Lib.hid (WC.setRow N6.out dn)
  have O4 : Hid (WO ((w3.alloc (.cells zrow 40)).setRow w3.heap.size (wrow dn)) W d1 x u s3) := Lib.hid (O3.out.below (bl_row (bl_alloc (Below.refl _ _) _) (Nat.le_refl _) _))
  have BL4 : Hid (Below w3.heap.size w3 ((w3.alloc (.cells zrow 40)).setRow w3.heap.size (wrow dn))) := Lib.hid (bl_row (bl_alloc (Below.refl _ _) _) (Nat.le_refl _) _)
  have hW3 := O3.out.b.obj.lt
  have hne : w3.heap.size ≠ W := by omega
  clear o3 one3 bl3 hi3 hf3 hh3 CH hn3 hd1 hc v0 v1 v2 v3 v4 v5 l1
  go_upto_region 7 with (refine wpList_store_row rfl 40 _ _ rfl w3.heap.size (wrow dn) rfl rfl 40 _ N6.out (info40 dn) (by rw [zrow_size, wrow_size]) ON3.out ?_)
  generalize (w3.alloc (.cells zrow 40)).setRow w3.heap.size (wrow dn) = w4 at *
  have RA := Lib.hid (show WC w4.drew W d1 from hp_drew O4.out.b.obj)
  have RB := Lib.hid (RA.out.set 6 (.int .u32 dn.id) (fun j _ => wcell_id _ _ j))
  have RC := Lib.hid (RB.out.set 5 (.string dn.text) (fun j _ => wcell_text _ _ j))
  have RE := Lib.hid (wc_vals RC.out dn.vals)
  have RD : Hid (Mod (fun k => k = W) w4.drew _) := Lib.hid (mod_cells (vRow dn.vals) 7 _ (mod_at (i := 5) (mod_at (i := 6) (Mod.refl _ _) (.int .u32 dn.id)) (.string dn.text)))
  have RF := Lib.hid (mod_cells (sRow dn.single) 15 _ RD.out)
  have S0 : Hid (WC w4.drew w3.heap.size dn) := Lib.hid (hp_drew B6.out)
  have S1 : Hid (WC _ w3.heap.size dn) := Lib.hid (hp_set_ne (b' := W) (i := 6) S0.out hne (.int .u32 dn.id))
  have S2 : Hid (WC _ w3.heap.size dn) := Lib.hid (hp_set_ne (b' := W) (i := 5) S1.out hne (.string dn.text))
  have S3 : Hid (WC _ w3.heap.size dn) := Lib.hid (RD.out.keeps S0.out hne)
  have S4 : Hid (WC _ w3.heap.size dn) := Lib.hid (RF.out.keeps S0.out hne)
  refine wp_region_held_drew (S := fun w' => WC w' w3.heap.size dn) (by kernel_rfl) (hp_drew B6.out) (fun hHeld => ?_)
  refine wpAnyH_take (i := 0) (v := Value.pointer (some ⟨W, 0, none⟩)) rfl (by kernel_rfl) (by kernel_rfl) (by kernel_rfl) (fun _ _ _ h => h) (Or.inl ⟨by rfl, ?_⟩) (by assumption) ?_
  · intro w' hSw; go_simp
  try simp only [Act.put, List.getElem_toArray, List.getElem_cons_zero, List.getElem_cons_succ, List.setIfInBounds_toArray, List.set_cons_zero, List.set_cons_succ]
  refine wpAnyH_take (i := 1) (v := Value.pointer (some ⟨W, 0, none⟩)) rfl (by kernel_rfl) (by kernel_rfl) (by kernel_rfl) (fun _ _ _ h => h) (Or.inl ⟨by rfl, ?_⟩) (by assumption) ?_
  · intro w' hSw; go_simp
  try simp only [Act.put, List.getElem_toArray, List.getElem_cons_zero, List.getElem_cons_succ, List.setIfInBounds_toArray, List.set_cons_zero, List.set_cons_succ]
  refine wpAnyH_take (i := 2) (v := Value.pointer (some ⟨W, 0, none⟩)) rfl (by kernel_rfl) (by kernel_rfl) (by kernel_rfl) (fun _ _ _ h => h) (Or.inl ⟨by rfl, ?_⟩) (by assumption) ?_
  · intro w' hSw; go_simp
  try simp only [Act.put, List.getElem_toArray, List.getElem_cons_zero, List.getElem_cons_succ, List.setIfInBounds_toArray, List.set_cons_zero, List.set_cons_succ]
  refine wpAnyH_take (i := 3) (v := Value.pointer (some ⟨W, 0, none⟩)) rfl (by kernel_rfl) (by kernel_rfl) (by kernel_rfl) (fun _ _ _ h => h) (Or.inl ⟨by rfl, ?_⟩) (by assumption) ?_
  · intro w' hSw; go_simp
  try simp only [Act.put, List.getElem_toArray, List.getElem_cons_zero, List.getElem_cons_succ, List.setIfInBounds_toArray, List.set_cons_zero, List.set_cons_succ]
  refine wpAnyH_take (i := 4) (v := Value.pointer (some ⟨w3.heap.size, 6, none⟩)) rfl (by kernel_rfl) (by kernel_rfl) (by kernel_rfl) (fun _ _ _ h => h) (Or.inl ⟨by rfl, ?_⟩) (by assumption) ?_
  · intro w' hSw; go_simp
  try simp only [Act.put, List.getElem_toArray, List.getElem_cons_zero, List.getElem_cons_succ, List.setIfInBounds_toArray, List.set_cons_zero, List.set_cons_succ]
  refine wpAnyH_take (i := 5) (v := Value.int .u32 dn.id) rfl (by kernel_rfl) (by kernel_rfl) (by kernel_rfl) (fun _ _ _ h => h) (Or.inl ⟨by rfl, ?_⟩) (by assumption) ?_
  · intro w' hSw; have cc : w'.cell? ⟨w3.heap.size, 6, none⟩ = some (.int .u32 dn.id) := hSw.cell 6 (by omega); go_simp
  try simp only [Act.put, List.getElem_toArray, List.getElem_cons_zero, List.getElem_cons_succ, List.setIfInBounds_toArray, List.set_cons_zero, List.set_cons_succ]
  refine wpAnyH_take (i := 6) (v := Value.pointer (some ⟨w3.heap.size, 5, none⟩)) rfl (by kernel_rfl) (by kernel_rfl) (by kernel_rfl) (fun _ _ _ h => h) (Or.inl ⟨by rfl, ?_⟩) (by assumption) ?_
  · intro w' hSw; go_simp
  try simp only [Act.put, List.getElem_toArray, List.getElem_cons_zero, List.getElem_cons_succ, List.setIfInBounds_toArray, List.set_cons_zero, List.set_cons_succ]
  refine wpAnyH_take (i := 7) (v := Value.string dn.text) rfl (by kernel_rfl) (by kernel_rfl) (by kernel_rfl) (fun _ _ _ h => h) (Or.inl ⟨by rfl, ?_⟩) (by assumption) ?_
  · intro w' hSw; have cc : w'.cell? ⟨w3.heap.size, 5, none⟩ = some (.string dn.text) := hSw.cell 5 (by omega); go_simp
  try simp only [Act.put, List.getElem_toArray, List.getElem_cons_zero, List.getElem_cons_succ, List.setIfInBounds_toArray, List.set_cons_zero, List.set_cons_succ]
  refine wpAnyH_take (i := 8) (v := Value.pointer (some ⟨w3.heap.size, 7, none⟩)) rfl (by kernel_rfl) (by kernel_rfl) (by kernel_rfl) (fun _ _ _ h => h) (Or.inl ⟨by rfl, ?_⟩) (by assumption) ?_
  · intro w' hSw; go_simp
  try simp only [Act.put, List.getElem_toArray, List.getElem_cons_zero, List.getElem_cons_succ, List.setIfInBounds_toArray, List.set_cons_zero, List.set_cons_succ]
  refine wpAnyH_take (i := 9) rfl (by kernel_rfl) (by kernel_rfl) (by kernel_rfl) (fun _ _ _ h => h) (yieldsIf_load_mid (by rfl) _ _ rfl w3.heap.size 7 rfl _ _ (fun w' h => h.vrange) Tryd.underlying36 rfl (info36 _)) (by assumption) ?_
  try simp only [Array.toArray_toList]
  try simp only [Act.put, List.getElem_toArray, List.getElem_cons_zero, List.getElem_cons_succ, List.setIfInBounds_toArray, List.set_cons_zero, List.set_cons_succ]
  refine wpAnyH_take (i := 10) (v := Value.pointer (some ⟨w3.heap.size, 15, none⟩)) rfl (by kernel_rfl) (by kernel_rfl) (by kernel_rfl) (fun _ _ _ h => h) (Or.inl ⟨by rfl, ?_⟩) (by assumption) ?_
  · intro w' hSw; go_simp
  try simp only [Act.put, List.getElem_toArray, List.getElem_cons_zero, List.getElem_cons_succ, List.setIfInBounds_toArray, List.set_cons_zero, List.set_cons_succ]
  refine wpAnyH_take (i := 11) rfl (by kernel_rfl) (by kernel_rfl) (by kernel_rfl) (fun _ _ _ h => h) (yieldsIf_load_mid (by rfl) _ _ rfl w3.heap.size 15 rfl _ _ (fun w' h => h.srange) Tryd.underlying37 rfl (info37 _)) (by assumption) ?_
  try simp only [Array.toArray_toList]
  try simp only [Act.put, List.getElem_toArray, List.getElem_cons_zero, List.getElem_cons_succ, List.setIfInBounds_toArray, List.set_cons_zero, List.set_cons_succ]
  refine wpAnyH_take (i := 12) (v := Value.pointer (some ⟨W, 0, none⟩)) rfl (by kernel_rfl) (by kernel_rfl) (by kernel_rfl) (fun _ _ _ h => h) (Or.inl ⟨by rfl, ?_⟩) (by assumption) ?_
  · intro w' hSw; go_simp
  try simp only [Act.put, List.getElem_toArray, List.getElem_cons_zero, List.getElem_cons_succ, List.setIfInBounds_toArray, List.set_cons_zero, List.set_cons_succ]
  refine wpAnyH_take (i := 13) (v := Value.pointer (some ⟨W, 6, none⟩)) rfl (by kernel_rfl) (by kernel_rfl) (by kernel_rfl) (fun _ _ _ h => h) (Or.inl ⟨by rfl, ?_⟩) (by assumption) ?_
  · intro w' hSw; go_simp
  try simp only [Act.put, List.getElem_toArray, List.getElem_cons_zero, List.getElem_cons_succ, List.setIfInBounds_toArray, List.set_cons_zero, List.set_cons_succ]
  refine held_store 14 (by kernel_rfl) 35 (Operand.tmp 38) (Operand.tmp 30) ?_ (Value.pointer (some ⟨W, 6, none⟩)) (Value.int .u32 dn.id) rfl rfl _ (run_store1 _ W 6 35 _ (RA.out.there 6 1 (by omega)) (by kernel_rfl) rfl) S1.out ?_
  · exact ⟨_, by rfl, by rfl, by rfl, by rfl⟩
  refine wpAnyH_take (i := 15) (v := Value.pointer (some ⟨W, 0, none⟩)) rfl (by kernel_rfl) (by kernel_rfl) (by kernel_rfl) (fun _ _ _ h => h) (Or.inl ⟨by rfl, ?_⟩) S1.out ?_
  · intro w' hSw; go_simp
  try simp only [Act.put, List.getElem_toArray, List.getElem_cons_zero, List.getElem_cons_succ, List.setIfInBounds_toArray, List.set_cons_zero, List.set_cons_succ]
  refine wpAnyH_take (i := 16) (v := Value.pointer (some ⟨W, 5, none⟩)) rfl (by kernel_rfl) (by kernel_rfl) (by kernel_rfl) (fun _ _ _ h => h) (Or.inl ⟨by rfl, ?_⟩) S1.out ?_
  · intro w' hSw; go_simp
  try simp only [Act.put, List.getElem_toArray, List.getElem_cons_zero, List.getElem_cons_succ, List.setIfInBounds_toArray, List.set_cons_zero, List.set_cons_succ]
  refine held_store 17 (by kernel_rfl) 9 (Operand.tmp 40) (Operand.tmp 32) ?_ (Value.pointer (some ⟨W, 5, none⟩)) (Value.string dn.text) rfl rfl _ (run_store1 _ W 5 9 _ (RB.out.there 5 1 (by omega)) (by kernel_rfl) rfl) S2.out ?_
  · exact ⟨_, by rfl, by rfl, by rfl, by rfl⟩
  refine wpAnyH_take (i := 18) (v := Value.pointer (some ⟨W, 0, none⟩)) rfl (by kernel_rfl) (by kernel_rfl) (by kernel_rfl) (fun _ _ _ h => h) (Or.inl ⟨by rfl, ?_⟩) S2.out ?_
  · intro w' hSw; go_simp
  try simp only [Act.put, List.getElem_toArray, List.getElem_cons_zero, List.getElem_cons_succ, List.setIfInBounds_toArray, List.set_cons_zero, List.set_cons_succ]
  refine wpAnyH_take (i := 19) (v := Value.pointer (some ⟨W, 7, none⟩)) rfl (by kernel_rfl) (by kernel_rfl) (by kernel_rfl) (fun _ _ _ h => h) (Or.inl ⟨by rfl, ?_⟩) S2.out ?_
  · intro w' hSw; go_simp
  try simp only [Act.put, List.getElem_toArray, List.getElem_cons_zero, List.getElem_cons_succ, List.setIfInBounds_toArray, List.set_cons_zero, List.set_cons_succ]
  refine held_store 20 (by kernel_rfl) 36 (Operand.tmp 42) (Operand.tmp 34) ?_ (Value.pointer (some ⟨W, 7, none⟩)) (Value.agg (vRow dn.vals).toArray) rfl rfl _ (run_storeAt_mid _ W 7 36 _ (by rw [List.size_toArray, vRow_len]; exact RC.out.there 7 8 (by omega)) (by rw [List.size_toArray]; exact info36 _) (vRow_one _)) S3.out ?_
  · exact ⟨_, by rfl, by rfl, by rfl, by rfl⟩
  refine wpAnyH_take (i := 21) (v := Value.pointer (some ⟨W, 0, none⟩)) rfl (by kernel_rfl) (by kernel_rfl) (by kernel_rfl) (fun _ _ _ h => h) (Or.inl ⟨by rfl, ?_⟩) S3.out ?_
  · intro w' hSw; go_simp
  try simp only [Act.put, List.getElem_toArray, List.getElem_cons_zero, List.getElem_cons_succ, List.setIfInBounds_toArray, List.set_cons_zero, List.set_cons_succ]
  refine wpAnyH_take (i := 22) (v := Value.pointer (some ⟨W, 15, none⟩)) rfl (by kernel_rfl) (by kernel_rfl) (by kernel_rfl) (fun _ _ _ h => h) (Or.inl ⟨by rfl, ?_⟩) S3.out ?_
  · intro w' hSw; go_simp
  try simp only [Act.put, List.getElem_toArray, List.getElem_cons_zero, List.getElem_cons_succ, List.setIfInBounds_toArray, List.set_cons_zero, List.set_cons_succ]
  refine held_store 23 (by kernel_rfl) 37 (Operand.tmp 44) (Operand.tmp 36) ?_ (Value.pointer (some ⟨W, 15, none⟩)) (Value.agg (sRow dn.single).toArray) rfl rfl _ (run_storeAt_mid _ W 15 37 _ (by rw [List.size_toArray, sRow_len]; exact RE.out.there 15 30 (by omega)) (by rw [List.size_toArray]; exact info37 _) (sRow_one _)) S4.out ?_
  · exact ⟨_, by rfl, by rfl, by rfl, by rfl⟩
  refine wpAnyH_done (by kernel_rfl) ?_ _
  try simp only [Act.put, List.getElem_toArray, List.getElem_cons_zero, List.getElem_cons_succ, List.setIfInBounds_toArray, List.set_cons_zero, List.set_cons_succ]
  have ND := newd_put (show WC w4.drew W d1 from hp_drew O4.out.b.obj) (show WC w4.drew w3.heap.size dn from hp_drew B6.out) hne
  have FIN : Hid (StpQ (N + 1) L W w (.returned (.bool true)) ((((w4.drew.setCell ⟨W, 6, none⟩ (.int .u32 dn.id)).setCell ⟨W, 5, none⟩ (.string dn.text)).setCells W 7 (vRow dn.vals)).setCells W 15 (sRow dn.single))) := Lib.hid (by
    have hd := HD1.out
    have o := (O4.out.below (Below.refl _ _).drew).put ND.2 ND.1 ⟨rfl, rfl, rfl, rfl, rfl⟩
    have z := H.out.size HL.out
    have z3 := O3.out.size HL.out
    refine ⟨rfl, ⟨_, x, u, s3, o, HL.out, HI3.out, HF3.out⟩, ?_⟩
    refine (((BL0.out.mono z).trans BL3.out).trans (BL4.out.mono z3)).trans ?_
    exact (Mod.below ND.2 (O4.out.size HL.out) (fun k e => by rw [e]; exact HL.out.W) |> fun q => (Below.refl L w4).drew.trans q))
  clear ND
  go_wp2_with (fail)
  go_ret
  exact FIN.out
end Go.Proofs.YtdebfniifijjoaaDoor
