/-
  The walks of rules32, of slices.ContainsFunc over its rules, and of slices.Clone of them. Conditions: the rules are as they should be.
-/
import Derived.Test.YtdebfniifijjoaaDoorM15
import Derived.RangeFuncMany
import Derived.Sort.MapsRangeIn
import Derived.Sort.KeysCollected
import Derived.RegionIn
namespace Go.Proofs.YtdebfniifijjoaaDoor
open Go.RowKit Kit Go.Shelf
set_option linter.unusedVariables false
/-- The cells of the first k rules. -/
def ruL (k : Nat) : List Value := (List.range k).flatMap fun i => [.int .i64 ((i : Nat) : Int), .int .i64 (-9223372036854775808), .int .i64 9223372036854775807, .int .i64 0]
theorem ruL_next (k : Nat) : ruL (k + 1) = ruL k ++ [.int .i64 (k : Int), .int .i64 (-9223372036854775808), .int .i64 9223372036854775807, .int .i64 0] := by simp [ruL, List.range_succ]
theorem info89 : (Tryd.prog.info? 89).map (fun i => (i.zero, i.size, i.bytes)) = some (some (.agg #[.int .i64 0, .int .i64 0, .int .i64 0, .int .i64 0]), 4, 32) := by kernel_rfl
theorem rl_of {W : World} {B g cap : Nat} (h : W.ownsRow B 89 4 (.slice (some ⟨g, 0, none⟩) 8 cap) 8 (ruL 8)) : RL8 W g ∧ 8 ≤ cap ∧ cap ≤ maxLen := by
  obtain ⟨cur, _, _, h2, h3, _⟩ := own_block h
  refine ⟨⟨fun i hi => ?_, fun i hi => ?_, fun i hi => ?_, fun i hi => ?_, (own_lt h).2⟩, h2, h3⟩
  all_goals
    refine own_cell h ?_
    rcases (by omega : i = 0 ∨ i = 1 ∨ i = 2 ∨ i = 3 ∨ i = 4 ∨ i = 5 ∨ i = 6 ∨ i = 7) with rfl | rfl | rfl | rfl | rfl | rfl | rfl | rfl <;> rfl
set_option maxHeartbeats 1600000 in
theorem rules_any (w : World) : Calls Tryd.prog 21 #[] w fun e w' => ∃ g c, e = .returned (.slice (some ⟨g, 0, none⟩) 8 c) ∧ RL8 w' g ∧ (8 ≤ c ∧ c ≤ maxLen) ∧ w.heap.size ≤ g ∧ Below w.heap.size w w' := by
  obtain ⟨i0, hi0, hz0, hz1, hz2⟩ := info_parts info89
  have H0 : Hid (w.ownsRow w.heap.size 89 4 (.slice none 0 0) 0 (ruL 0)) := Lib.hid (World.ownsRow_nil _ _ _ _)
  go_enter Tryd.func21, Tryd.ntmps21
  go_wp2_with (fail)
  go_loopw [1, 2] (fun u i wr => ∃ k : Nat, k ≤ 8 ∧ i = .int .i64 k ∧ wr.ownsRow w.heap.size 89 4 u k (ruL k) ∧ Below w.heap.size w wr) (fun _ i _ => 8 - (intOf i).toNat)
  case atStart => exact ⟨0, by omega, rfl, H0.out, Below.refl _ _⟩
  case round =>
    clear H0
    obtain ⟨k, hk, rfl, hO, hB⟩ := hrel
    have HO := Lib.hid hO; have HB := Lib.hid hB
    clear hO hB
    by_cases hlt : k < 8
    · have dk : decide ((k : Int) < 8) = true := by simp; omega
      have LN := Lib.hid (ruL_next k)
      have hws : w.heap.size ≤ wr.heap.size := HB.out.size
      go_wp2_with (at_builtin; refine wpList_append_own _ rfl _ _ 61 rfl w.heap.size 89 i0 _ 4 32 Tryd.underlying61 hi0 hz0 hz1 hz2 rfl (by decide) _ k _ rfl (HO.out.alloc _) ⟨wr.heap.size, 0, none⟩ 1 1 [_, _, _, _] rfl rfl (cells_new wr [_, _, _, _] 89) (by simp [Value.oneCell']) (by unfold maxLen; omega) (by omega) (by simp; omega) ?_; intro v6 w6 hown6 hg6 _; have OWN6 := Lib.hid hown6; have GR6 := Lib.hid hg6; clear hown6 hg6)
      refine ⟨⟨k + 1, by omega, by go_num, ?_, ?_⟩, by simp [intOf]; omega⟩
      · rw [LN.out]; exact OWN6.out
      · exact (bl_alloc HB.out _).grown GR6.out (by simp; omega) (fun j e => (HO.out.lt j e).1)
    · have e : k = 8 := by omega
      subst e
      have dk : decide (((8 : Nat) : Int) < 8) = false := by decide
      obtain ⟨g, cap, rfl⟩ := ownsRow_succ (k := 7) HO.out
      have RO := Lib.hid (rl_of HO.out)
      have hgl := own_lt HO.out
      clear HO
      go_wp2_with (fail)
      go_ret
      exact ⟨g, cap, rfl, RO.out.1, RO.out.2, hgl.1, HB.out⟩
set_option maxHeartbeats 800000 in
theorem clos37 (k : Int) (w : World) : Calls Tryd.prog 37 #[.agg #[.int .i64 k, .int .i64 (-9223372036854775808), .int .i64 9223372036854775807, .int .i64 0]] w fun e w' => e = .returned (.bool false) ∧ Below w.heap.size w w' := by
  go_enter Tryd.func37, Tryd.ntmps37
  go_wp2_with (fail)
  go_ret
  exact ⟨rfl, bl_alloc (Below.refl _ _) _⟩
set_option maxHeartbeats 1600000 in
theorem indexf_any {w : World} {b c : Nat} (h : RL8 w b) (hc : 8 ≤ c ∧ c ≤ maxLen) :
    Calls Tryd.prog 58 #[.slice (some ⟨b, 0, none⟩) 8 c, .func (.func 37) #[] #[]] w fun e w' => e = .returned (.int .i64 (-1)) ∧ Below w.heap.size w w' := by
  have H := Lib.hid h
  have hc2 := hc.2
  unfold maxLen at hc2
  have hb := h.lt
  clear h
  go_enter Tryd.func58, Tryd.ntmps58
  go_wp2_with (fail)
  go_loopw [8] (fun i wr => ∃ k : Nat, k ≤ 8 ∧ i = .int .i64 k ∧ Below w.heap.size w wr) (fun i _ => 8 - (intOf i).toNat)
  case atStart => exact ⟨0, by omega, rfl, Below.refl _ _⟩
  case round =>
    obtain ⟨k, hk, rfl, hB⟩ := hrel
    have HB := Lib.hid hB
    clear hB
    by_cases hlt : k < 8
    · have dk : decide ((k : Int) < 8) = true := by simp; omega
      have P := Lib.hid (H.out.below HB.out)
      have z0 := P.out.id k hlt
      have z1 := P.out.least k hlt
      have z2 := P.out.most k hlt
      have z3 := P.out.init k hlt
      have hbw := P.out.lt
      go_wp2_with (fail)
      refine (clos37 k _).mono ?_
      rintro e w5 ⟨rfl, b5⟩
      have HB5 := Lib.hid (bl_step HB.out b5)
      clear b5
      go_wp2_with (fail)
      exact ⟨⟨k + 1, by omega, by go_num, HB5.out⟩, by simp [intOf]; omega⟩
    · have e : k = 8 := by omega
      subst e
      have dk : decide (((8 : Nat) : Int) < 8) = false := by decide
      go_wp2_with (fail)
      go_ret
      exact ⟨rfl, HB.out⟩
set_option maxHeartbeats 800000 in
theorem containsf_any {w : World} {b c : Nat} (h : RL8 w b) (hc : 8 ≤ c ∧ c ≤ maxLen) :
    Calls Tryd.prog 36 #[.slice (some ⟨b, 0, none⟩) 8 c, .func (.func 37) #[] #[]] w fun e w' => e = .returned (.bool false) ∧ Below w.heap.size w w' := by
  have IX := Lib.hid (indexf_any h hc)
  clear h
  go_enter Tryd.func36, Tryd.ntmps36
  go_wp2_with (fail)
  refine IX.out.mono ?_
  rintro e w5 ⟨rfl, b5⟩
  have B5 := Lib.hid b5
  clear b5 IX
  go_wp2_with (fail)
  go_ret
  exact ⟨rfl, B5.out⟩
theorem nil61 (b c : Nat) (w : World) : (binOp .eql 61 (.slice (some ⟨b, 0, none⟩) 8 c) (.slice none 0 0)).run Tryd.prog w = .ok (.bool false) w := Lib.run_eql_slice_nil w 61 89 (some ⟨b, 0, none⟩) 8 c 0 0 Tryd.underlying61
theorem ruL_len : ∀ k, (ruL k).length = k * 4
  | 0 => rfl
  | k + 1 => by rw [ruL_next, List.length_append, ruL_len k]; simp; omega
theorem ruL_one (k : Nat) : ∀ u ∈ ruL k, u.oneCell' = true := by
  intro u hu
  obtain ⟨i, _, hi⟩ := List.mem_flatMap.1 hu
  simp at hi
  rcases hi with rfl | rfl | rfl | rfl <;> rfl
theorem ru_cells {w : World} {b : Nat} (h : RL8 w b) : ∀ (j : Nat) (u : Value), (ruL 8)[j]? = some u → w.cell? ((⟨b, 0, none⟩ : Addr).add j) = some u := by
  intro j u hu
  have hp : (⟨b, 0, none⟩ : Addr).add j = ⟨b, 0 + j, none⟩ := by unfold Addr.add; split <;> simp_all
  rw [hp, Nat.zero_add]
  have hj : j < 32 := by
    rcases Nat.lt_or_ge j 32 with h | h
    · exact h
    · rw [List.getElem?_eq_none (by rw [ruL_len]; omega)] at hu; cases hu
  obtain ⟨i, r, rfl, hr, hi⟩ : ∃ i r, j = i * 4 + r ∧ r < 4 ∧ i < 8 := ⟨j / 4, j % 4, by omega, by omega, by omega⟩
  have := flat_get (m := 4) (c := fun i : Nat => [Value.int .i64 ((i : Nat) : Int), .int .i64 (-9223372036854775808), .int .i64 9223372036854775807, .int .i64 0]) (fun _ => rfl) (List.range 8) i r i (by rw [List.getElem?_range hi]) hr
  unfold ruL at hu
  rw [this] at hu
  rcases (by omega : r = 0 ∨ r = 1 ∨ r = 2 ∨ r = 3) with rfl | rfl | rfl | rfl <;> simp at hu <;> subst hu
  · exact h.id i hi
  · exact h.least i hi
  · exact h.most i hi
  · exact h.init i hi
set_option maxRecDepth 100000 in
set_option maxHeartbeats 1600000 in
theorem clone_any {w : World} {b c : Nat} (h : RL8 w b) (hc : 8 ≤ c ∧ c ≤ maxLen) :
    Calls Tryd.prog 40 #[.slice (some ⟨b, 0, none⟩) 8 c] w fun e w' => ∃ g c', e = .returned (.slice (some ⟨g, 0, none⟩) 8 c') ∧ RL8 w' g ∧ (8 ≤ c' ∧ c' ≤ maxLen) ∧ w.heap.size ≤ g ∧ Below w.heap.size w w' := by
  obtain ⟨i0, hi0, hz0, hz1, hz2⟩ := info_parts info89
  have NI := fun w => nil61 b c w
  have hb := h.lt
  have CE := Lib.hid (ru_cells (h.below (bl_alloc (Below.refl _ _) (.cells #[] 89))))
  have OW : Hid ((w.alloc (.cells #[] 89)).ownsRow w.heap.size 89 4 (.slice (some ⟨w.heap.size, 0, none⟩) 0 0) 0 []) := Lib.hid ⟨rfl, .inr ⟨w.heap.size, 0, #[], rfl, Nat.le_refl _, hp_new _ _, Nat.le_refl _, by simp, rfl, rfl⟩⟩
  have B1 := Lib.hid (bl_alloc (Below.refl w.heap.size w) (.cells #[] 89))
  clear h
  go_enter Tryd.func40, Tryd.ntmps40
  go_wp2_with (at_builtin; refine wpList_append_own _ rfl _ _ 61 rfl w.heap.size 89 i0 _ 4 32 Tryd.underlying61 hi0 hz0 hz1 hz2 rfl (by decide) _ 0 [] rfl OW.out ⟨b, 0, none⟩ 8 c (ruL 8) rfl (ruL_len 8) CE.out (ruL_one 8) (by unfold maxLen; omega) (by omega) (by simp) ?_; intro v6 w6 hown6 hg6 _; have OWN6 := Lib.hid hown6; have GR6 := Lib.hid hg6; clear hown6 hg6)
  go_ret
  obtain ⟨g, cap, rfl⟩ := ownsRow_succ (k := 7) OWN6.out
  have ro := rl_of OWN6.out
  exact ⟨g, cap, rfl, ro.1, ro.2, (own_lt OWN6.out).1, B1.out.grown GR6.out (by simp) (fun j e => (OW.out.lt j e).1)⟩
end Go.Proofs.YtdebfniifijjoaaDoor
/-
  The walk of tables.New. Conditions: a store with nothing staged; the rules are as they should be.
-/
namespace Go.Proofs.YtdebfniifijjoaaDoor
open Go.RowKit Kit Go.Shelf
set_option linter.unusedVariables false
theorem law3 : Maps.Keyed Tryd.prog 3 := Maps.int_keyed Tryd.underlying3
theorem key3 (x : Int) (hx : (Lit.int .i64 x).wf = true) : keyOf Tryd.prog 3 (.int .i64 x) = some (.int .i64 x) := Maps.keyOf_int_mk Tryd.underlying3 hx
theorem wf64' (x : Int) (hx : -9223372036854775808 ≤ x ∧ x ≤ 9223372036854775807) : (Lit.int .i64 x).wf = true := by
  simp [Lit.wf, IntKind.min, IntKind.max, IntKind.signed, IntKind.bits]; omega
theorem RL8.mod {w w' : World} {S : Nat → Prop} {b : Nat} (h : RL8 w b) (hm : Mod S w w') (h2 : ¬ S b) : RL8 w' b :=
  ⟨fun i hi => by rw [hm.cell h.lt h2]; exact h.id i hi, fun i hi => by rw [hm.cell h.lt h2]; exact h.least i hi, fun i hi => by rw [hm.cell h.lt h2]; exact h.most i hi, fun i hi => by rw [hm.cell h.lt h2]; exact h.init i hi, Nat.lt_of_lt_of_le h.lt hm.size⟩
structure TNL (w : World) (bt bs br bi c k : Nat) (wr : World) : Prop where
  obj : wr.heap[bt]? = some (.cells #[.pointer (some ⟨bs, 0, none⟩), .slice (some ⟨br, 0, none⟩) 8 c, .map (some bi)] 96)
  rules : RL8 wr br
  map : wr.ownsMap Tryd.prog 3 (plainElem Tryd.prog 3) bi k (idxD k)
  below : Below w.heap.size w wr
def TNewQ (bs : Nat) (w : World) (e : Ending) (w' : World) : Prop := ∃ bt br bi c, e = .returned (.tuple #[.pointer (some ⟨bt, 0, none⟩), .int .i64 0]) ∧ (w.heap.size ≤ bt ∧ w.heap.size ≤ br ∧ w.heap.size ≤ bi) ∧ TT w' bt bs br bi c ∧ Below w.heap.size w w'
set_option maxRecDepth 100000 in
set_option maxHeartbeats 3200000 in
theorem tnew_any {w : World} {bs bm base size b c : Nat} (h : ST w bs bm base size (.pointer none)) (hr : RL8 w b) (hc : 8 ≤ c ∧ c ≤ maxLen) :
    Calls Tryd.prog 20 #[.pointer (some ⟨bs, 0, none⟩), .slice (some ⟨b, 0, none⟩) 8 c] w fun e w' => TNewQ bs w e w' := by
  have D0 := Lib.hid (data_no h (-1) emp)
  have CF := Lib.hid (containsf_any hr hc)
  have RI := Lib.hid (fun (w' : World) (hb : Below w.heap.size w w') => rising38 (hr.below hb) hc)
  have CL := Lib.hid (fun (w' : World) (hb : Below w.heap.size w w') => clone_any (hr.below hb) hc)
  have HR := Lib.hid hr
  have hc2 := hc.2
  unfold maxLen at hc2
  have hb := hr.lt
  have hmm := @run_makeMap Tryd.prog
  unfold emp at D0
  clear h hr
  go_enter Tryd.func20, Tryd.ntmps20
  go_wp2_with (fail)
  refine D0.out.mono ?_
  rintro e _ ⟨rfl, rfl⟩
  go_wp2_with (fail)
  refine CF.out.mono ?_
  rintro e w1 ⟨rfl, b1⟩
  have B1 := Lib.hid b1
  clear b1 CF
  go_wp2_with (fail)
  refine (RI.out _ B1.out).mono ?_
  rintro e w2 ⟨rfl, b2⟩
  have B2 := Lib.hid (bl_step B1.out b2)
  clear b2
  go_wp2_with (fail)
  refine (CL.out _ B2.out).mono ?_
  rintro e w3 ⟨br, cr, rfl, hrr, hcr, hg, b3⟩
  have B3 := Lib.hid (bl_step B2.out b3)
  have HRR := Lib.hid hrr
  have hws := B2.out.size
  have HG := Lib.hid (show w.heap.size ≤ br by omega)
  have hbrl := hrr.lt
  clear b3 hrr hg
  go_wp2_with (fail)
  have H0 : Hid (TNL w (w3.heap.size + 1) bs br w3.heap.size cr 0 ((w3.alloc (.map #[] 0)).alloc (.cells #[.pointer (some ⟨bs, 0, none⟩), .slice (some ⟨br, 0, none⟩) 8 cr, .map (some w3.heap.size)] 96))) := Lib.hid
    ⟨by have := hp_new (w3.alloc (.map #[] 0)) (.cells #[.pointer (some ⟨bs, 0, none⟩), .slice (some ⟨br, 0, none⟩) 8 cr, .map (some w3.heap.size)] 96); rw [World.size_alloc] at this; exact this,
      (HRR.out.below (bl_alloc (bl_alloc (Below.refl _ _) _) _)), (World.ownsMap_made w3 Tryd.prog 3 _).alloc _, bl_alloc (bl_alloc B3.out _) _⟩
  generalize ((w3.alloc (.map #[] 0)).alloc (.cells #[.pointer (some ⟨bs, 0, none⟩), .slice (some ⟨br, 0, none⟩) 8 cr, .map (some w3.heap.size)] 96)) = w4 at H0 ⊢
  have hs3 : w.heap.size ≤ w3.heap.size := B3.out.size
  obtain ⟨bi, hbi⟩ : ∃ bi, bi = w3.heap.size := ⟨_, rfl⟩
  rw [← hbi] at H0 hs3 hbrl ⊢
  clear hbi
  go_loopw [38] (fun i wr => ∃ k : Nat, k ≤ 8 ∧ i = .int .i64 k ∧ TNL w (bi + 1) bs br bi cr k wr) (fun i _ => 8 - (intOf i).toNat)
  case atStart => exact ⟨0, by omega, rfl, H0.out⟩
  case round =>
    clear H0
    obtain ⟨k, hk, rfl, hL⟩ := hrel
    have HL := Lib.hid hL
    clear hL
    by_cases hlt : k < 8
    · have dk : decide ((k : Int) < 8) = true := by simp; omega
      have P := Lib.hid (HR.out.below HL.out.below)
      have z0 := P.out.id k hlt
      have z1 := P.out.least k hlt
      have z2 := P.out.most k hlt
      have z3 := P.out.init k hlt
      have hbw := P.out.lt
      have x2 : wr.cell? ⟨bi + 1, 2, none⟩ = some (.map (some bi)) := cell_of HL.out.obj rfl
      have hbt : bi + 1 < wr.heap.size := lt_of_obj HL.out.obj
      have wfk := wf64' (k : Int) (by omega)
      go_wp2_with (fail)
      have HL4 : Hid (TNL w (bi + 1) bs br bi cr k (wr.alloc (.cells #[.int .i64 k, .int .i64 (-9223372036854775808), .int .i64 9223372036854775807, .int .i64 0] 89))) := Lib.hid ⟨hp_old HL.out.obj _, HL.out.rules.below (bl_alloc (Below.refl _ _) _), HL.out.map.alloc _, bl_alloc HL.out.below _⟩
      have NB := hp_new wr (.cells #[.int .i64 k, .int .i64 (-9223372036854775808), .int .i64 9223372036854775807, .int .i64 0] 89)
      have y0 : (wr.alloc (.cells #[.int .i64 k, .int .i64 (-9223372036854775808), .int .i64 9223372036854775807, .int .i64 0] 89)).cell? ⟨wr.heap.size, 0, none⟩ = some (.int .i64 k) := cell_of NB rfl
      have hNB := lt_of_obj NB
      have x2' : (wr.alloc (.cells #[.int .i64 k, .int .i64 (-9223372036854775808), .int .i64 9223372036854775807, .int .i64 0] 89)).cell? ⟨bi + 1, 2, none⟩ = some (.map (some bi)) := cell_of HL4.out.obj rfl
      have hbt' := lt_of_obj HL4.out.obj
      clear NB x2 z0 z1 z2 z3
      generalize (wr.alloc (.cells #[.int .i64 k, .int .i64 (-9223372036854775808), .int .i64 9223372036854775807, .int .i64 0] 89)) = w5 at *
      refine region_calm_tail 7 (by kernel_rfl) (by kernel_rfl) ?_
      simp only [List.take_succ_cons, List.take_zero, List.drop_succ_cons, List.drop_zero]
      repeat (go_big_quiet_step ((fail)))
      refine wpQuiet_nil ?_; intro _ hw'; obtain ⟨xq, hw''⟩ := hw'; subst hw''
      have ME5 : (ext w5 xq).ownsMap Tryd.prog 3 (plainElem Tryd.prog 3) bi k (idxD k) := by
        obtain ⟨es, cl, hb, rest⟩ := HL4.out.map
        exact ⟨es, cl, hp_ext hb xq, rest⟩
      obtain ⟨w6, hrun, own6, gr6⟩ := ME5.update law3 Tryd.underlying94 (by unfold maxLen; omega) (key3 _ wfk) (plainElem_int (H := Unit) Tryd.underlying3 wfk)
      have OWN6 := Lib.hid own6; have GR6 := Lib.hid gr6
      have E5 := Lib.hid (below_ext w5 xq)
      clear own6 gr6 ME5
      generalize ext w5 xq = w7 at *
      go_wp2_with (fail)
      have m6 : Mod (fun j => j = bi) w7 w6 := ⟨GR6.out.os, GR6.out.tape, GR6.out.output, GR6.out.size, fun j hj hs => GR6.out.block j hj (fun e => hs (by cases e; rfl))⟩
      have o7 := below_keeps E5.out HL4.out.obj hbt'
      have b7 := bl_go HL4.out.below E5.out HL4.out.below.size
      refine ⟨⟨k + 1, by omega, by go_num, ⟨m6.keeps o7 (by omega), ?_, OWN6.out, bl_mod b7 m6 hs3⟩⟩, by simp [intOf]; omega⟩
      exact (HL4.out.rules.below E5.out).mod m6 (by omega)
    · have e : k = 8 := by omega
      subst e
      have dk : decide (((8 : Nat) : Int) < 8) = false := by decide
      go_wp2_with (fail)
      go_ret2
      exact ⟨bi + 1, br, bi, cr, rfl, ⟨by omega, HG.out, hs3⟩, ⟨HL.out.obj, HL.out.rules, hcr, HL.out.map⟩, HL.out.below⟩
end Go.Proofs.YtdebfniifijjoaaDoor
/-
  What maps.All hands out of a map of one entry. Conditions: the map has just that entry. (After the kit's worked proof of maps.All's iterator.)
-/
namespace Go.Proofs.YtdebfniifijjoaaDoor
open Go.RowKit Kit Go.Maps Go.Sort Go.Shelf
attribute [local go_sem] Oper.semAt_some
set_option linter.unusedVariables false
/-- A map of one entry, as it reads. -/
def vD (k x : Int) : DataW Unit := (DataW.map []).put (.int .i64 k) (.lit (.int .i64 x))
theorem vD_has (k x : Int) (z : Lit) : Maps.has (vD k x) z = (Lit.int .i64 k).sameKey z := by simp [vD, DataW.put, DataW.insert, Maps.has]
theorem vD_at (k x : Int) (zd : DataW Unit) : (vD k x).atKey (.int .i64 k) zd = .lit (.int .i64 x) := by simp [vD, DataW.put, DataW.insert, DataW.atKey, Lit.sameKey]
theorem same_int (k : Int) (z : Lit) (h : (Lit.int .i64 k).sameKey z = true) : z = .int .i64 k := by
  cases z <;> simp [Lit.sameKey] at h
  obtain ⟨h1, h2⟩ := h
  rw [← h1, ← h2]
abbrev encU (k x : Int) : Unit → Array Value := fun _ => #[.int .i64 k, .int .i64 x]
set_option maxRecDepth 100000 in
set_option maxHeartbeats 1600000 in
theorem all1_in (n : Nat) (hn : 1 ≤ n) (l Bm b : Nat) (k x : Int) (J Jx : List Unit → World → Prop)
    (hY : ∀ pre u W, J pre W → pre.length < 1 → YieldAt Fence.wide (n - 1) Tryd.prog l (encU k x u) W fun e W' =>
      (e = .returned (.bool true) ∧ J (pre ++ [u]) W' ∧ KeepsWalks W W') ∨ (e = .returned (.bool false) ∧ Jx (pre ++ [u]) W'))
    (W : World) (hJ : AbidesFrom W.heap.size J) (hm : W.cell? ⟨Bm, 0, none⟩ = some (.map (some b))) (hown : W.ownsMap Tryd.prog 3 (plainElem Tryd.prog 2) b 1 (vD k x)) (h0 : J [] W) :
    CallsIn Fence.wide n Tryd.prog 84 #[.func (.yield l) #[] #[], .pointer (some ⟨Bm, 0, none⟩)] W fun e W' => (∃ v, e = .returned v) ∧
      ((∃ ps, ps = [()] ∧ J ps W') ∨ (∃ pre : List Unit, True ∧ Jx pre W')) := by
  refine callsIn_of_wp Tryd.func84 rfl trivial ?_ rfl
  simp only [Tryd.ntmps84, List.size_toArray, List.length_cons, List.length_nil, Nat.reduceAdd, Nat.reduceSub, Array.replicate_succ, Array.replicate_zero, List.push_toArray, List.append_toArray, List.nil_append, List.cons_append]
  gi_wp2_with (first
    | (gi_at_range; refine wpListIn_range_own _ rfl _ 110 rfl 3 2 law3 Tryd.underlying110 _ b 1 _ rfl hown ?_; intro w0 hrg0 hg0 hs0)
    | gi_in)
  go_frame
  gi_loopw [3, 4] (fun _ _ wr => ∃ (left : Lit → Bool) (cnt : Nat) (ps : List Unit), wr.ranges Tryd.prog 3 (plainElem Tryd.prog 2) b W.heap.size 1 (vD k x) left cnt ∧ ((ps = [] ∧ left = Maps.has (vD k x)) ∨ (ps = [()] ∧ ∀ z, left z = false)) ∧ J ps wr)
    (fun _ _ wr => wr.rangeLeft b W.heap.size)
  case atStart =>
    exact ⟨_, _, [], hrg0, .inl ⟨rfl, rfl⟩, hJ [] W w0 none h0 hg0 (fun r e => by cases e)⟩
  case round =>
    obtain ⟨left, cnt, ps, hrg, hcs, hJs⟩ := hrel
    gi_wp2_with (first
      | (gi_at_next; refine wpListIn_next_ranges _ rfl _ rfl 3 law3 (plainElem Tryd.prog 2) (Value.int .i64) (Value.int .i64) (fun key kl hk => by obtain ⟨x, hx, _⟩ := Maps.keyOf_int_inv Tryd.underlying3 hk; exact ⟨x, hx⟩) (fun v y hv => by obtain ⟨c, rfl, _⟩ := plainElem_int_inv Tryd.underlying2 hv; exact ⟨c, rfl⟩) b W.heap.size 1 _ _ _ rfl hrg ?_ ?_)
      | gi_in)
    · intro hc0 hl0
      have hps : ps = [()] := by
        rcases hcs with ⟨_, h2⟩ | ⟨h1, _⟩
        · have := hl0 (.int .i64 k)
          rw [h2, vD_has] at this
          simp [Lit.sameKey] at this
        · exact h1
      clear hcs
      gi_wp2
      go_end0
      exact ⟨⟨_, rfl⟩, .inl ⟨ps, hps, hJs⟩⟩
    · intro y c kl yd yp w2 cnt2 hkey hlk hv hat hrg2 hlt hg2 hs2 hen
      obtain ⟨y', ey, rfl, _⟩ := Maps.keyOf_int_inv Tryd.underlying3 hkey
      have hps : ps = [] ∧ left = Maps.has (vD k x) := by
        rcases hcs with h | ⟨_, h⟩
        · exact h
        · rw [h] at hlk; cases hlk
      obtain ⟨rfl, rfl⟩ := hps
      rw [vD_has] at hlk
      have e1 := same_int _ _ hlk
      obtain rfl : y' = k := by simpa using e1
      obtain rfl : y = y' := by simpa using ey
      obtain ⟨c', ec, ez, _⟩ := plainElem_int_inv Tryd.underlying2 hv
      obtain rfl : c = c' := by simpa using ec
      obtain rfl : yd = .lit (.int .i64 c) := (Prod.mk.inj ez).1
      have hc := (hat .nil).symm.trans (vD_at y x .nil)
      obtain rfl : c = x := by simpa using hc
      have hJ2 : J [] w2 := hJ [] wr w2 (some W.heap.size) hJs hg2 (fun r e => by cases e; exact ⟨Nat.le_refl _, hrg.iter_walk⟩)
      obtain ⟨fn, tmps, assign, body, hy, hR⟩ := hY [] () w2 hJ2 (by simp)
      dsimp only [encU] at hy
      clear hs2
      gi_wp2
      refine hR.mono ?_
      rintro e W3 (⟨rfl, hJ3, hk3⟩ | ⟨rfl, hJx3⟩)
      · gi_wp2
        have hrg3 := hrg2.of_walks hk3
        go_roundw
        case rel =>
          refine ⟨_, cnt2, [()], hrg3, .inr ⟨rfl, fun z => ?_⟩, hJ3⟩
          rw [vD_has]
          cases hz : (Lit.int .i64 y).sameKey z with
          | false => rfl
          | true => rw [same_int _ _ hz]; simp [Lit.sameKey]
        case measure => rw [hrg3.left_eq, hrg.left_eq]; exact hlt
      · gi_wp2
        refine bodyPost_ret (results_none rfl _ _ _) rfl ?_
        exact ⟨⟨_, rfl⟩, .inr ⟨_, trivial, hJx3⟩⟩
theorem all1_stops (n : Nat) (hn : 1 ≤ n) (Bm b : Nat) (k x : Int) (w : World) (hBm : Bm < w.heap.size) (hm : w.cell? ⟨Bm, 0, none⟩ = some (.map (some b))) (hown : w.ownsMap Tryd.prog 3 (plainElem Tryd.prog 2) b 1 (vD k x)) :
    SeqStopsK Fence.wide n Tryd.prog 84 #[.pointer (some ⟨Bm, 0, none⟩)] (encU k x) KeepsWalks (fun xs => xs = [()]) (fun _ => True) 1 w := fun l J Jx W hW hJ _ hY h0 => by
  have hown' : W.ownsMap Tryd.prog 3 (plainElem Tryd.prog 2) b 1 (vD k x) := by
    have hbl := hown.lt
    obtain ⟨es, clock, hb, Ft, hs, hD⟩ := hown
    exact ⟨es, clock, (hW.block b hbl).trans hb, Ft, hs, hD⟩
  exact all1_in n hn l Bm b k x J Jx hY W hJ ((hW.cell (p := ⟨Bm, 0, none⟩) hBm).trans hm) hown' h0
theorem all70 (b : Nat) (w : World) : Calls Tryd.prog 70 #[.map (some b)] w fun e w' => e = .returned (.func (.func 84) #[] #[.pointer (some ⟨w.heap.size, 0, none⟩)]) ∧ w' = w.alloc (.cells #[.map (some b)] 110) := by
  go_enter Tryd.func70, Tryd.ntmps70
  go_wp2_with (fail)
  go_ret
  exact ⟨rfl, rfl⟩
end Go.Proofs.YtdebfniifijjoaaDoor
