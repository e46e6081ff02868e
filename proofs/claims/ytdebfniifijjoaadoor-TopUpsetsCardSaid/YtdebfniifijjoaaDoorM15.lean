/-
  The walk of slices.EqualFunc over 8 parameters and 8 rules; of a table's none and name. Conditions: the lists are as they should be.
-/
import Derived.Test.YtdebfniifijjoaaDoorM14
import Derived.Maps.Own
import Derived.Maps.OwnSet
import Derived.Maps.OwnOps
import Derived.Test.YtdebfniifijjoaaDoorM12
namespace Go.Proofs.YtdebfniifijjoaaDoor
open Go.RowKit Kit Go.Shelf
set_option linter.unusedVariables false
set_option maxHeartbeats 800000 in
theorem clos61 (k : Nat) (y : Int) (hy : -9223372036854775808 ≤ y ∧ y ≤ 9223372036854775807) (w : World) : Calls Tryd.prog 61 #[.agg #[.int .i64 k, .int .i64 y], .agg #[.int .i64 k, .int .i64 (-9223372036854775808), .int .i64 9223372036854775807, .int .i64 0]] w fun e w' => e = .returned (.bool true) ∧ Below w.heap.size w w' := by
  have d1 : decide ((-9223372036854775808 : Int) ≤ y) = true := by simp; omega
  have d2 : decide (y ≤ (9223372036854775807 : Int)) = true := by simp; omega
  clear hy
  go_enter Tryd.func61, Tryd.ntmps61
  go_wp2_with (fail)
  go_ret
  exact ⟨rfl, bl_alloc (bl_alloc (Below.refl _ _) _) _⟩
set_option maxRecDepth 100000 in
set_option maxHeartbeats 1600000 in
theorem equal_any {w : World} {b c br cr : Nat} {vals : Nat → Int} (h : PL w b vals) (hr : RL8 w br) (hc : 8 ≤ c ∧ c ≤ maxLen) (hcr : 8 ≤ cr ∧ cr ≤ maxLen) (hval : ∀ i, i < 8 → -9223372036854775808 ≤ vals i ∧ vals i ≤ 9223372036854775807) :
    Calls Tryd.prog 62 #[.slice (some ⟨b, 0, none⟩) 8 c, .slice (some ⟨br, 0, none⟩) 8 cr, .func (.func 61) #[] #[]] w fun e w' => e = .returned (.bool true) ∧ Below w.heap.size w w' := by
  have H := Lib.hid h
  have HR := Lib.hid hr
  have HV := Lib.hid hval
  have hc2 := hc.2
  unfold maxLen at hc2
  have hcr2 := hcr.2
  unfold maxLen at hcr2
  have hb := h.lt
  have hbr := hr.lt
  clear h hr hval
  go_enter Tryd.func62, Tryd.ntmps62
  go_wp2_with (fail)
  go_loopw [17] (fun i wr => ∃ k : Nat, k ≤ 8 ∧ i = .int .i64 k ∧ Below w.heap.size w wr) (fun i _ => 8 - (intOf i).toNat)
  case atStart => exact ⟨0, by omega, rfl, Below.refl _ _⟩
  case round =>
    obtain ⟨k, hk, rfl, hB⟩ := hrel
    have HB := Lib.hid hB
    clear hB
    by_cases hlt : k < 8
    · have dk : decide ((k : Int) < 8) = true := by simp; omega
      have P := Lib.hid (H.out.below HB.out)
      have R := Lib.hid (HR.out.below HB.out)
      have y0 := P.out.id k hlt
      have y1 := P.out.val k hlt
      have z0 := R.out.id k hlt
      have z1 := R.out.least k hlt
      have z2 := R.out.most k hlt
      have z3 := R.out.init k hlt
      have hbw := P.out.lt
      have hrw := R.out.lt
      have HB1 := Lib.hid (bl_alloc (bl_alloc HB.out (.cells #[.int .i64 k, .int .i64 (vals k)] 68)) (.cells #[.int .i64 k, .int .i64 (-9223372036854775808), .int .i64 9223372036854775807, .int .i64 0] 89))
      have CL := Lib.hid (fun w => clos61 k (vals k) (HV.out k hlt) w)
      generalize vals k = y at *
      go_wp2_with (fail)
      refine (CL.out _).mono ?_
      rintro e w5 ⟨rfl, b5⟩
      have HB5 := Lib.hid (bl_step HB1.out b5)
      clear b5
      go_wp2_with (fail)
      exact ⟨⟨k + 1, by omega, by go_num, HB5.out⟩, by simp [intOf]; omega⟩
    · have e : k = 8 := by omega
      subst e
      have dk : decide (((8 : Nat) : Int) < 8) = false := by decide
      go_wp2_with (fail)
      go_ret
      exact ⟨rfl, HB.out⟩
/-- The index of a table, as it reads: each rule by its ID. -/
def idxD : Nat → DataW Unit
  | 0 => .map []
  | k + 1 => (idxD k).put (.int .i64 k) (.lit (.int .i64 k))
/-- A table as it lies. -/
structure TT (w : World) (bt bs br bi c : Nat) : Prop where
  obj : w.heap[bt]? = some (.cells #[.pointer (some ⟨bs, 0, none⟩), .slice (some ⟨br, 0, none⟩) 8 c, .map (some bi)] 96)
  rules : RL8 w br
  cap : 8 ≤ c ∧ c ≤ maxLen
  map : w.ownsMap Tryd.prog 3 (plainElem Tryd.prog 3) bi 8 (idxD 8)
theorem TT.mod {w w' : World} {S : Nat → Prop} {bt bs br bi c : Nat} (h : TT w bt bs br bi c) (hm : Mod S w w') (h1 : ¬ S bt) (h2 : ¬ S br) (h3 : ¬ S bi) : TT w' bt bs br bi c := by
  refine ⟨hm.keeps h.obj h1, ⟨fun i hi => ?_, fun i hi => ?_, fun i hi => ?_, fun i hi => ?_, Nat.lt_of_lt_of_le h.rules.lt hm.size⟩, h.cap, ?_⟩
  · rw [hm.cell h.rules.lt h2]; exact h.rules.id i hi
  · rw [hm.cell h.rules.lt h2]; exact h.rules.least i hi
  · rw [hm.cell h.rules.lt h2]; exact h.rules.most i hi
  · rw [hm.cell h.rules.lt h2]; exact h.rules.init i hi
  · obtain ⟨es, cl, hb, rest⟩ := h.map
    exact ⟨es, cl, hm.keeps hb h3, rest⟩
theorem TT.below {w w' : World} {bt bs br bi c : Nat} (h : TT w bt bs br bi c) (hb : Below w.heap.size w w') : TT w' bt bs br bi c := h.mod (S := fun _ => False) (Mod.of_below hb) id id id
theorem eql_map (p : Nat) (w : World) : (binOp .eql 94 (.map (some p)) (.map none)).run Tryd.prog w = .ok (.bool false) w := by
  have h : ∀ d : Nat, (Op.equalIn (d + 1) 94 (.map (some p)) (.map none)).run Tryd.prog w = .ok false w := fun d => by
    simp [Op.equalIn, run_underlying Tryd.underlying94]
  simp only [binOp]
  simp [show Op.equal 94 (.map (some p)) (.map none) = Op.equalIn (9999 + 1) 94 (.map (some p)) (.map none) from rfl, h]
set_option maxRecDepth 100000 in
set_option maxHeartbeats 400000 in
theorem tnone_any {w : World} {bt bs br bi c : Nat} (h : TT w bt bs br bi c) : Calls Tryd.prog 43 #[.pointer (some ⟨bt, 0, none⟩)] w fun e w' => e = .returned (.bool false) ∧ w = w' := by
  have c2 : w.cell? ⟨bt, 2, none⟩ = some (.map (some bi)) := cell_of h.obj rfl
  have EM := fun w => eql_map bi w
  clear h
  go_enter Tryd.func43, Tryd.ntmps43
  go_wp2_with (fail)
  go_ret
  exact ⟨rfl, rfl⟩
set_option maxHeartbeats 400000 in
theorem tname_any {w : World} {bt bs br bi c : Nat} (h : TT w bt bs br bi c) : Calls Tryd.prog 52 #[.pointer (some ⟨bt, 0, none⟩)] w fun e w' => e = .returned (.int .u32 4294901768) ∧ w = w' := by
  have c1 : w.cell? ⟨bt, 1, none⟩ = some (.slice (some ⟨br, 0, none⟩) 8 c) := cell_of h.obj rfl
  have hc2 := h.cap.2
  unfold maxLen at hc2
  clear h
  go_enter Tryd.func52, Tryd.ntmps52
  go_wp2_with (fail)
  go_ret
  exact ⟨rfl, rfl⟩
end Go.Proofs.YtdebfniifijjoaaDoor
/-
  The walks of a table's now, All and Version. Conditions: a table that lies over a store, whose active patch, if there is one, is its table.
-/
namespace Go.Proofs.YtdebfniifijjoaaDoor
open Go.RowKit Kit Go.Shelf
set_option linter.unusedVariables false
/-- What a store says of a table's values. -/
def TVal (v : Nat → Nat) (base size : Nat) (vals : Nat → Int) : Prop :=
  match actB v base size with
  | none => ∀ i, i < 8 → vals i = 0
  | some k => hdF v (bkAt base size k) 1 = 4294901768 ∧ dataB v (bkAt base size k) = encS vals
def VR (vals : Nat → Int) : Prop := ∀ i, i < 8 → -9223372036854775808 ≤ vals i ∧ vals i ≤ 9223372036854775807
def NowQ (bm bw n safe : Nat) (s : MS) (vals : Nat → Int) (w : World) (e : Ending) (w' : World) : Prop :=
  (∃ (v : Value) (ver : Nat), e = .returned (.tuple #[v, .int .u32 ver]) ∧ PO w' w.heap.size vals v) ∧ RdQ bm bw n safe s w w'
theorem RdQ.below {bm bw n safe : Nat} {s : MS} {a b c : World} (h : RdQ bm bw n safe s a b) (hb : Below b.heap.size b c) : RdQ bm bw n safe s a c := by
  obtain ⟨⟨s', l, m⟩, k⟩ := h
  exact ⟨⟨s', l, m.below hb⟩, k.trans (MK.below hb)⟩
set_option maxRecDepth 100000 in
set_option maxHeartbeats 3200000 in
theorem now_any {w : World} {bt bs br bi c bm bw base size n safe : Nat} {nx : Value} {s : MS} {vals : Nat → Int} (hT : TT w bt bs br bi c) (h : SM w bs bm bw base size n safe nx s) (hV : TVal s.v base size vals) (hR : VR vals)
    (h1 : bt ≠ bm ∧ bt ≠ bw ∧ br ≠ bm ∧ br ≠ bw ∧ bi ≠ bm ∧ bi ≠ bw) :
    Calls Tryd.prog 44 #[.pointer (some ⟨bt, 0, none⟩)] w fun e w' => NowQ bm bw n safe s vals w e w' := by
  obtain ⟨i0, hi0, hz0, hz1, hz2⟩ := info_parts info68
  have c0 : w.cell? ⟨bt, 0, none⟩ = some (.pointer (some ⟨bs, 0, none⟩)) := cell_of hT.obj rfl
  have AC := Lib.hid (actv_any h)
  have HT := Lib.hid hT
  have HS := Lib.hid h
  have hc := hT.cap
  have hc2 := hc.2
  unfold maxLen at hc2
  unfold ActvQ actR at AC
  unfold TVal at hV
  cases ha : actB s.v base size with
  | none =>
    rw [ha] at AC hV
    dsimp only at AC hV
    have DN := Lib.hid (fun w => decode_nil w)
    have HV := Lib.hid hV
    clear hT h hV ha hR
    go_enter Tryd.func44, Tryd.ntmps44
    go_wp2_with (fail)
    refine AC.out.mono ?_
    rintro e w1 ⟨rfl, r1⟩
    have R1 := Lib.hid r1
    clear r1 AC
    go_wp2_with (fail)
    refine (DN.out w1).mono ?_
    rintro e w2 ⟨rfl, b2⟩
    have R2 := Lib.hid (R1.out.below b2)
    have hs2 := R2.out.2.size
    have T2 := Lib.hid (HT.out.mod R2.out.2 (by omega) (by omega) (by omega))
    clear b2
    have c1 : w2.cell? ⟨bt, 1, none⟩ = some (.slice (some ⟨br, 0, none⟩) 8 c) := cell_of T2.out.obj rfl
    have hb2 : bt < w2.heap.size := lt_of_obj T2.out.obj
    have H0 : Hid (w2.ownsRow w2.heap.size 68 2 (.slice none 0 0) 0 (pL vals (chL 0)) ∧ Below w2.heap.size w2 w2) := Lib.hid ⟨World.ownsRow_nil _ _ _ _, Below.refl _ _⟩
    go_wp2_with (fail)
    go_loopw [8, 56] (fun u i wr => ∃ k : Nat, k ≤ 8 ∧ i = .int .i64 k ∧ wr.ownsRow w2.heap.size 68 2 u k (pL vals (chL k)) ∧ Below w2.heap.size w2 wr) (fun _ i _ => 8 - (intOf i).toNat)
    case atStart => exact ⟨0, by omega, rfl, H0.out.1, H0.out.2⟩
    case round =>
      clear H0
      obtain ⟨k, hk, rfl, hO, hB⟩ := hrel
      have HO := Lib.hid hO; have HB := Lib.hid hB
      clear hO hB
      by_cases hlt : k < 8
      · have dk : decide ((k : Int) < 8) = true := by simp; omega
        have R := Lib.hid ((T2.out.below HB.out).rules)
        have z0 := R.out.id k hlt
        have z1 := R.out.least k hlt
        have z2 := R.out.most k hlt
        have z3 := R.out.init k hlt
        have hrw := R.out.lt
        have LN := Lib.hid (show pL vals (chL (k + 1)) = pL vals (chL k) ++ [.int .i64 (k : Int), .int .i64 0] by rw [chL_next k hlt, pL_snoc, HV.out k hlt])
        have hws : w2.heap.size ≤ wr.heap.size := HB.out.size
        go_wp2_with (at_builtin; refine wpList_append_own _ rfl _ _ 65 rfl w2.heap.size 68 i0 _ 2 16 Tryd.underlying65 hi0 hz0 hz1 hz2 rfl (by decide) _ k _ rfl ((HO.out.alloc _).alloc _) ⟨wr.heap.size + 1, 0, none⟩ 1 1 [_, _] rfl rfl (fun j u hj => by have := cells_new (wr.alloc (.cells #[.int .i64 (k : Int), .int .i64 (-9223372036854775808), .int .i64 9223372036854775807, .int .i64 0] 89)) [.int .i64 (k : Int), .int .i64 0] 68 j u hj; rw [World.size_alloc] at this; exact this) (by simp [Value.oneCell']) (by unfold maxLen; omega) (by omega) (by simp; omega) ?_; intro v6 w6 hown6 hg6 _; have OWN6 := Lib.hid hown6; have GR6 := Lib.hid hg6; clear hown6 hg6)
        refine ⟨⟨k + 1, by omega, by go_num, ?_, ?_⟩, by simp [intOf]; omega⟩
        · rw [LN.out]; exact OWN6.out
        · exact (bl_alloc (bl_alloc HB.out _) _).grown GR6.out (by simp; omega) (fun j e => (HO.out.lt j e).1)
      · have e : k = 8 := by omega
        subst e
        have dk : decide (((8 : Nat) : Int) < 8) = false := by decide
        go_wp2_with (fail)
        go_ret2
        exact ⟨⟨_, 0, rfl, own_rebase HO.out hs2⟩, R2.out.below HB.out⟩
  | some k =>
    rw [ha] at AC hV
    dsimp only at AC hV
    rw [hV.1, hV.2] at AC
    have DN := Lib.hid (fun w => decode_any vals hR w)
    have HV := Lib.hid hR
    generalize hdF s.v (bkAt base size k) 0 = gen at *
    clear hT h hV ha hR
    go_enter Tryd.func44, Tryd.ntmps44
    go_wp2_with (fail)
    refine AC.out.mono ?_
    rintro e w1 ⟨rfl, r1⟩
    have R1 := Lib.hid r1
    clear r1 AC
    go_wp2_with (fail)
    refine (DN.out w1).mono ?_
    rintro e w2 ⟨v, rfl, po, b2⟩
    have R2 := Lib.hid (R1.out.below b2)
    have hs1 := R1.out.2.size
    have hs2 := R2.out.2.size
    have T2 := Lib.hid (HT.out.mod R2.out.2 (by omega) (by omega) (by omega))
    obtain ⟨g, cap, rfl⟩ := ownsRow_succ (k := 7) po
    obtain ⟨hpl, hcap⟩ := pl_of po
    have PO2 := Lib.hid po
    have EQ := Lib.hid (fun (w3 : World) (hb : Below w2.heap.size w2 w3) => equal_any (hpl.below hb) (T2.out.below hb).rules hcap T2.out.cap HV.out)
    have NM := Lib.hid (tname_any T2.out)
    have c1 : w2.cell? ⟨bt, 1, none⟩ = some (.slice (some ⟨br, 0, none⟩) 8 c) := cell_of T2.out.obj rfl
    have hb2 : bt < w2.heap.size := lt_of_obj T2.out.obj
    clear b2 po hpl
    go_wp2_with (fail)
    refine NM.out.mono ?_
    rintro e _ ⟨rfl, rfl⟩
    go_wp2_with (fail)
    refine (EQ.out _ (Below.refl _ _)).mono ?_
    rintro e w3 ⟨rfl, b3⟩
    have R3 := Lib.hid (R2.out.below b3)
    have PO3 := Lib.hid (own_calm PO2.out b3)
    clear b3
    go_wp2_with (fail)
    go_ret2
    exact ⟨⟨_, gen, rfl, own_rebase PO3.out hs1⟩, R3.out⟩
set_option maxHeartbeats 400000 in
theorem all_any {w : World} {bt bs br bi c bm bw base size n safe : Nat} {nx : Value} {s : MS} {vals : Nat → Int} (hT : TT w bt bs br bi c) (h : SM w bs bm bw base size n safe nx s) (hV : TVal s.v base size vals) (hR : VR vals)
    (h1 : bt ≠ bm ∧ bt ≠ bw ∧ br ≠ bm ∧ br ≠ bw ∧ bi ≠ bm ∧ bi ≠ bw) :
    Calls Tryd.prog 23 #[.pointer (some ⟨bt, 0, none⟩)] w fun e w' => (∃ v, e = .returned v ∧ PO w' w.heap.size vals v) ∧ RdQ bm bw n safe s w w' := by
  have NO := Lib.hid (tnone_any hT)
  have NW := Lib.hid (now_any hT h hV hR h1)
  clear hT h hV hR
  go_enter Tryd.func23, Tryd.ntmps23
  go_wp2_with (fail)
  refine NO.out.mono ?_
  rintro e _ ⟨rfl, rfl⟩
  go_wp2_with (fail)
  refine NW.out.mono ?_
  rintro e w1 ⟨⟨v, ver, rfl, po⟩, r1⟩
  obtain ⟨g, cap, rfl⟩ := ownsRow_succ (k := 7) po
  have PO1 := Lib.hid po; have R1 := Lib.hid r1
  clear po r1 NW
  go_wp2_with (fail)
  go_ret
  exact ⟨⟨_, rfl, PO1.out⟩, R1.out⟩
set_option maxHeartbeats 400000 in
theorem version_any {w : World} {bt bs br bi c bm bw base size n safe : Nat} {nx : Value} {s : MS} {vals : Nat → Int} (hT : TT w bt bs br bi c) (h : SM w bs bm bw base size n safe nx s) (hV : TVal s.v base size vals) (hR : VR vals)
    (h1 : bt ≠ bm ∧ bt ≠ bw ∧ br ≠ bm ∧ br ≠ bw ∧ bi ≠ bm ∧ bi ≠ bw) :
    Calls Tryd.prog 54 #[.pointer (some ⟨bt, 0, none⟩)] w fun e w' => (∃ ver : Nat, e = .returned (.int .u32 ver)) ∧ RdQ bm bw n safe s w w' := by
  have NO := Lib.hid (tnone_any hT)
  have NW := Lib.hid (now_any hT h hV hR h1)
  clear hT h hV hR
  go_enter Tryd.func54, Tryd.ntmps54
  go_wp2_with (fail)
  refine NO.out.mono ?_
  rintro e _ ⟨rfl, rfl⟩
  go_wp2_with (fail)
  refine NW.out.mono ?_
  rintro e w1 ⟨⟨v, ver, rfl, po⟩, r1⟩
  obtain ⟨g, cap, rfl⟩ := ownsRow_succ (k := 7) po
  have R1 := Lib.hid r1
  clear po r1 NW
  go_wp2_with (fail)
  go_ret
  exact ⟨⟨_, rfl⟩, R1.out⟩
end Go.Proofs.YtdebfniifijjoaaDoor
/-
  What Begin, Data and Commit of one patch leave together, in plain Lean: what was there, or the whole new patch. Conditions: those that each names.
-/
namespace Go.Proofs.YtdebfniifijjoaaDoor
open Go.RowKit Kit Go.Shelf
set_option linter.unusedVariables false
theorem MS.Go.more {s s' : MS} {L : List (Nat × Nat)} (M : List (Nat × Nat)) (h : s.Go L s') (hn : s'.v = putL s.v L → False) : s.Go (L ++ M) s' := by
  obtain ⟨p, h1, h2, h3⟩ := h.p
  have hp : p < L.length := Nat.lt_of_not_le fun hle => hn (by rw [h2, show p = L.length by omega, List.take_length])
  exact ⟨⟨p, by simp; omega, by rw [h2, List.take_append_of_le_length (by omega)], fun _ => h3 hp⟩, h.f1, h.f0, h.u, h.scrub, h.lost⟩
/-- A store's words alone say what it says. -/
theorem view_congr {v v' : Nat → Nat} {base size : Nat} (h : ∀ i, base ≤ i → i < base + 2 * half size → v' i = v i) : actB v' base size = actB v base size ∧ viewB v' base size = viewB v base size ∧ genV v' base size = genV v base size := by
  have c0 := bank_congr (v := v) (v' := v') (a := bkAt base size 0) (size := size) (fun i h2 h3 => h i (by unfold bkAt at h2; omega) (by unfold bkAt at h3; omega))
  have c1 := bank_congr (v := v) (v' := v') (a := bkAt base size 1) (size := size) (fun i h2 h3 => h i (by unfold bkAt at h2; omega) (by unfold bkAt at h3; omega))
  have ha : actB v' base size = actB v base size := by
    unfold actB
    rw [c0.1, c1.1, c0.2.1 0 (by omega), c1.2.1 0 (by omega)]
  refine ⟨ha, ?_, ?_⟩
  · unfold viewB
    rw [ha]
    cases hk : actB v base size with
    | none => rfl
    | some k =>
      have hg := actB_good hk
      rcases (by have := actB_lt hk; omega : k = 0 ∨ k = 1) with rfl | rfl
      · dsimp only; rw [c0.2.1 1 (by omega), c0.2.2 hg]
      · dsimp only; rw [c1.2.1 1 (by omega), c1.2.2 hg]
  · unfold genV
    rw [ha]
    cases hk : actB v base size with
    | none => rfl
    | some k =>
      rcases (by have := actB_lt hk; omega : k = 0 ∨ k = 1) with rfl | rfl
      · exact c0.2.1 0 (by omega)
      · exact c1.2.1 0 (by omega)
theorem notLast_of {v : Nat → Nat} {base size : Nat} (h : genV v base size < 4294967295) : NotLast v base size := fun k hk => by
  unfold genV at h; rw [hk] at h; exact h
theorem genB_eq (v : Nat → Nat) (base size : Nat) : genB v base size (othB v base size) = genV v base size + 1 := by
  unfold genB genV othB
  cases h : actB v base size with
  | none => rfl
  | some k => have := actB_lt h; dsimp only; rw [if_neg (by omega)]
theorem othB_lt (v : Nat → Nat) (base size : Nat) : othB v base size < 2 := by
  unfold othB
  cases ha : actB v base size with
  | none => decide
  | some k => have := actB_lt ha; show 1 - k < 2; omega
/-- The words that a load stores. -/
def ldA (v : Nat → Nat) (base size id : Nat) (S : ByteArray) : List (Nat × Nat) := ldL (bkAt base size (othB v base size)) S (hdW (genV v base size + 1) id S.size (crc S))
theorem bk_in (base size o : Nat) (ho : o < 2) : base ≤ bkAt base size o ∧ bkAt base size o + half size ≤ base + 2 * half size := by
  unfold bkAt
  rcases (by omega : o = 0 ∨ o = 1) with rfl | rfl <;> omega
/-- Behind Begin and Data the store says what it said. -/
theorem ld_mid {s s2 : MS} {base size : Nat} {S : ByteArray} (hS : S.size ≤ size) (h : s.Go ((bkAt base size (othB s.v base size), 0) :: wrL (bkAt base size (othB s.v base size) + 5) S ((S.size + 3) / 4)) s2) :
    actB s2.v base size = actB s.v base size ∧ viewB s2.v base size = viewB s.v base size ∧ genV s2.v base size = genV s.v base size := by
  obtain ⟨p, h1, h2, h3⟩ := h.p
  have hl : p < (ldL (bkAt base size (othB s.v base size)) S (fun _ => 0)).length := by unfold ldL ldM; simp at h1 ⊢; omega
  have e : s2.v = putL s.v ((ldL (bkAt base size (othB s.v base size)) S (fun _ => 0)).take p) := by
    rw [h2]; congr 1
    unfold ldL ldM
    rw [show (bkAt base size (othB s.v base size), 0) :: (wrL (bkAt base size (othB s.v base size) + 5) S ((S.size + 3) / 4) ++ [(bkAt base size (othB s.v base size) + 1, 0), (bkAt base size (othB s.v base size) + 2, 0), (bkAt base size (othB s.v base size) + 3, 0), (bkAt base size (othB s.v base size) + 4, 0)] ++ [(bkAt base size (othB s.v base size), 0)]) = ((bkAt base size (othB s.v base size), 0) :: wrL (bkAt base size (othB s.v base size) + 5) S ((S.size + 3) / 4)) ++ ([(bkAt base size (othB s.v base size) + 1, 0), (bkAt base size (othB s.v base size) + 2, 0), (bkAt base size (othB s.v base size) + 3, 0), (bkAt base size (othB s.v base size) + 4, 0)] ++ [(bkAt base size (othB s.v base size), 0)]) by simp]
    rw [List.take_append_of_le_length h1]
  rcases Nat.eq_zero_or_pos p with rfl | hp
  · have : s2.v = s.v := by rw [h2]; rfl
    rw [this]; exact ⟨rfl, rfl, rfl⟩
  · obtain ⟨g1, g2⟩ := ld_pre (h := fun _ => 0) hS s.v p hp hl
    rw [← e] at g1 g2
    exact spoil g1 g2
theorem ld_data {s s2 : MS} {a : Nat} {S : ByteArray} (h : s2.v = putL s.v ((a, 0) :: wrL (a + 5) S ((S.size + 3) / 4))) : rS (msF s2.v) (a + 5) S.size = S := by
  refine rS_words _ _ _ (fun k hk => ?_)
  rw [h]
  simp only [putL]
  rw [wrL_at, if_pos hk]
theorem ld_ok {s s2 : MS} {a : Nat} {S : ByteArray} (h : s.Go ((a, 0) :: wrL (a + 5) S ((S.size + 3) / 4)) s2) (hf : s.fuse = -1) : crc (rS (msF s2.v) (a + 5) S.size) = crc S := by
  rw [ld_data (h.full hf)]
theorem ld_join {s s2 s3 : MS} {base size id : Nat} {S : ByteArray} (hS : S.size ≤ size) (h : s.Go ((bkAt base size (othB s.v base size), 0) :: wrL (bkAt base size (othB s.v base size) + 5) S ((S.size + 3) / 4)) s2)
    (h3 : (crc (rS (msF s2.v) (bkAt base size (othB s.v base size) + 5) S.size) = crc S ∧ s2.Go (hdG s2.v base size (othB s.v base size) id S.size (crc S)) s3) ∨ (crc (rS (msF s2.v) (bkAt base size (othB s.v base size) + 5) S.size) ≠ crc S ∧ s2.Le s3)) :
    s.Go (ldA s.v base size id S) s3 := by
  have hm := ld_mid hS h
  have hge : genB s2.v base size (othB s.v base size) = genV s.v base size + 1 := by
    rw [show genB s2.v base size (othB s.v base size) = genB s2.v base size (othB s2.v base size) by rw [show othB s2.v base size = othB s.v base size by unfold othB; rw [hm.1]], genB_eq, hm.2.2]
  unfold ldA
  unfold hdG at h3
  rw [hge] at h3
  generalize bkAt base size (othB s.v base size) = a at *
  rcases h3 with ⟨_, h3⟩ | ⟨hne, h3⟩
  · have := h.trans h3
    simpa [ldL, ldM, hdL] using this
  · have := (h.trans h3.go)
    rw [List.append_nil] at this
    have := this.more ([(a + 1, hdW (genV s.v base size + 1) id S.size (crc S) 1), (a + 2, hdW (genV s.v base size + 1) id S.size (crc S) 2), (a + 3, hdW (genV s.v base size + 1) id S.size (crc S) 3), (a + 4, hdW (genV s.v base size + 1) id S.size (crc S) 4)] ++ [(a, hdW (genV s.v base size + 1) id S.size (crc S) 0)]) (fun e => hne (by rw [← h3.v, ld_data e]))
    simpa [ldL, ldM] using this
/-- A load: what was there, or the whole new patch. -/
structure LdV (base size id : Nat) (S : ByteArray) (s s' : MS) : Prop where
  v : (viewB s'.v base size = viewB s.v base size ∧ genV s'.v base size = genV s.v base size) ∨ (viewB s'.v base size = some (id, S) ∧ genV s'.v base size = genV s.v base size + 1)
  n : s.fuse = -1 → viewB s'.v base size = some (id, S)
  o : ∀ i, (i < base ∨ base + 2 * half size ≤ i) → s'.v i = s.v i
  f1 : s.fuse = -1 → s'.fuse = -1
  u : ∀ i, s'.u i = none ∨ s'.u i = s.u i
  scrub : s'.scrub = s.scrub
  lost : s'.lost = s.lost
theorem ld_view {s s' : MS} {base size id : Nat} {S : ByteArray} (hS : S.size ≤ size) (h : s.Go (ldA s.v base size id S) s') : LdV base size id S s s' := by
  obtain ⟨p, h1, h2, h3⟩ := h.p
  have hb := bk_in base size _ (othB_lt s.v base size)
  have ho : ∀ i, (i < bkAt base size (othB s.v base size) ∨ bkAt base size (othB s.v base size) + half size ≤ i) → s'.v i = s.v i := fun i hi => by
    rw [h2]; exact ld_out hS s.v p i hi
  have full : p = (ldA s.v base size id S).length → viewB s'.v base size = some (id, S) ∧ genV s'.v base size = genV s.v base size + 1 := fun e => by
    rw [e, List.take_length] at h2
    obtain ⟨f1, f2⟩ := ld_full (a := bkAt base size (othB s.v base size)) (h := hdW (genV s.v base size + 1) id S.size (crc S)) hS s.v
    refine fill hS ho (fun i hi => ?_) (fun k hk => ?_)
    · rw [h2]; exact f1 i hi
    · rw [h2]; exact f2 k hk
  refine ⟨?_, fun hf => ?_, fun i hi => ho i (by omega), h.f1, h.u, h.scrub, h.lost⟩
  · rcases Nat.lt_or_ge p (ldA s.v base size id S).length with hp | hp
    · left
      rcases Nat.eq_zero_or_pos p with rfl | hp0
      · rw [show s'.v = s.v by rw [h2]; rfl]; exact ⟨rfl, rfl⟩
      · obtain ⟨g1, g2⟩ := ld_pre (h := hdW (genV s.v base size + 1) id S.size (crc S)) hS s.v p hp0 hp
        rw [show putL s.v ((ldL (bkAt base size (othB s.v base size)) S (hdW (genV s.v base size + 1) id S.size (crc S))).take p) = s'.v from h2.symm] at g1 g2
        exact (spoil g1 g2).2
    · exact .inr (full (by omega))
  · refine (full ?_).1
    rcases Nat.lt_or_ge p (ldA s.v base size id S).length with hp | hp
    · have := h3 hp; have := h.f1 hf; omega
    · omega
/-- What a table holds. -/
def TVw (x : Option (Nat × ByteArray)) (vals : Nat → Int) : Prop := match x with | none => ∀ i, i < 8 → vals i = 0 | some (id, d) => id = 4294901768 ∧ d = encS vals
theorem tval_of {v : Nat → Nat} {base size : Nat} {vals : Nat → Int} (h : TVw (viewB v base size) vals) : TVal v base size vals := by
  unfold TVal
  unfold viewB at h
  cases hk : actB v base size with
  | none => rw [hk] at h; exact h
  | some k => rw [hk] at h; exact h
end Go.Proofs.YtdebfniifijjoaaDoor
/-
  The walk of load: Begin, Data and Commit of a patch. Conditions: a store that lies in a memory; its generation is not the last one.
-/
namespace Go.Proofs.YtdebfniifijjoaaDoor
open Go.RowKit Kit Go.Shelf
set_option linter.unusedVariables false
theorem SM.mb {w w' : World} {bs bm bw base size n safe : Nat} {nx nx' : Value} {s s' : MS} (h : SM w bs bm bw base size n safe nx s) (st : ST w' bs bm base size nx') (m : ME w' bm bw n safe s') (k : MB bm bw bs w w') : SM w' bs bm bw base size n safe nx' s' := by
  refine ⟨st, m, fun j hj => ?_, h.ne, h.h1, h.h2, h.hb, h.hn⟩
  have h1 := h.tab j hj
  have hlt := World.block_lt_of_cell? w _ h1
  have hz := tab_ne h.tab h.st
  have := h.me.pos
  rw [k.cell hlt (fun e => by simp only at e; omega)]
  exact h1
structure BG (w0 : World) (bs bm bw base size n safe : Nat) (s : MS) (id : Nat) (S : ByteArray) (o g : Nat) (L : List (Nat × Nat)) (w : World) : Prop where
  x : ∃ s', SM w bs bm bw base size n safe (.pointer (some ⟨g, 0, none⟩)) s' ∧ s.Go L s'
  sg : SG w g id (crc S) S.size o
  mb : MB bm bw bs w0 w
theorem sg_apart {w : World} {bs bm bw base size n safe g id sum len o : Nat} {nx : Value} {s : MS} (h : SM w bs bm bw base size n safe nx s) (hg : SG w g id sum len o) : g ≠ bm ∧ g ≠ bw ∧ g ≠ bs := by
  obtain ⟨fx, st, ho⟩ := h.me.obj
  exact ⟨sg_ne hg ho (by decide), sg_ne hg h.me.words (by decide), sg_ne hg h.st (by decide)⟩
theorem beg' {w : World} {bs bm bw base size n safe : Nat} {nx : Value} {s : MS} (h : SM w bs bm bw base size n safe nx s) (hG : genV s.v base size < 4294967295) (id : Nat) (S : ByteArray) (hl : S.size ≤ size) :
    Calls Tryd.prog 47 #[.pointer (some ⟨bs, 0, none⟩), .int .u32 id, .int .i64 S.size, .int .u32 (crc S)] w fun e w' => e = .returned (.int .i64 0) ∧ ∃ g, BG w bs bm bw base size n safe s id S (othB s.v base size) g [(bkAt base size (othB s.v base size), 0)] w' :=
  (begin_any h (notLast_of hG) id S.size (crc S) hl).mono fun e w' ⟨he, ⟨g, hg, sg, st⟩, ⟨s', go, m⟩, k⟩ => ⟨he, g, ⟨s', h.mb st m k, go⟩, sg, k⟩
theorem dat' {w0 w : World} {bs bm bw base size n safe id g : Nat} {s : MS} {S : ByteArray} (h : BG w0 bs bm bw base size n safe s id S (othB s.v base size) g [(bkAt base size (othB s.v base size), 0)] w) (hl : S.size ≤ size) :
    Calls Tryd.prog 35 #[.pointer (some ⟨bs, 0, none⟩), .int .i64 0, .string S] w fun e w' => e = .returned (.int .i64 0) ∧ BG w0 bs bm bw base size n safe s id S (othB s.v base size) g ((bkAt base size (othB s.v base size), 0) :: wrL (bkAt base size (othB s.v base size) + 5) S ((S.size + 3) / 4)) w' := by
  obtain ⟨⟨s', sm, go⟩, sg, mb⟩ := h
  have ho := othB_lt s.v base size
  have hb := bk_in base size _ ho
  have hh : half size = 5 + (size + 3) / 4 := rfl
  have hn := sm.hn
  have hap := sg_apart sm sg
  have hbb : base + othB s.v base size * half size = bkAt base size (othB s.v base size) := rfl
  refine (data_all sm.st sg sm.me sm.tab sm.h1 sm.h2 sm.hb ho (by rw [hbb]; omega) (by rw [hbb]; omega)).mono fun e w' ⟨he, m, k⟩ => ?_
  rw [hbb] at m
  exact ⟨he, ⟨_, sm.go m k, go.trans (go_wr _ _ _ _)⟩, k.keeps sg (by omega), mb.trans k.mb⟩
def LdQ (bs bm bw base size n safe : Nat) (s : MS) (id : Nat) (S : ByteArray) (w : World) (e : Ending) (w' : World) : Prop :=
  ∃ er : Nat, e = .returned (.int .i64 er) ∧ (s.fuse = -1 → er = 0) ∧ ∃ s' nx, SM w' bs bm bw base size n safe nx s' ∧ (er = 0 ∨ ∃ g : Nat, nx = .pointer (some ⟨g, 0, none⟩)) ∧ s.Go (ldA s.v base size id S) s' ∧ MB bm bw bs w w'
theorem com' {w0 w : World} {bs bm bw base size n safe id g : Nat} {s : MS} {S : ByteArray} (h : BG w0 bs bm bw base size n safe s id S (othB s.v base size) g ((bkAt base size (othB s.v base size), 0) :: wrL (bkAt base size (othB s.v base size) + 5) S ((S.size + 3) / 4)) w)
    (hG : genV s.v base size < 4294967295) (hl : S.size ≤ size) (hid : id < 4294967296) :
    Calls Tryd.prog 49 #[.pointer (some ⟨bs, 0, none⟩)] w fun e w' => LdQ bs bm bw base size n safe s id S w0 e w' := by
  obtain ⟨⟨s', sm, go⟩, sg, mb⟩ := h
  have hm := ld_mid hl go
  refine (commit_any sm sg (notLast_of (by rw [hm.2.2]; exact hG)) hl (othB_lt _ _ _) hid (crc_lt _)).mono fun e w' hq => ?_
  unfold ComQ at hq
  split at hq
  · rename_i hc
    obtain ⟨rfl, st, ⟨s3, g3, m3⟩, k3⟩ := hq
    exact ⟨0, rfl, fun _ => rfl, s3, _, sm.mb st m3 k3, .inl rfl, ld_join hl go (.inl ⟨hc, g3⟩), mb.trans k3⟩
  · rename_i hc
    obtain ⟨rfl, ⟨s3, l3, m3⟩, k3⟩ := hq
    exact ⟨310, rfl, fun hf => absurd (ld_ok go hf) hc, s3, _, sm.go m3 k3, .inr ⟨g, rfl⟩, ld_join hl go (.inr ⟨hc, l3⟩), mb.trans k3.mb⟩
set_option maxRecDepth 100000 in
set_option maxHeartbeats 1600000 in
theorem load_any {w : World} {bs bm bw base size n safe W : Nat} {nx : Value} {s : MS} (h : SM w bs bm bw base size n safe nx s) (hG : genV s.v base size < 4294967295) (id : Nat) (S : ByteArray) (hl : S.size ≤ size) (hid : id < 4294967296)
    (c1 : w.cell? ⟨W, 1, none⟩ = some (.pointer (some ⟨bs, 0, none⟩))) (hW : W ≠ bm ∧ W ≠ bw ∧ W ≠ bs) :
    Calls Tryd.prog 29 #[.pointer (some ⟨W, 0, none⟩), .int .u32 id, .string S] w fun e w' => LdQ bs bm bw base size n safe s id S w e w' := by
  have hWl : W < w.heap.size := World.block_lt_of_cell? w _ c1
  have hsz := h.h2
  have BG1 := Lib.hid (fun (xq : Ext) => beg' (w := ext w xq) (h.go (h.me.below (below_ext w xq)) (MK.below (below_ext w xq))) hG id S hl)
  have DA := Lib.hid (fun (w0 w : World) (g : Nat) (h : BG w0 bs bm bw base size n safe s id S (othB s.v base size) g [(bkAt base size (othB s.v base size), 0)] w) => dat' h hl)
  have CO := Lib.hid (fun (w0 w : World) (g : Nat) (h : BG w0 bs bm bw base size n safe s id S (othB s.v base size) g ((bkAt base size (othB s.v base size), 0) :: wrL (bkAt base size (othB s.v base size) + 5) S ((S.size + 3) / 4)) w) => com' h hG hl hid)
  have QQ : Hid (∀ (xq : Ext) (e : Ending) (w' : World), LdQ bs bm bw base size n safe s id S (ext w xq) e w' → LdQ bs bm bw base size n safe s id S w e w') := Lib.hid (fun xq e w' ⟨er, a1, a2, s', nx, a3, a4, a5, a6⟩ => ⟨er, a1, a2, s', nx, a3, a4, a5, (MK.below (below_ext w xq)).mb.trans a6⟩)
  have C1 : Hid (∀ (xq : Ext) (w' : World), MB bm bw bs (ext w xq) w' → w'.cell? ⟨W, 1, none⟩ = some (.pointer (some ⟨bs, 0, none⟩)) ∧ W < w'.heap.size) := Lib.hid (fun xq w' m => by
    have m' := (MK.below (bm := bm) (bw := bw) (below_ext w xq)).mb (bs := bs) |>.trans m
    exact ⟨by rw [m'.cell hWl (by omega)]; exact c1, Nat.lt_of_lt_of_le hWl m'.size⟩)
  have CR := Lib.hid (fun w => crc_any S (by omega) w)
  clear h hG hl hid
  go_enter Tryd.func29, Tryd.ntmps29
  go_wp2_with (fail)
  refine region_calm_tail 9 (by kernel_rfl) (by kernel_rfl) ?_
  simp only [List.take_succ_cons, List.take_zero, List.drop_succ_cons, List.drop_zero]
  repeat (go_big_quiet_step ((go_at_call 48; exact calm_of (CR.out _))))
  refine wpQuiet_nil ?_; intro _ hw'; obtain ⟨xq, hw''⟩ := hw'; subst hw''
  go_wp2_with (fail)
  refine (BG1.out xq).mono ?_
  rintro e w1 ⟨rfl, g, b1⟩
  obtain ⟨x1, hw1⟩ := C1.out _ _ b1.mb
  have B1 := Lib.hid b1
  clear b1
  go_wp2_with (fail)
  refine (DA.out _ _ _ B1.out).mono ?_
  rintro e w2 ⟨rfl, b2⟩
  obtain ⟨x2, hw2⟩ := C1.out _ _ b2.mb
  have B2 := Lib.hid b2
  clear b2
  go_wp2_with (fail)
  refine (CO.out _ _ _ B2.out).mono ?_
  rintro e w3 hq
  obtain ⟨er, rfl, rest⟩ := hq
  have HQ : Hid (LdQ bs bm bw base size n safe s id S w (.returned (.int .i64 er)) w3) := Lib.hid (QQ.out xq _ _ ⟨er, rfl, rest⟩)
  clear rest
  go_wp2_with (fail)
  go_ret
  exact HQ.out
end Go.Proofs.YtdebfniifijjoaaDoor
