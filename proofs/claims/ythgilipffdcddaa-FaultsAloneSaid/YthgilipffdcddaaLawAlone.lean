/-
  The walk of the law FaultsAlone. Conditions: none.
-/
import Derived.Test.YthgilipffdcddaaMany
namespace Go.Proofs.Ythgilipffdcddaa
open Go.RowKit Kit
set_option linter.unusedVariables false
theorem info25 : (Try.prog.info? 25).map (fun i => (i.zero, i.size, i.bytes)) = some (some (.pointer none), 1, 8) := by kernel_rfl
def ptrs (gs : List Ob) : List Value := gs.map fun x => .pointer (some ⟨x.1, 0, none⟩)
/-- The objects of the law behind k rounds of its first loop. -/
def A1 (w : World) (hd : Ob) (L : List E) (k : Nat) (one : Value) (wr : World) : Prop :=
  ∃ gs, gs.length = k ∧ AL w wr hd gs L L ∧ wr.ownsRow w.heap.size 25 1 one k (ptrs gs)
theorem A1.push {w wr w2 w6 : World} {hd : Ob} {L : List E} {k : Nat} {one one' v : Value} {e : E} {gs : List Ob} {o : Obj} (hk : gs.length = k) (h : AL w wr hd gs L L) (ho : w2.ownsRow w.heap.size 25 1 one k (ptrs gs)) (hb : Below wr.heap.size wr w2) (hF : FO w2 wr.heap.size wr.heap.size v [e]) (he : L[k]? = some e)
    (hg : (w2.alloc o).grownBy w6 one.ownBlock) (ho' : w6.ownsRow w.heap.size 25 1 one' (k + 1) (ptrs gs ++ [.pointer (some ⟨wr.heap.size, 0, none⟩)])) : A1 w hd L (k + 1) one' w6 := by
  subst hk
  refine ⟨gs ++ [(wr.heap.size, v)], by simp, ?_, by simpa [ptrs] using ho'⟩
  exact ((h.push hb hF he).calm (bl_alloc (Below.refl _ _) o)).grow (ho.alloc o) (Nat.le_refl _) (by decide) (by decide) hg
/-- What one tick of the law keeps: behind i of the objects. -/
structure A2 (w : World) (hd : Ob) (gs : List Ob) (L : List E) (P : List Int) (H : Nat) (one out : Value) (i : Nat) (want : Value) (wr : World) : Prop where
  al : AL w wr hd gs (tk L P L.length) (tk L P i)
  one : wr.ownsRow w.heap.size 25 1 one L.length (ptrs gs)
  out : ∃ B, wr.ownsRow B 38 3 out (rsK L P L.length).length ((rsK L P L.length).flatMap rc) ∧ ∀ k, out.ownBlock = some k → k < H
  want : wr.ownsRow H 38 3 want (rsK L P i).length ((rsK L P i).flatMap rc)
  base : w.heap.size ≤ H
  lim : H ≤ wr.heap.size
theorem A2.calm {w wr w' : World} {hd : Ob} {gs : List Ob} {L : List E} {P : List Int} {H i : Nat} {one out want : Value} (h : A2 w hd gs L P H one out i want wr) (hb : Below wr.heap.size wr w') : A2 w hd gs L P H one out i want w' := by
  obtain ⟨B, h1, h2⟩ := h.out
  exact ⟨h.al.calm hb, own_calm h.one hb, ⟨B, own_calm h1 hb, h2⟩, own_calm h.want hb, h.base, Nat.le_trans h.lim hb.size⟩
/-- Object i ticks. -/
theorem A2.tick {w wr w' : World} {hd x : Ob} {gs : List Ob} {L : List E} {P : List Int} {H i : Nat} {one out want : Value} {e : E} (h : A2 w hd gs L P H one out i want wr) (hL : gs.length = L.length) (hx : gs[i]? = some x) (he : L[i]? = some e)
    (hm : Mod (fun j => x.2.ownBlock = some j) wr w') (hF : FO w' x.1 x.1 x.2 [tickE e P]) :
    AL w w' hd gs (tk L P L.length) (tk L P (i + 1)) ∧ w'.ownsRow w.heap.size 25 1 one L.length (ptrs gs) ∧ (∃ B, w'.ownsRow B 38 3 out (rsK L P L.length).length ((rsK L P L.length).flatMap rc) ∧ ∀ k, out.ownBlock = some k → k < H) ∧ w'.ownsRow H 38 3 want (rsK L P i).length ((rsK L P i).flatMap rc) := by
  obtain ⟨e0, _, hF0⟩ := h.al.rest i x hx
  have key : ∀ {B e size n : Nat} {v : Value} {xs : List Value}, wr.ownsRow B e size v n xs → e ≠ 72 → w'.ownsRow B e size v n xs := fun ho hne => own_mod ho hm (fun k hk hs => by
    rcases own_apart hF0.row ho (Ne.symm hne) with h | h
    · rw [h] at hs; cases hs
    · exact h (hs.trans hk.symm))
  obtain ⟨B, h1, h2⟩ := h.out
  have hi : i < L.length := by
    rcases Nat.lt_or_ge i L.length with h | h
    · exact h
    · rw [List.getElem?_eq_none h] at he; cases he
  refine ⟨h.al.tickOne hx hm hF ?_ ?_, key h.one (by decide), ⟨B, key h1 (by decide), h2⟩, key h.want (by decide)⟩
  · rw [← tk_succ L P i e he]; simp [tk_len, hi]
  · intro j hj
    rw [← tk_succ L P i e he, List.getElem?_set_ne (Ne.symm hj)]
theorem A2.same {w w' : World} {hd : Ob} {gs : List Ob} {L : List E} {P : List Int} {H i : Nat} {one out want : Value} {e : E} (he : L[i]? = some e) (ht : trips e P = false) (hb : w.heap.size ≤ H) (hH : H ≤ w'.heap.size)
    (h : AL w w' hd gs (tk L P L.length) (tk L P (i + 1)) ∧ w'.ownsRow w.heap.size 25 1 one L.length (ptrs gs) ∧ (∃ B, w'.ownsRow B 38 3 out (rsK L P L.length).length ((rsK L P L.length).flatMap rc) ∧ ∀ k, out.ownBlock = some k → k < H) ∧ w'.ownsRow H 38 3 want (rsK L P i).length ((rsK L P i).flatMap rc)) :
    A2 w hd gs L P H one out (i + 1) want w' := ⟨h.1, h.2.1, h.2.2.1, by rw [rsK_succ L P i e he, ht]; simpa using h.2.2.2, hb, hH⟩
/-- What object i says is taken over: its number set, then appended. -/
theorem A2.more {w w3 w6 : World} {hd : Ob} {gs : List Ob} {L : List E} {P : List Int} {H i g cap B' : Nat} {one out want want' : Value} {e : E} {u : Value} {o : Obj} (he : L[i]? = some e) (ht : trips e P = true) (hb : w.heap.size ≤ H)
    (h : AL w w3 hd gs (tk L P L.length) (tk L P (i + 1)) ∧ w3.ownsRow w.heap.size 25 1 one L.length (ptrs gs) ∧ (∃ B, w3.ownsRow B 38 3 out (rsK L P L.length).length ((rsK L P L.length).flatMap rc) ∧ ∀ k, out.ownBlock = some k → k < H) ∧ w3.ownsRow H 38 3 want (rsK L P i).length ((rsK L P i).flatMap rc))
    (hov : ∃ xs, w3.ownsRow B' 38 3 (.slice (some ⟨g, 0, none⟩) 1 cap) 1 xs) (hgH : H ≤ B') (hgw : ∀ k, want.ownBlock = some k → k < B')
    (hgr : ((w3.setCell ⟨g, 0, none⟩ u).alloc o).grownBy w6 want.ownBlock) (ho' : w6.ownsRow H 38 3 want' ((rsK L P i).length + 1) ((rsK L P i).flatMap rc ++ [.int .i64 i, .int .i64 e.tier, .int .i64 e.seq])) : A2 w hd gs L P H one out (i + 1) want' w6 := by
  obtain ⟨xs, hov⟩ := hov
  have hgB := (own_lt hov).1
  obtain ⟨ha, h1, ⟨B, h2, h3⟩, h4⟩ := h
  have m1 : Mod (fun j => j = g) w3 (w3.setCell ⟨g, 0, none⟩ u) := mod_at (Mod.refl _ _) _
  have keep : ∀ {B e size n : Nat} {v : Value} {xs : List Value}, w3.ownsRow B e size v n xs → (∀ k, v.ownBlock = some k → k < B') → (w3.setCell ⟨g, 0, none⟩ u).ownsRow B e size v n xs := fun ho hl => own_mod ho m1 (fun k hk e => by have := hl k hk; omega)
  have k1 : (w3.setCell ⟨g, 0, none⟩ u).ownsRow w.heap.size 25 1 one L.length (ptrs gs) := own_mod h1 m1 (fun k hk e => by
    rcases own_apart h1 hov (by decide) with h | h
    · rw [h] at hk; cases hk
    · exact h (by rw [hk, e]; rfl))
  have k2 := keep h2 (fun k hk => Nat.lt_of_lt_of_le (h3 k hk) hgH)
  have k4 := keep h4 hgw
  have ha1 : AL w (w3.setCell ⟨g, 0, none⟩ u) hd gs (tk L P L.length) (tk L P (i + 1)) := by
    have key : ∀ {f : Nat} {v' : Value} {L : List E}, FO w3 f f v' L → ¬ f = g ∧ ∀ k, v'.ownBlock = some k → ¬ k = g := fun F =>
      ⟨fun e => own_ne_obj hov F.obj (by decide) (by rw [e]; rfl), fun k hk e => by
        rcases own_apart F.row hov (by decide) with h | h
        · rw [h] at hk; cases hk
        · exact h (by rw [hk, e]; rfl)⟩
    exact ha.mod m1 (bl_set ha.below (by omega) _) (key ha.head) (fun j x hx => by obtain ⟨e, _, hF⟩ := ha.rest j x hx; exact key hF)
  have mg := mod_of_grown hgr
  refine ⟨(ha1.calm (bl_alloc (Below.refl _ _) o)).grow (k4.alloc o) hb (by decide) (by decide) hgr, own_mod (k1.alloc o) mg (fun k hk hs => ?_), ⟨B, own_mod (k2.alloc o) mg (fun k hk hs => ?_), h3⟩, ?_, hb, ?_⟩
  · rcases own_apart h1 h4 (by decide) with h | h
    · rw [h] at hk; cases hk
    · exact h (by rw [hk, hs])
  · have := (h4.lt k hs).1; have := h3 k hk; omega
  · rw [rsK_succ L P i e he, ht]
    simpa [rc, List.flatMap_append] using ho'
  · have := hgr.size; have := (own_lt hov).2; simp at this ⊢; simp [World.size_setCell] at *; omega
theorem same_refl {w : World} {b1 b2 : Nat} {v1 v2 : Value} {l : List R3} (hm : l.length ≤ 1000) (h1 : w.ownsRow b1 38 3 v1 l.length (l.flatMap rc)) (h2 : w.ownsRow b2 38 3 v2 l.length (l.flatMap rc)) :
    Calls Try.prog 13 #[v1, v2] w fun e w' => SameR w true e w' := by
  have := same_any hm h1 h2
  rwa [show decide (l = l) = true by simp] at this
theorem tk_one (e : E) (P : List Int) : tk [e] P 1 = [tickE e P] := rfl
theorem rs_one (e : E) (P : List Int) : rsK [e] P 1 = if trips e P then [(0, e.tier, e.seq)] else [] := by
  unfold rsK; simp [List.range_succ, List.filterMap_cons]; split <;> simp_all
set_option maxRecDepth 100000 in
set_option maxHeartbeats 6400000 in
theorem alone_bad {L : List E} {v0 : Value} (ta : Option Addr) (tn tc : Nat) (w : World) (hM : MS w v0 L) (hL : L.length ≤ maxLen) (hT : tn ≤ maxLen) (hv : ¬ ((∀ e ∈ L, vE e = true) ∧ L.length ≤ 32) ∨ 60 < tn) :
    Calls Try.prog 4 #[v0, .slice ta tn tc] w fun e w' => e = .returned (.bool true) ∧ Below w.heap.size w w' := by
  obtain ⟨la, lc, rfl⟩ := hM.slice
  unfold maxLen at hT
  have HM := Lib.hid hM; have HL := Lib.hid hL; have HV := Lib.hid hv
  clear hM hL hv
  go_enter Try.func4, Try.ntmps4
  go_wp2_with (fail)
  refine (shown_any _).mono ?_
  rintro e w1 ⟨rfl, hb1⟩
  have B1 := Lib.hid hb1
  have M1 := Lib.hid (HM.out.below hb1)
  clear hb1
  go_wp2_with (fail)
  rcases HV.out with hv | hv
  · refine (new_bad M1.out HL.out hv).mono ?_
    rintro e w2 ⟨rfl, hb2⟩
    have B2 := Lib.hid (bl_step B1.out hb2)
    clear hb2 hv
    go_wp2_with (fail)
    go_ret
    exact ⟨rfl, B2.out⟩
  · have hd : (60 : Int) < (tn : Int) := by omega
    clear hv
    refine (new_any M1.out HL.out).mono ?_
    rintro e w2 (⟨_, v, rfl, _, hb2⟩ | ⟨_, rfl, hb2⟩)
    · have B2 := Lib.hid (bl_step B1.out hb2)
      clear hb2
      go_wp2_with (fail)
      go_ret
      exact ⟨rfl, B2.out⟩
    · have B2 := Lib.hid (bl_step B1.out hb2)
      clear hb2
      go_wp2_with (fail)
      go_ret
      exact ⟨rfl, B2.out⟩
set_option maxRecDepth 100000 in
set_option maxHeartbeats 12800000 in
theorem alone_good {L : List E} (la : Option Addr) (lc : Nat) (T : List (List Int)) (ta : Option Addr) (tn tc : Nat) (w : World) (hM : MS w (.slice la L.length lc) L) (hcap : L.length ≤ lc) (hlc : lc ≤ maxLen) (hTS : TS w (.slice ta tn tc) T) (hT : tn = T.length) (hT60 : tn ≤ 60) (hv : ∀ e ∈ L, vE e = true) (h32 : L.length ≤ 32) :
    Calls Try.prog 4 #[.slice la L.length lc, .slice ta tn tc] w fun e w' => e = .returned (.bool true) ∧ Below w.heap.size w w' := by
  obtain ⟨i0, hi, hz0, hz1, hz2⟩ := info_parts info25
  obtain ⟨j0, ji, jz0, jz1, jz2⟩ := info_parts info38
  unfold maxLen at hlc
  obtain ⟨n, hn⟩ : ∃ n, n = L.length := ⟨_, rfl⟩
  rw [← hn] at hM h32 hcap ⊢
  have HN := Lib.hid hn
  have HM := Lib.hid hM; have HV := Lib.hid hv; have HTS := Lib.hid hTS; have HT := Lib.hid hT
  clear hM hv hTS hT hn
  go_enter Try.func4, Try.ntmps4
  go_wp2_with (fail)
  refine (shown_any _).mono ?_
  rintro e w1 ⟨rfl, hb1⟩
  have B1 := Lib.hid hb1
  have M1 := Lib.hid (HM.out.below hb1)
  clear hb1
  go_wp2_with (fail)
  refine (new_good M1.out (by rw [← HN.out]; exact h32) HV.out).mono ?_
  rintro e w2 ⟨vA, rfl, F2, hb2⟩
  obtain ⟨fA, hfA⟩ : ∃ fA, fA = w1.heap.size := ⟨_, rfl⟩
  rw [← hfA] at F2 ⊢
  have hwf : w.heap.size ≤ fA := by rw [hfA]; exact B1.out.size
  have R0 : Hid (A1 w (fA, vA) L 0 (.slice none 0 0) w2) := Lib.hid ⟨[], rfl, ⟨F2, by simp, by simp, bl_step B1.out hb2, hwf⟩, World.ownsRow_nil _ _ _ _⟩
  clear F2 hb2 B1 M1 hfA
  go_wp2_with (fail)
  go_loopw [7, 8] (fun one i wr => ∃ k : Nat, k ≤ n ∧ i = .int .i64 k ∧ A1 w (fA, vA) L k one wr) (fun _ i _ => n - (intOf i).toNat)
  case atStart => exact ⟨0, by omega, rfl, R0.out⟩
  case round =>
    clear R0
    obtain ⟨k, hk, rfl, gs, hgs, hAL, ho⟩ := hrel
    have hbl := hAL.below.size
    have HAL := Lib.hid hAL; have HO := Lib.hid ho; have HG := Lib.hid hgs
    clear hAL ho hgs
    by_cases hlt : k < n
    · obtain ⟨e, he⟩ : ∃ e, L[k]? = some e := ⟨_, List.getElem?_eq_getElem (by have := HN.out; omega)⟩
      obtain ⟨b, off, rfl⟩ : ∃ b off, la = some ⟨b, off, none⟩ := by
        rcases HM.out.2 with ⟨b, off, c, he', _⟩ | ⟨rfl, _⟩
        · simp only [Value.slice.injEq] at he'; exact ⟨b, off, he'.1⟩
        · simp at he
      have HE := Lib.hid he; clear he
      have ms := (HM.out.below HAL.out.below)
      rw [HN.out] at ms
      have ms1 := ms.one k e HE.out (lc - k)
      have MS1 := Lib.hid ms1; clear ms ms1
      have hkc : (k : Int) ≤ (lc : Int) := by omega
      have hkc1 : (k : Int) + 1 ≤ (lc : Int) := by omega
      go_wp2_with (fail)
      refine (new_good MS1.out (by simp) (by simpa using HV.out e (List.mem_of_getElem? HE.out))).mono ?_
      rintro e' w3 ⟨v, rfl, F3, hb3⟩
      have hs3 := hb3.size
      have H3 := Lib.hid (own_calm HO.out hb3)
      replace F3 := Lib.hid F3
      replace hb3 := Lib.hid hb3
      clear MS1
      go_wp2_with (at_builtin; refine wpList_append_own _ rfl _ _ 41 rfl w.heap.size 25 i0 _ 1 8 Try.underlying41 hi hz0 hz1 hz2 rfl (by decide) _ _ _ rfl (H3.out.alloc _) ⟨w3.heap.size, 0, none⟩ 1 1 [_] rfl rfl (cells_new w3 [_] 25) (by simp [Value.oneCell']) (by unfold maxLen; omega) (by omega) (by simp; omega) ?_; intro v' w6 hown' hgrow _)
      refine ⟨⟨k + 1, by omega, by go_num, A1.push HG.out HAL.out H3.out hb3.out F3.out HE.out hgrow hown'⟩, by simp [intOf]; omega⟩
    · have he : k = n := by omega
      subst he
      obtain ⟨oa, oc, rfl⟩ := slice_of HO.out
      obtain ⟨OV, hOV⟩ : ∃ OV, OV = Value.slice oa k oc := ⟨_, rfl⟩
      have HOV := Lib.hid hOV
      go_wp2_with (fail)
      go_loopw [11] (fun i wr => ∃ (m : Nat) (La : List E), m ≤ tn ∧ i = .int .i64 m ∧ La.length = k ∧ AL w wr (fA, vA) gs La La ∧ wr.ownsRow w.heap.size 25 1 (.slice oa k oc) k (ptrs gs)) (fun i _ => tn - (intOf i).toNat)
      case atStart => exact ⟨0, L, by omega, rfl, HN.out.symm, HAL.out, HO.out⟩
      case round =>
        clear HAL HO hbl
        obtain ⟨m, La, hm, rfl, hla, hAL, ho⟩ := hrel
        have hbl := hAL.below.size
        have HAL := Lib.hid hAL; have HO := Lib.hid ho; have HLA := Lib.hid hla
        clear hAL ho hla
        by_cases hlt2 : m < tn
        · obtain ⟨P, hP⟩ : ∃ P, T[m]? = some P := ⟨_, List.getElem?_eq_getElem (by have := HT.out; omega)⟩
          obtain ⟨tb, toff, pv, rfl, hpc, hps, hpb⟩ : ∃ tb toff pv, ta = some ⟨tb, toff, none⟩ ∧ w.cell? ⟨tb, toff + m, none⟩ = some pv ∧ PS w pv P ∧ (∀ k, pv.ownBlock = some k → k < w.heap.size ∨ P = []) := by
            rcases HTS.out with ⟨b, off, c, he', hc⟩ | ⟨rfl, _⟩
            · simp only [Value.slice.injEq] at he'
              obtain ⟨pv, h1, h2, h3⟩ := hc m P hP
              exact ⟨b, off, pv, he'.1, h1, h2, h3⟩
            · simp at hP
          obtain ⟨pa, pc, rfl⟩ := hps.slice
          obtain ⟨pn, hpn⟩ : ∃ pn, pn = P.length := ⟨_, rfl⟩
          rw [← hpn] at hpc hps hpb
          have htl := World.block_lt_of_cell? w _ hpc
          have HPC := Lib.hid hpc; have HPS := Lib.hid hps; have HPB := Lib.hid hpb
          clear hpc hps hpb hP hpn
          have q0 : wr.cell? ⟨tb, toff + m, none⟩ = some (.slice pa pn pc) := by rw [HAL.out.below.cell htl]; exact HPC.out
          go_wp2_with (fail)
          refine (mtick_all HAL.out.head (HPS.out.below HAL.out.below) (far_args HAL.out.head HAL.out.base HPB.out)).mono ?_
          rintro e w3 ⟨out, rfl, F3, ho3, hm3⟩
          obtain ⟨xa, xc, rfl⟩ := slice_of ho3
          have A3 : Hid (A2 w (fA, vA) gs La P w3.heap.size (.slice oa k oc) (.slice xa (rsK La P La.length).length xc) 0 (.slice none 0 0) w3) := by
            have one3 : w3.ownsRow w.heap.size 25 1 (.slice oa k oc) k (ptrs gs) := own_mod HO.out hm3 (fun j hj hs => by
              rcases own_apart HAL.out.head.row HO.out (by decide) with h | h
              · rw [h] at hs; cases hs
              · exact h (hs.trans hj.symm))
            exact Lib.hid ⟨by have := HAL.out.tickHead hm3 F3; simpa [tk] using this, by rw [HLA.out]; exact one3, ⟨_, ho3, fun j hj => (ho3.lt j hj).2⟩, World.ownsRow_nil _ _ _ _, by have := hm3.size; omega, Nat.le_refl _⟩
          obtain ⟨H, hH⟩ : ∃ H, H = w3.heap.size := ⟨_, rfl⟩
          rw [← hH] at A3
          clear F3 ho3 hm3 hH q0
          obtain ⟨rn, hrn⟩ : ∃ rn, rn = (rsK La P La.length).length := ⟨_, rfl⟩
          rw [← hrn] at A3 ⊢
          have HRN := Lib.hid hrn; clear hrn
          go_wp2_with (fail)
          go_loopw [14, 15] (fun want i wr => ∃ i' : Nat, i' ≤ k ∧ i = .int .i64 i' ∧ A2 w (fA, vA) gs La P H (.slice oa k oc) (.slice xa rn xc) i' want wr) (fun _ i _ => k - (intOf i).toNat)
          case atStart => exact ⟨0, by omega, rfl, A3.out⟩
          case round =>
            clear A3 HAL HO hbl
            obtain ⟨i, hi', rfl, hA⟩ := hrel
            have HA := Lib.hid hA; clear hA
            have hbl := HA.out.al.below.size
            by_cases hlt3 : i < k
            · obtain ⟨x, hx⟩ : ∃ x, gs[i]? = some x := ⟨_, List.getElem?_eq_getElem (by have := HG.out; omega)⟩
              obtain ⟨e, he⟩ : ∃ e, La[i]? = some e := ⟨_, List.getElem?_eq_getElem (by have := HLA.out; omega)⟩
              obtain ⟨og, rfl⟩ : ∃ og, oa = some ⟨og, 0, none⟩ := by
                rcases HA.out.one.2 with ⟨_, h0⟩ | ⟨g, cap, cur, h, _⟩
                · have := HLA.out; omega
                · simp only [Value.slice.injEq] at h; exact ⟨g, h.1⟩
              have q1 : wr.cell? ⟨og, i, none⟩ = some (.pointer (some ⟨x.1, 0, none⟩)) := by
                have h1 := HA.out.one
                rw [HLA.out] at h1
                exact own_cell h1 (by unfold ptrs; rw [List.getElem?_map, hx]; rfl)
              have q0 : wr.cell? ⟨tb, toff + m, none⟩ = some (.slice pa pn pc) := by rw [HA.out.al.below.cell htl]; exact HPC.out
              have hF : FO wr x.1 x.1 x.2 [e] := by
                obtain ⟨e', he', hF⟩ := HA.out.al.rest i x hx
                rw [tk_get La P i (by have := HLA.out; omega), he] at he'
                obtain rfl := Option.some.inj he'
                exact hF
              have hxb : w.heap.size ≤ x.1 := by have := (HA.out.al.first hx).1; have := HA.out.al.base; omega
              obtain ⟨f, v⟩ := x
              simp only at q1 hF hxb
              have og1 : w.heap.size ≤ og ∧ og < wr.heap.size := by
                have h1 := HA.out.one
                rw [HLA.out] at h1
                exact own_lt h1
              have ne1 : v.ownBlock ≠ some og := fun h => by
                rcases own_apart HA.out.one hF.row (by decide) with h' | h'
                · cases h'
                · exact h' h.symm
              have ne0 : v.ownBlock ≠ some tb := fun h => by have := (hF.blk _ h).1; omega
              have htl2 : tb < wr.heap.size := by omega
              have NE1 := Lib.hid ne1; have NE0 := Lib.hid ne0
              have HX := Lib.hid hx; have HE := Lib.hid he; have HF := Lib.hid hF
              have dr := Lib.hid (show Below wr.heap.size wr wr.drew from Below.drew (Below.refl _ _))
              have g1 : (0 : Int) ≤ (i : Int) := by omega
              have g2 : (i : Int) < (k : Int) := by omega
              have g3 : (0 : Int) ≤ (m : Int) := by omega
              have g4 : (m : Int) < (tn : Int) := by omega
              clear hx he hF ne1 ne0
              go_wp2_with (fail)
              go_region_held3 (fun w' => w'.cell? ⟨og, i, none⟩ = some (.pointer (some ⟨f, 0, none⟩)) ∧ w'.cell? ⟨tb, toff + m, none⟩ = some (.slice pa pn pc)) (go_keep)
                ((go_at_call 11; refine (mtick_all (HF.out.below dr.out) (HPS.out.below (bl_step HA.out.al.below dr.out)) (far_args (HF.out.below dr.out) hxb HPB.out)).mono ?_; rintro en w4 ⟨ov, rfl, F4, ho4, hm4⟩; have r1 : w4.cell? ⟨og, i, none⟩ = some (.pointer (some ⟨f, 0, none⟩)) := (hm4.cell (b := og) (o := i) og1.2 NE1.out).trans q1; have r0 : w4.cell? ⟨tb, toff + m, none⟩ = some (.slice pa pn pc) := (hm4.cell (b := tb) (o := toff + m) htl2 NE0.out).trans q0; replace F4 := Lib.hid F4; replace ho4 := Lib.hid ho4; replace hm4 := Lib.hid hm4))
              replace F4 := F4.out; replace ho4 := ho4.out; replace hm4 := hm4.out
              rw [show [e].length = 1 from rfl] at F4 ho4
              rw [tk_one] at F4
              rw [rs_one] at ho4
              have K := Lib.hid ((HA.out.calm dr.out).tick (by rw [HG.out, HLA.out]) HX.out HE.out hm4 F4)
              have hs4 : wr.heap.size ≤ w4.heap.size := hm4.size
              have hlim := HA.out.lim
              have hwb := HA.out.base
              have hwl : ∀ k, u14.ownBlock = some k → k < wr.heap.size := fun k hk => (HA.out.want.lt k hk).2
              have HWL := Lib.hid hwl; clear hwl
              have hrl := rsK_le La P i
              clear F4 hm4 dr
              cases ht : trips e P with
              | false =>
                rw [ht] at ho4
                replace ho4 : w4.ownsRow _ 38 3 ov 0 [] := ho4
                obtain ⟨va, vc, rfl⟩ := slice_of ho4
                have HT2 := Lib.hid ht
                clear ho4 ht
                go_wp2_with (fail)
                refine wp_loop_rounds 1 ?_
                rw [rounds_succ]
                go_wp2_with (fail)
                refine ⟨⟨i + 1, by omega, by go_num, A2.same HE.out HT2.out hwb (by omega) K.out⟩, by simp [intOf]; omega⟩
              | true =>
                rw [ht] at ho4
                obtain ⟨B', ho4, hB'⟩ : ∃ B', w4.ownsRow B' 38 3 ov (0 + 1) [.int .i64 0, .int .i64 e.tier, .int .i64 e.seq] ∧ B' = wr.heap.size := ⟨_, ho4, rfl⟩
                obtain ⟨g, cap, rfl⟩ := ownsRow_succ ho4
                have k0 := own_cell ho4 (j := 0) rfl
                have k1 := own_cell ho4 (j := 1) rfl
                have k2 := own_cell ho4 (j := 2) rfl
                have kf := own_free ho4 0
                have kl := own_lt ho4
                obtain ⟨ti, hti⟩ : ∃ ti, ti = e.tier := ⟨_, rfl⟩
                obtain ⟨se, hse⟩ : ∃ ti, ti = e.seq := ⟨_, rfl⟩
                rw [← hti] at k1; rw [← hse] at k2
                have HTI := Lib.hid hti; have HSE := Lib.hid hse; clear hti hse
                have HT2 := Lib.hid ht
                have HO4 := Lib.hid ho4
                have W5 : Hid ((w4.setCell ⟨g, 0, none⟩ (.int .i64 (i : Int))).ownsRow H 38 3 u14 (rsK La P i).length ((rsK La P i).flatMap rc)) := Lib.hid (own_mod K.out.2.2.2 (mod_at (b := g) (Mod.refl _ _) _) (fun j hj e => by have := HWL.out j hj; omega))
                have HB' := Lib.hid hB'
                clear ho4 ht hB'
                go_wp2_with (fail)
                refine wp_loop_rounds 2 ?_
                rw [rounds_succ]
                go_wp2_with (at_builtin; refine wpList_append_own _ rfl _ _ 32 rfl H 38 j0 _ 3 24 Try.underlying32 ji jz0 jz1 jz2 rfl (by decide) _ _ _ rfl (W5.out.alloc _) ⟨w4.heap.size, 0, none⟩ 1 1 [_, _, _] rfl rfl (by have := cells_new (w4.setCell ⟨g, 0, none⟩ (.int .i64 (i : Int))) [.int .i64 (i : Int), .int .i64 ti, .int .i64 se] 38; rw [World.size_setCell] at this; exact this) (by simp [Value.oneCell']) (by unfold maxLen; omega) (by omega) (by simp; omega) ?_; intro v' w6 hown' hgrow _; replace hown' := Lib.hid hown'; replace hgrow := Lib.hid hgrow)
                rw [rounds_succ]
                go_wp2_with (fail)
                refine ⟨⟨i + 1, by omega, by go_num, A2.more HE.out HT2.out hwb K.out ⟨_, HO4.out⟩ (by have := HB'.out; omega) (fun j hj => by have := HB'.out; have := HWL.out j hj; omega) hgrow.out (by rw [← HTI.out, ← HSE.out]; exact hown'.out)⟩, by simp [intOf]; omega⟩
            · have he : i = k := by omega
              subst he
              have ho := HA.out
              obtain ⟨B, h1, _⟩ := ho.out
              have h2 := ho.want
              rw [← HLA.out] at h2
              have hlen : (rsK La P La.length).length ≤ 1000 := by have := rsK_le La P La.length; have := HLA.out; omega
              have S := Lib.hid (fun (v1 v2 : Value) (h1 : wr.ownsRow B 38 3 v1 (rsK La P La.length).length ((rsK La P La.length).flatMap rc)) (h2 : wr.ownsRow H 38 3 v2 (rsK La P La.length).length ((rsK La P La.length).flatMap rc)) => same_refl hlen h1 h2)
              have G1 := Lib.hid h1; have G2 := Lib.hid h2
              clear h1 h2 ho hlen
              go_wp2_with (fail)
              refine (S.out _ _ G1.out G2.out).mono ?_
              rintro e w7 ⟨rfl, hb7⟩
              have A7 := Lib.hid (HA.out.calm hb7)
              clear hb7 S G1 G2
              go_wp2_with (fail)
              refine ⟨⟨m + 1, tk La P La.length, by omega, by go_num, by rw [tk_len]; exact HLA.out, by have := A7.out.al; rwa [← HLA.out] at this, by have := A7.out.one; rwa [HLA.out] at this⟩, by simp [intOf]; omega⟩
        · go_wp2_with (fail)
          go_ret
          exact ⟨rfl, HAL.out.below⟩
theorem FaultsAlone_walk (a0 : Value) (a1 : Value) (w : World) (w0 : Kit.SlIn [.inl .i64, .inl .i64, .inl .i64, .inl .i64, .inl .i64, .inl .i64, .inr false] w a0) (w1 : Kit.SlSl [.inl .i64] w a1) :
    Calls Try.prog 4 #[a0, a1] w fun e w' => e = .returned (.bool true) ∧ Below w.heap.size w w' := by
  obtain ⟨L, hM, hL, la, lc, rfl, h1, h2⟩ := slIn_ms w0
  obtain ⟨T, hT, hTl⟩ := slSl_ts w1
  obtain ⟨ta, tc, rfl⟩ : ∃ a c, a1 = .slice a T.length c := by
    rcases hT with ⟨b, off, c, rfl, _⟩ | ⟨rfl, a, c, rfl⟩
    · exact ⟨_, _, rfl⟩
    · exact ⟨_, _, rfl⟩
  by_cases hv : ((∀ e ∈ L, vE e = true) ∧ L.length ≤ 32)
  · by_cases h60 : T.length ≤ 60
    · exact alone_good la lc T ta T.length tc w hM h1 h2 hT rfl h60 hv.1 hv.2
    · exact alone_bad ta T.length tc w hM hL hTl (.inr (by omega))
  · exact alone_bad ta T.length tc w hM hL hTl (.inl hv)
end Go.Proofs.Ythgilipffdcddaa
