/-
  The walk of the reference's Tick on an object that the reference's New has made. Conditions: at most 32 valid monitors.
-/
import Derived.Test.YthgilipffdcddaaRot
namespace Go.Proofs.Ythgilipffdcddaa
open Go.RowKit Kit
set_option linter.unusedVariables false
/-- A field of a watch is written. -/
theorem RO.wset {w : World} {base r g cap n : Nat} {lv : Value} {M : List E} {k : Nat} {e : E} (h : RO w base r lv (.slice (some ⟨g, 0, none⟩) n cap) M) (hn : n = M.length) (hi : M[k]? = some e) (j : Nat) (hj : j < 2) (u : Value) (e' : E) (hu : (wc e).set j u = wc e') (hm : mc e' = mc e) :
    RO (w.setCell ⟨g, k * 2 + j, none⟩ u) base r lv (.slice (some ⟨g, 0, none⟩) n cap) (M.set k e') ∧ Mod (fun b => b = g) w (w.setCell ⟨g, k * 2 + j, none⟩ u) := by
  subst hn
  have r1 := rw_set wc_len h.wrow hi j hj u e' hu
  have m : Mod (fun b => b = g) w (w.setCell ⟨g, k * 2 + j, none⟩ u) := mod_at (Mod.refl _ w) _
  have hgr : r ≠ g := fun e => (h.blk g (.inr rfl)).2.2 e.symm
  refine ⟨⟨m.keeps h.obj hgr, ?_, by rw [List.length_set]; exact r1, by rw [List.length_set]; exact h.le, h.base⟩, m⟩
  rw [List.length_set, flat_same hi hm]
  refine own_mod h.lrow m (fun j hj e => ?_)
  rcases own_apart h.lrow h.wrow (by decide) with h1 | h1
  · rw [h1] at hj; cases hj
  · exact h1 (by rw [hj, e]; rfl)
def RT (W : World) (base r : Nat) (lv wv : Value) (L : List E) (P : List Int) (k : Nat) (v : Value) (wr : World) : Prop :=
  RO wr base r lv wv (tk L P k) ∧ wr.ownsRow W.heap.size 38 3 v (rsK L P k).length ((rsK L P k).flatMap rc) ∧ Mod (RS lv wv) W wr
def RTick (W : World) (base r : Nat) (lv wv : Value) (L : List E) (P : List Int) (e : Ending) (wr : World) : Prop := ∃ out, e = .returned out ∧ RT W base r lv wv L P L.length out wr
theorem tk_keep {L : List E} {P : List Int} {k : Nat} {e : E} (he : L[k]? = some e) (ht : tickE e P = e) : tk L P (k + 1) = tk L P k := by
  have := tk_succ L P k e he
  rw [ht] at this
  rw [← this]
  exact set_get ((tk_get L P k (List.getElem?_eq_some_iff.1 he).1).trans he)
theorem rsK_keep {L : List E} {P : List Int} {k : Nat} {e : E} (he : L[k]? = some e) (ht : trips e P = false) : rsK L P (k + 1) = rsK L P k := by
  rw [rsK_succ L P k e he, ht]; simp
theorem RT.step {W w1 w2 : World} {base r : Nat} {lv wv v : Value} {L : List E} {P : List Int} {k : Nat} (h : RT W base r lv wv L P k v w1) (hb : Below w1.heap.size w1 w2) : RT W base r lv wv L P k v w2 :=
  ⟨h.1.below hb, own_calm h.2.1 hb, h.2.2.trans (Mod.of_below hb) (fun _ _ h => h)⟩
theorem RT.keep {W w1 : World} {base r : Nat} {lv wv v : Value} {L : List E} {P : List Int} {k : Nat} {e : E} (h : RT W base r lv wv L P k v w1) (he : L[k]? = some e) (h1 : tickE e P = e) (h2 : trips e P = false) : RT W base r lv wv L P (k + 1) v w1 := by
  unfold RT
  rw [tk_keep he h1, rsK_keep he h2]
  exact h
theorem PS.modS {S : Nat → Prop} {w w' : World} {v : Value} {P : List Int} (h : PS w v P) (hm : Mod S w w') (hg : P = [] ∨ ∀ k, v.ownBlock = some k → ¬ S k) : PS w' v P := by
  rcases h with ⟨b, off, c, rfl, hc⟩ | h
  · rcases hg with rfl | hg
    · exact .inr ⟨rfl, _, _, rfl⟩
    · refine .inl ⟨b, off, c, rfl, fun i x hx => ?_⟩
      rw [← hc i x hx]
      exact hm.cell (World.block_lt_of_cell? _ _ (hc i x hx)) (hg b rfl)
  · exact .inr h
theorem rtick_nil {w : World} {base r : Nat} {lv wv pv : Value} (h : RO w base r lv wv []) (P : List Int) :
    Calls Try.prog 21 #[.pointer (some ⟨r, 0, none⟩), pv] w fun e w' => RTick w base r lv wv [] P e w' := by
  have hc0 : w.cell? ⟨r, 0, none⟩ = some lv := cell_of (i := 0) h.obj rfl
  obtain ⟨la, lc, hlv⟩ := slice_of h.lrow
  rw [hlv] at hc0
  simp only [List.length_nil] at hc0
  have R : Hid (RTick w base r lv wv [] P (.returned (.slice none 0 0)) w) := Lib.hid ⟨_, rfl, by simpa [tk] using h, World.ownsRow_nil _ _ _ _, Mod.refl _ _⟩
  clear h hlv
  go_enter Try.func21, Try.ntmps21
  go_wp2_with (fail)
  refine wp_loop_rounds 1 ?_
  rw [rounds_succ]
  go_wp2_with (fail)
  go_ret
  exact R.out
theorem grown_drewN {W w6 : World} {b : Option Nat} {q : Nat} (h : (W.drewN q).grownBy w6 b) : W.grownBy w6 b := ⟨h.os, h.tape, h.output, h.size, h.block⟩
theorem rt_grow {W w4 w6 : World} {base r k : Nat} {lv wv v v' : Value} {L : List E} {P : List Int} {o : Obj} {x : R3} (h1 : RO w4 base r lv wv (tk L P (k + 1))) (h2 : w4.ownsRow W.heap.size 38 3 v (rsK L P k).length ((rsK L P k).flatMap rc)) (h3 : Mod (RS lv wv) W w4) (hlt : ∀ j, RS lv wv j → j < W.heap.size) (hr : r < W.heap.size)
    (hgr : (w4.alloc o).grownBy w6 v.ownBlock) (how' : w6.ownsRow W.heap.size 38 3 v' ((rsK L P k).length + 1) ((rsK L P k).flatMap rc ++ rc x))
    (hk : rsK L P (k + 1) = rsK L P k ++ [x]) : RT W base r lv wv L P (k + 1) v' w6 := by
  refine ⟨(h1.below (bl_alloc (Below.refl _ _) _)).mod (mod_of_grown hgr) (fun hs => ?_) (fun j hj hs => ?_) (fun j hj hs => ?_), ?_, (h3.alloc _).trans (mod_of_grown hgr) (fun j hj hs => ?_)⟩
  · have := (h2.lt r hs).1; omega
  · have := (h2.lt j hs).1; have := hlt j (.inl hj); omega
  · have := (h2.lt j hs).1; have := hlt j (.inr hj); omega
  · rw [hk, List.length_append, List.flatMap_append]
    simpa using how'
  · have := (h2.lt j hs).1; omega
theorem rt_set {W w1 w2 : World} {base r k g cap n : Nat} {lv v : Value} {L : List E} {P : List Int} {e : E} (h : RT W base r lv (.slice (some ⟨g, 0, none⟩) n cap) L P k v w1) (he : L[k]? = some e) (hs : RO w2 base r lv (.slice (some ⟨g, 0, none⟩) n cap) ((tk L P k).set k (tickE e P))) (hm : Mod (fun b => b = g) w1 w2) (hg : g < W.heap.size) (ht : trips e P = false) :
    RT W base r lv (.slice (some ⟨g, 0, none⟩) n cap) L P (k + 1) v w2 := by
  rw [tk_succ L P k e he] at hs
  refine ⟨hs, ?_, h.2.2.trans hm (fun j _ e => .inr (by rw [e]; rfl))⟩
  rw [rsK_keep he ht]
  exact own_mod h.2.1 hm (fun j hj e => by have := (h.2.1.lt j hj).1; omega)
set_option maxRecDepth 100000 in
set_option maxHeartbeats 6400000 in
theorem rtick_any {L : List E} {w : World} {base r : Nat} {lv wv pv : Value} {P : List Int} (h : RO w base r lv wv L) (hok : ∀ e ∈ L, okE e) (hp : PS w pv P) (hpv : P = [] ∨ ∀ k, pv.ownBlock = some k → ¬ RS lv wv k) :
    Calls Try.prog 21 #[.pointer (some ⟨r, 0, none⟩), pv] w fun e w' => RTick w base r lv wv L P e w' := by
  rcases Nat.eq_zero_or_pos L.length with h0 | hpos
  · obtain rfl := List.length_eq_zero_iff.1 h0
    exact rtick_nil h P
  obtain ⟨i0, hi, hz0, hz1, hz2⟩ := info_parts info38
  obtain ⟨g1, cap1, rfl⟩ := row_some h.lrow (by omega)
  obtain ⟨g2, cap2, rfl⟩ := row_some h.wrow (by omega)
  have S0 : Hid (RT w base r (.slice (some ⟨g1, 0, none⟩) L.length cap1) (.slice (some ⟨g2, 0, none⟩) L.length cap2) L P 0 (.slice none 0 0) w) := Lib.hid ⟨by simpa [tk] using h, World.ownsRow_nil _ _ _ _, Mod.refl _ _⟩
  have BL := Lib.hid (fun j hj => h.blk j hj)
  have hrl := h.lt
  have h32 := h.le
  obtain ⟨n, hn⟩ : ∃ n, n = L.length := ⟨_, rfl⟩
  rw [← hn] at h32 hpos S0 BL hpv ⊢
  have HN := Lib.hid hn
  have HK := Lib.hid hok; have HP := Lib.hid hp; have HPV := Lib.hid hpv
  have c0 := cell_of (i := 0) h.obj rfl
  have hc0 : w.cell? ⟨r, 0, none⟩ = some (.slice (some ⟨g1, 0, none⟩) n cap1) := by rw [hn]; exact cell_of (i := 0) h.obj rfl
  have hc1 : w.cell? ⟨r, 1, none⟩ = some (.slice (some ⟨g2, 0, none⟩) n cap2) := by rw [hn]; exact cell_of (i := 1) h.obj rfl
  clear h hok hp hn hpv c0
  obtain ⟨LV, hLV⟩ : ∃ LV, LV = (Value.slice (some ⟨g1, 0, none⟩) n cap1) := ⟨_, rfl⟩
  have HLV := Lib.hid hLV
  rw [← hLV] at S0 BL HPV ⊢
  clear hLV
  go_enter Try.func21, Try.ntmps21
  go_wp2_with (fail)
  go_loopw [5, 6] (fun v i wr => ∃ k : Nat, k ≤ n ∧ i = .int .i64 k ∧ RT w base r LV (.slice (some ⟨g2, 0, none⟩) n cap2) L P k v wr) (fun _ i _ => n - (intOf i).toNat)
  case atStart => exact ⟨0, by omega, rfl, S0.out⟩
  case round =>
    clear S0 hc0 hc1
    obtain ⟨k, hk, rfl, hS⟩ := hrel
    have hc0 : wr.cell? ⟨r, 0, none⟩ = some (.slice (some ⟨g1, 0, none⟩) n cap1) := by rw [← HLV.out]; exact cell_of (i := 0) hS.1.obj rfl
    have hc1 : wr.cell? ⟨r, 1, none⟩ = some (.slice (some ⟨g2, 0, none⟩) n cap2) := cell_of (i := 1) hS.1.obj rfl
    have HS := Lib.hid hS; clear hS
    by_cases hlt : k < n
    · obtain ⟨e, he⟩ : ∃ e, L[k]? = some e := ⟨_, List.getElem?_eq_getElem (by have := HN.out; omega)⟩
      have hlen : (tk L P k).length = n := by rw [tk_len, HN.out]
      have he' : (tk L P k)[k]? = some e := (tk_get L P k (by have := HN.out; omega)).trans he
      have hok : okE e := HK.out e (List.mem_of_getElem? he)
      have r1 := HS.out.1.lrow
      have r2 := HS.out.1.wrow
      rw [HLV.out, hlen] at r1
      rw [hlen] at r2
      have m0 := rw_get mc_len r1 he' 0 (by omega)
      have m1 := rw_get mc_len r1 he' 1 (by omega)
      have m2 := rw_get mc_len r1 he' 2 (by omega)
      have m3 := rw_get mc_len r1 he' 3 (by omega)
      have m4 := rw_get mc_len r1 he' 4 (by omega)
      have m5 := rw_get mc_len r1 he' 5 (by omega)
      have m6 := rw_get mc_len r1 he' 6 (by omega)
      have HWS := Lib.hid (fun (W : World) (lv : Value) (h : RO W base r lv (.slice (some ⟨g2, 0, none⟩) n cap2) (tk L P k)) => h.wset hlen.symm he')
      have HE := Lib.hid he; have HE' := Lib.hid he'; have HOK := Lib.hid hok
      have HLEN := Lib.hid hlen
      obtain ⟨par, lo, hi', per, ti, se, on, cnt, tr⟩ := e
      simp only [mc, List.getElem?_cons_succ, List.getElem?_cons_zero, Nat.add_zero] at m0 m1 m2 m3 m4 m5 m6
      have fl1 := own_lt r1
      have fl2 := own_lt r2
      clear r1 r2 he he' hok hlen
      have hsz := HS.out.2.2.size
      have G2 : Hid (g2 < w.heap.size) := Lib.hid (BL.out g2 (.inr rfl)).2.1
      cases on with
      | false =>
        have R : Hid (RT w base r LV (.slice (some ⟨g2, 0, none⟩) n cap2) L P (k + 1) u5 wr) := Lib.hid (HS.out.keep HE.out rfl rfl)
        go_wp2_with (fail)
        refine ⟨⟨k + 1, by omega, by simp, R.out.step (bl_alloc (Below.refl _ _) _)⟩, by simp [intOf]; omega⟩
      | true =>
        go_wp2_with (fail)
        obtain ⟨e, hee⟩ : ∃ e : E, e = ⟨par, lo, hi', per, ti, se, true, cnt, tr⟩ := ⟨_, rfl⟩
        have a1 := bl_alloc (Below.refl wr.heap.size wr) (.cells #[.int .i64 par, .int .i64 lo, .int .i64 hi', .int .i64 per, .int .i64 ti, .int .i64 se, .bool true] 30)
        refine (viol_any ⟨par, lo, hi', per, ti, se, true, cnt, tr⟩ P pv _ HOK.out.1 ((HP.out.modS HS.out.2.2 HPV.out).below a1)).mono ?_
        rintro en w2 ⟨rfl, hb2⟩
        have S2 := Lib.hid (HS.out.step (bl_step a1 hb2))
        have hx : w2.heap[wr.heap.size]? = some (.cells #[.int .i64 par, .int .i64 lo, .int .i64 hi', .int .i64 per, .int .i64 ti, .int .i64 se, .bool true] 30) := below_keeps hb2 (hp_new wr _) (by simp)
        have b3 : w2.cell? ⟨wr.heap.size, 3, none⟩ = some (.int .i64 per) := cell_of hx rfl
        have b4 : w2.cell? ⟨wr.heap.size, 4, none⟩ = some (.int .i64 ti) := cell_of hx rfl
        have b5 : w2.cell? ⟨wr.heap.size, 5, none⟩ = some (.int .i64 se) := cell_of hx rfl
        have c0 : w2.cell? ⟨r, 0, none⟩ = some (.slice (some ⟨g1, 0, none⟩) n cap1) := by rw [← HLV.out]; exact cell_of (i := 0) S2.out.1.obj rfl
        have c1 : w2.cell? ⟨r, 1, none⟩ = some (.slice (some ⟨g2, 0, none⟩) n cap2) := cell_of (i := 1) S2.out.1.obj rfl
        have r2 := S2.out.1.wrow
        rw [HLEN.out] at r2
        have d0 := rw_get wc_len r2 HE'.out 0 (by omega)
        have d1 := rw_get wc_len r2 HE'.out 1 (by omega)
        simp only [wc, List.getElem?_cons_succ, List.getElem?_cons_zero, Nat.add_zero] at d0 d1
        have f0 := own_free r2 (k * 2)
        have f1 := own_free r2 (k * 2 + 1)
        have hBx := lt_of_obj hx
        obtain ⟨B, hB⟩ : ∃ B, B = wr.heap.size := ⟨_, rfl⟩
        have hBg : B ≠ g2 := by have := G2.out; omega
        have HX := Lib.hid hx
        rw [← hB] at HX b3 b4 b5 ⊢
        have hper := HOK.out
        simp only [okE] at hper
        obtain ⟨_, _, hp1, hp2, hp3, hp4⟩ := hper
        clear m0 m1 m2 m3 m4 m5 m6 hc0 hc1 hx r2 hB a1 hb2 fl1 fl2
        cases hv : viol ⟨par, lo, hi', per, ti, se, true, cnt, tr⟩ P with
        | false =>
          have R : Hid (∀ q, RT w base r LV (.slice (some ⟨g2, 0, none⟩) n cap2) L P (k + 1) u5 ((w2.setCell ⟨g2, k * 2, none⟩ (.int .i64 0)).drewN q)) := Lib.hid (fun q => by
            have h1 := HWS.out w2 LV S2.out.1 0 (by omega) (.int .i64 0) ⟨par, lo, hi', per, ti, se, true, 0, tr⟩ rfl rfl
            refine (rt_set S2.out HE.out ?_ h1.2 G2.out ?_).step (below_drewN (Below.refl _ _) _)
            · unfold tickE; rw [if_neg (by simp), if_pos hv]; exact h1.1
            · unfold trips; rw [hv]; simp)
          clear hv
          go_wp2_with (fail)
          refine ⟨⟨k + 1, by omega, by simp, R.out 0⟩, by simp [intOf]; omega⟩
        | true =>
          have W := IntWalk.i64_in (cnt + 1) (by omega)
          have gmn := fun w x y => run_min_mn Try.prog w #[3, 3] 3 .i64 .i64 x y
          have HPR := Lib.hid (And.intro hp1 (And.intro hp2 (And.intro hp3 hp4)))
          have HV := Lib.hid hv
          clear hv hp1 hp2 hp3 hp4
          go_wp2_with (fail)
          refine region_still_tail 19 (by kernel_rfl) (by kernel_rfl) ?_
          simp only [List.take_succ_cons, List.take_zero, List.drop_succ_cons, List.drop_zero]
          (repeat still_step)
          refine wpStill_nil ?_
          go_wp2_with (fail)
          obtain ⟨C, hC⟩ : ∃ C, C = mn per (cnt + 1) := ⟨_, rfl⟩
          obtain ⟨w3, hw3⟩ : ∃ w3, w3 = w2.setCell ⟨g2, k * 2, none⟩ (.int .i64 (mn per (cnt + 1))) := ⟨_, rfl⟩
          rw [← hw3]
          rw [← hC] at hw3
          have h1 := HWS.out w2 LV S2.out.1 0 (by omega) (.int .i64 C) ⟨par, lo, hi', per, ti, se, true, C, tr⟩ rfl rfl
          rw [Nat.add_zero, ← hw3] at h1
          have O3 := Lib.hid (own_mod S2.out.2.1 h1.2 (fun j hj e => by have := (S2.out.2.1.lt j hj).1; have := G2.out; omega))
          have M3 : Hid (Mod (RS LV (.slice (some ⟨g2, 0, none⟩) n cap2)) w w3) := Lib.hid (S2.out.2.2.trans h1.2 (fun j _ e => .inr (by rw [e]; rfl)))
          have R3 := Lib.hid h1.1
          have hx := h1.2.keeps HX.out hBg
          have q3 : w3.cell? ⟨B, 3, none⟩ = some (.int .i64 per) := cell_of hx rfl
          have q4 : w3.cell? ⟨B, 4, none⟩ = some (.int .i64 ti) := cell_of hx rfl
          have q5 : w3.cell? ⟨B, 5, none⟩ = some (.int .i64 se) := cell_of hx rfl
          have p1 : w3.cell? ⟨r, 1, none⟩ = some (.slice (some ⟨g2, 0, none⟩) n cap2) := cell_of (i := 1) R3.out.obj rfl
          have l3 : ((tk L P k).set k (⟨par, lo, hi', per, ti, se, true, C, tr⟩ : E)).length = n := by rw [List.length_set]; exact HLEN.out
          have r3 := R3.out.wrow
          rw [l3] at r3
          have hi3 : ((tk L P k).set k (⟨par, lo, hi', per, ti, se, true, C, tr⟩ : E))[k]? = some ⟨par, lo, hi', per, ti, se, true, C, tr⟩ := by
            rw [List.getElem?_set_self (by rw [HLEN.out]; exact hlt)]
          have d0' := rw_get wc_len r3 hi3 0 (by omega)
          have d1' := rw_get wc_len r3 hi3 1 (by omega)
          simp only [wc, List.getElem?_cons_succ, List.getElem?_cons_zero, Nat.add_zero] at d0' d1'
          have f1' := own_free r3 (k * 2 + 1)
          have HW3 := Lib.hid (R3.out.wset l3.symm hi3 1 (by omega) (.bool true) ⟨par, lo, hi', per, ti, se, true, C, true⟩ rfl rfl)
          have HTE : Hid (tickE ⟨par, lo, hi', per, ti, se, true, cnt, tr⟩ P = ⟨par, lo, hi', per, ti, se, true, C, tr || decide (per ≤ cnt + 1)⟩) := Lib.hid (by unfold tickE; rw [if_neg (by simp), if_neg (by rw [HV.out]; simp), hC])
          have HTR : Hid (trips ⟨par, lo, hi', per, ti, se, true, cnt, tr⟩ P = (!tr && decide (per ≤ cnt + 1))) := Lib.hid (by unfold trips; rw [HV.out]; rfl)
          have HC := Lib.hid hC
          have M2 := Lib.hid h1.2
          clear b3 b4 b5 c0 c1 d0 d1 f0 f1 hx l3 r3 hi3 h1 hw3 hC W gmn
          by_cases hq : per ≤ cnt + 1
          · have hCp : C = per := by rw [HC.out]; unfold mn; omega
            cases tr with
            | true =>
              have R : Hid (∀ q, RT w base r LV (.slice (some ⟨g2, 0, none⟩) n cap2) L P (k + 1) u5 (w3.drewN q)) := Lib.hid (fun q => by
                refine (rt_set S2.out HE.out ?_ M2.out G2.out ?_).step (below_drewN (Below.refl _ _) _)
                · rw [HTE.out]; exact R3.out
                · rw [HTR.out]; rfl)
              subst hCp
              clear hq
              go_quiet (fail)
              go_wp2_with (fail)
              refine ⟨⟨k + 1, by omega, by simp, R.out _⟩, by simp [intOf]; omega⟩
            | false =>
              subst hCp
              have HQ := Lib.hid hq
              clear hq
              have H4 := HW3.out
              have O4 := Lib.hid (own_mod O3.out H4.2 (fun j hj e => by have := (O3.out.lt j hj).1; have := G2.out; omega))
              have M4 := Lib.hid (M3.out.trans H4.2 (fun j _ e => .inr (by rw [e]; rfl)))
              have R4 : Hid (RO (w3.setCell ⟨g2, k * 2 + 1, none⟩ (.bool true)) base r LV (.slice (some ⟨g2, 0, none⟩) n cap2) (tk L P (k + 1))) := Lib.hid (by
                have h := H4.1
                rw [List.set_set] at h
                rw [← tk_succ L P k _ HE.out, HTE.out, show decide (C ≤ cnt + 1) = true from decide_eq_true HQ.out]
                exact h)
              have KE : Hid (rsK L P (k + 1) = rsK L P k ++ [((k : Int), ti, se)]) := Lib.hid (by rw [rsK_succ L P k _ HE.out, HTR.out, show decide (C ≤ cnt + 1) = true from decide_eq_true HQ.out]; rfl)
              have hs4 : (w3.setCell ⟨g2, k * 2 + 1, none⟩ (.bool true)).heap.size = w3.heap.size := World.size_setCell _ _ _
              have CN := cells_new (w3.setCell ⟨g2, k * 2 + 1, none⟩ (.bool true)) [.int .i64 (k : Int), .int .i64 ti, .int .i64 se] 38
              rw [hs4] at CN
              have CNH := Lib.hid CN
              have hrl2 := rsK_le L P k
              have hw3 := M3.out.size
              clear H4 CN
              go_quiet (fail)
              go_wp2_with (at_builtin; refine wpList_append_own _ rfl _ _ 32 rfl w.heap.size 38 i0 _ 3 24 Try.underlying32 hi hz0 hz1 hz2 rfl (by decide) _ _ _ rfl (own_drewN (O4.out.alloc _) _) ⟨w3.heap.size, 0, none⟩ 1 1 [_, _, _] rfl rfl CNH.out (by simp [Value.oneCell']) (by unfold maxLen; omega) (by omega) (by simp; omega) ?_; intro v' w6 hown' hgrow _)
              refine ⟨⟨k + 1, by omega, by simp, rt_grow (x := ((k : Int), ti, se)) R4.out O4.out M4.out (fun j hj => (BL.out j hj).2.1) hrl (grown_drewN hgrow) hown' KE.out⟩, by simp [intOf]; omega⟩
          · have hCp : (C == per) = false := by rw [HC.out]; unfold mn; simp; omega
            have R : Hid (∀ q, RT w base r LV (.slice (some ⟨g2, 0, none⟩) n cap2) L P (k + 1) u5 (w3.drewN q)) := Lib.hid (fun q => by
              have hf : decide (per ≤ cnt + 1) = false := decide_eq_false hq
              refine (rt_set S2.out HE.out ?_ M2.out G2.out ?_).step (below_drewN (Below.refl _ _) _)
              · rw [HTE.out, hf, Bool.or_false]; exact R3.out
              · rw [HTR.out, hf, Bool.and_false])
            clear hq
            go_quiet (fail)
            go_wp2_with (fail)
            refine ⟨⟨k + 1, by omega, by simp, R.out _⟩, by simp [intOf]; omega⟩
    · have he : k = n := by omega
      subst he
      go_wp2_with (fail)
      go_ret
      exact ⟨_, rfl, by rw [← HN.out]; exact HS.out⟩
end Go.Proofs.Ythgilipffdcddaa
