/-
  The walk of the law FaultsPlays. Conditions: none beyond arguments that can be read.
-/
import Derived.Test.YthgilipffdcddaaPly
import Derived.Deep.RegionWith
namespace Go.Proofs.Ythgilipffdcddaa
open Go.RowKit Kit
set_option linter.unusedVariables false
theorem ptr_nil (w : World) : (binOp .eql 25 (.pointer none) (.pointer none)).run Try.prog w = .ok (.bool true) w := by
  have := run_equal_pointer_nil (P := Try.prog) (w := w) 25 none (by kernel_rfl)
  simp [binOp, this]
set_option maxRecDepth 100000 in
set_option maxHeartbeats 12800000 in
theorem plays_any (L : List E) (T : List Ac) (la : Option Addr) (lc n : Nat) (ta : Option Addr) (tn tc : Nat) (w : World) (hM : MS w (.slice la n lc) L) (hnl : n = L.length) (hcap : n ≤ lc) (hlc : lc ≤ maxLen) (hz : la = none → n = 0 ∧ lc = 0) (hT : AN w ta tn tc T) (htn : tn ≤ maxLen) :
    Calls Try.prog 5 #[.slice la n lc, .slice ta tn tc] w fun e w' => e = .returned (.bool true) ∧ Below w.heap.size w w' := by
  obtain ⟨i0, hi, hz0, hz1, hz2⟩ := info_parts info30
  have HT := Lib.hid hT; have HM := Lib.hid hM; have HN := Lib.hid hnl; have HZ := Lib.hid hz
  have HTN := Lib.hid htn
  unfold maxLen at hlc
  have htn2 : tn ≤ 2 ^ 63 - 1 := htn
  have one : Hid (∀ u ∈ L.flatMap mc, u.oneCell' = true) := Lib.hid (by
    intro u hu
    obtain ⟨x, _, hx⟩ := List.mem_flatMap.1 hu
    simp only [mc, List.mem_cons, List.not_mem_nil, or_false] at hx
    rcases hx with rfl | rfl | rfl | rfl | rfl | rfl | rfl <;> rfl)
  have pn := fun w => ptr_nil w
  have pne := fun w a => ptr_ne w a
  clear hT hM hnl hz htn
  by_cases h100 : 100 < n
  · go_enter Try.func5, Try.ntmps5
    go_wp2_with (fail)
    refine (shown_any _).mono ?_
    rintro e w1 ⟨rfl, hb1⟩
    go_wp2_with (fail)
    go_ret
    exact ⟨rfl, hb1⟩
  · go_enter Try.func5, Try.ntmps5
    go_wp2_with (fail)
    refine (shown_any _).mono ?_
    rintro e w1 ⟨rfl, hb1⟩
    have B1 := Lib.hid hb1
    have ER : Hid ((w1.alloc (.cells #[] 30)).ownsRow w.heap.size 30 7 (.slice (some ⟨w1.heap.size, 0, none⟩) 0 0) 0 []) := Lib.hid (empty_row w1 30 7 w.heap.size hb1.size)
    have HM1 := Lib.hid ((HM.out.below hb1).below (bl_alloc (Below.refl _ _) (.cells #[] 30)))
    have hws := hb1.size
    clear hb1
    obtain ⟨G, hG⟩ : ∃ G, Hid (G = GR T) := ⟨_, Lib.hid rfl⟩
    have GA := Lib.hid (great_any (HT.out.below B1.out) HTN.out)
    rw [← hG.out] at GA
    go_wp2_with (fail)
    refine GA.out.mono ?_
    rintro e _ ⟨rfl, rfl⟩
    clear GA
    cases G with
    | true =>
      go_wp2_with (fail)
      go_ret
      exact ⟨rfl, B1.out⟩
    | false =>
      go_wp2_with (at_builtin; refine wpList_append_own_any _ rfl _ _ 31 rfl w.heap.size 30 i0 _ 7 56 Try.underlying31 hi hz0 hz1 hz2 rfl (by decide) _ 0 [] rfl ER.out la n lc (L.flatMap mc) rfl (by rw [flat_len mc_len, HN.out]) HZ.out (by rintro ad rfl; exact ms_src HM1.out) one.out (by unfold maxLen; omega) (by omega) (by simp; omega) ?_; intro v2 w2 hown2 hg2; replace hown2 := Lib.hid hown2; replace hg2 := Lib.hid hg2)
      have hg : (w1.alloc (.cells #[] 30)).grownBy w2 (some w1.heap.size) := hg2.out
      have b2 : Below w.heap.size w w2 := (bl_alloc B1.out (.cells #[] 30)).grown hg (by simp; omega) (fun j e => by cases e; omega)
      have ho := hown2.out
      rw [Nat.zero_add, List.nil_append] at ho
      have hms := (own_ms HM.out.1 ho).2
      have O2 := Lib.hid ho; have B2 := Lib.hid b2; have M2 := Lib.hid hms
      clear hg b2 ho hms hown2 hg2 ER HM1 one B1
      by_cases hv : (∀ e ∈ L, vE e = true) ∧ L.length ≤ 32
      · refine (new_good M2.out hv.2 hv.1).mono ?_
        rintro e w3 ⟨v, rfl, F3, b3⟩
        have M3 := Lib.hid (HM.out.below (bl_step B2.out b3))
        have B3 := Lib.hid (bl_step B2.out b3)
        have O3 := Lib.hid (own_calm O2.out b3)
        have O2F : Hid (∀ k, v2.ownBlock = some k → k < w2.heap.size) := Lib.hid (fun k hk => (O2.out.lt k hk).2)
        have hw2 := B2.out.size
        obtain ⟨f, hf⟩ : ∃ f, f = w2.heap.size := ⟨_, rfl⟩
        rw [← hf] at F3 O2F hw2 ⊢
        have F3' := Lib.hid F3
        clear b3 F3 M2 B2 O2 hf
        go_wp2_with (fail)
        refine (rnew_any M3.out).mono ?_
        rintro e w4 (⟨_, lv, wv, rfl, R4, b4⟩ | ⟨h, _⟩)
        rotate_left
        · exact absurd hv h
        have P4 : Hid (PH w f w3.heap.size v lv wv L L w4) := Lib.hid ⟨F3'.out.below b4, R4, bl_step B3.out b4, hw2, F3'.out.lt, fun k hk => (F3'.out.blk k hk).2.1⟩
        have O4 := Lib.hid (own_calm O3.out b4)
        obtain ⟨r, hr⟩ : ∃ r, r = w3.heap.size := ⟨_, rfl⟩
        rw [← hr] at P4 ⊢
        have h32 := hv.2
        rw [← HN.out] at h32
        clear b4 R4 F3' M3 B3 O3 hr hv
        go_wp2_with (fail)
        go_loopw [10] (fun i wr => ∃ k : Nat, k ≤ n ∧ i = .int .i64 k ∧ ∃ M : List E, (∀ j, k ≤ j → M[j]? = L[j]?) ∧ wr.ownsRow w.heap.size 30 7 v2 n (M.flatMap mc) ∧ PH w f r v lv wv L L wr) (fun i _ => n - (intOf i).toNat)
        case atStart => exact ⟨0, by omega, rfl, L, fun j _ => rfl, O4.out, P4.out⟩
        case round =>
          clear P4 O4
          obtain ⟨k, hk, rfl, M, hMM, hO, hP⟩ := hrel
          obtain ⟨a2, c2, rfl⟩ := slice_of hO
          by_cases hlt : k < n
          · obtain ⟨g, cap, hv2⟩ := row_some hO (by omega)
            simp only [Value.slice.injEq, true_and] at hv2
            obtain ⟨rfl, rfl⟩ := hv2
            obtain ⟨e, he⟩ : ∃ e, L[k]? = some e := ⟨_, List.getElem?_eq_getElem (by have := HN.out; omega)⟩
            have hem : M[k]? = some e := (hMM k (Nat.le_refl _)).trans he
            have m0 := rw_get mc_len hO hem 0 (by omega)
            have m1 := rw_get mc_len hO hem 1 (by omega)
            have m2 := rw_get mc_len hO hem 2 (by omega)
            have m3 := rw_get mc_len hO hem 3 (by omega)
            have m4 := rw_get mc_len hO hem 4 (by omega)
            have m5 := rw_get mc_len hO hem 5 (by omega)
            have m6 := rw_get mc_len hO hem 6 (by omega)
            have f0 := own_free hO (k * 7)
            have f1 := own_free hO (k * 7 + 1)
            have f2 := own_free hO (k * 7 + 2)
            have f3 := own_free hO (k * 7 + 3)
            have f4 := own_free hO (k * 7 + 4)
            have f5 := own_free hO (k * 7 + 5)
            have f6 := own_free hO (k * 7 + 6)
            have gl := own_lt hO
            have ZR := Lib.hid (zero_row hO hem)
            have hgf : g < f := O2F.out g rfl
            obtain ⟨hoc, hocm, hcapm⟩ : n ≤ c2 ∧ c2 ≤ 2 ^ 63 - 1 ∧ True := by
              obtain ⟨cur, _, _, h3, h4, _⟩ := own_block hO
              exact ⟨h3, h4, trivial⟩
            obtain ⟨b, off, rfl, hbl, hc⟩ : ∃ b off, la = some ⟨b, off, none⟩ ∧ b < wr.heap.size ∧ ∀ j, j < 7 → wr.cell? ⟨b, off + (k * 7 + j), none⟩ = (mc e)[j]? := by
              rcases (HM.out.below hP.bl).2 with ⟨b, off, c', hv, hb, hc⟩ | ⟨rfl, _⟩
              · simp only [Value.slice.injEq] at hv
                exact ⟨b, off, hv.1, hb, fun j hj => hc k e he j hj⟩
              · simp at he
            have d0 : wr.cell? ⟨b, off + k * 7, none⟩ = _ := hc 0 (by omega)
            have d1 : wr.cell? ⟨b, off + k * 7 + 1, none⟩ = _ := hc 1 (by omega)
            have d2 : wr.cell? ⟨b, off + k * 7 + 2, none⟩ = _ := hc 2 (by omega)
            have d3 : wr.cell? ⟨b, off + k * 7 + 3, none⟩ = _ := hc 3 (by omega)
            have d4 : wr.cell? ⟨b, off + k * 7 + 4, none⟩ = _ := hc 4 (by omega)
            have d5 : wr.cell? ⟨b, off + k * 7 + 5, none⟩ = _ := hc 5 (by omega)
            have d6 : wr.cell? ⟨b, off + k * 7 + 6, none⟩ = _ := hc 6 (by omega)
            have HP := Lib.hid hP; have HMM := Lib.hid hMM
            have HE := Lib.hid hem
            obtain ⟨par, lo, hi', per, ti, se, on, cnt, tr⟩ := e
            simp only [mc, List.getElem?_cons_succ, List.getElem?_cons_zero, Nat.add_zero] at m0 m1 m2 m3 m4 m5 m6 d0 d1 d2 d3 d4 d5 d6
            clear hc hP hMM hO he hem
            go_wp2_with (fail)
            go_quiet (fail)
            go_wp2_with (fail)
            go_roundw
            case rel => exact ⟨k + 1, by omega, by simp, M.set k (zE ⟨par, lo, hi', per, ti, se, on, cnt, tr⟩), fun j hj => by rw [List.getElem?_set_ne (by omega)]; exact HMM.out j (by omega), own_drewN ZR.out.1 _, (HP.out.own ZR.out.2 hgf gl.1).below (below_drewN (Below.refl _ _) _)⟩
            case measure => simp [intOf]; omega
          · have hkn : n = k := by omega
            subst hkn
            have HP := Lib.hid hP
            clear hP hMM hO O2F
            go_wp2_with (fail)
            go_loopw [11, 12, 13, 14, 15, 16] (fun i _ _ _ _ _ wr => ∃ k : Nat, k ≤ tn ∧ i = .int .i64 k ∧ ∃ M : List E, PH w f r v lv wv M M wr) (fun i _ _ _ _ _ _ => tn - (intOf i).toNat)
            case atStart => exact ⟨0, by omega, rfl, L, HP.out⟩
            case round =>
              clear HP
              obtain ⟨k, hk, rfl, M, hP⟩ := hrel
              have HP := Lib.hid hP
              clear hP
              by_cases hlt2 : k < tn
              · obtain ⟨b, off, av, cv, rfl, hbl, x1, x2, x3, c0, c1, c2, c3⟩ := (HT.out.below HP.out.bl).2 k hlt2
                obtain ⟨X, hX⟩ : ∃ X, Hid (X = acAt T k) := ⟨_, Lib.hid rfl⟩
                rw [← hX.out] at x1 x2 x3 c0 c1 c2 c3
                obtain ⟨K, N, O, P⟩ := X
                simp only at x1 x2 x3 c0 c1 c2 c3
                have hpl : P.length ≤ 200 := by
                  have hg := hG.out
                  unfold GR at hg
                  have hg := hg.symm
                  rw [Bool.or_eq_false_iff, List.any_eq_false] at hg
                  have hi : k < T.length := by rw [← HT.out.1]; exact hlt2
                  have := hg.1 (acAt T k) (by rw [acAt, List.getD_eq_getElem?_getD, List.getElem?_eq_getElem hi]; exact List.getElem_mem hi)
                  rw [← hX.out] at this
                  simpa using this
                obtain ⟨_, _, av0, cv0, e0, hbl0, _, z2, z3, _, _, _, z4⟩ := HT.out.2 k hlt2
                have eav : av = av0 ∧ cv = cv0 := by
                  have h := (HP.out.bl.cell (p := ⟨b, off + k * 4 + 3, none⟩) (by simp only [Option.some.injEq, Addr.mk.injEq, and_true] at e0; rw [e0.1]; exact hbl0)).symm.trans c3
                  simp only [Option.some.injEq, Addr.mk.injEq, and_true] at e0
                  rw [← e0.1, ← e0.2] at z4
                  rw [z4] at h
                  simp only [Option.some.injEq, Value.slice.injEq] at h
                  exact ⟨h.1.symm, h.2.2.symm⟩
                obtain ⟨rfl, rfl⟩ := eav
                rw [← hX.out] at z2 z3
                simp only at z2 z3
                have X0 := Lib.hid z2; have X3 := Lib.hid z3
                clear z2 z3 z4 e0 hbl0
                obtain ⟨W5, hW5⟩ : ∃ W5, W5 = wr.alloc (.cells #[.int .i64 K, .int .i64 N, .bool O, .slice av P.length cv] 50) := ⟨_, rfl⟩
                have HW5 := Lib.hid hW5
                have b5 : Below wr.heap.size wr W5 := by rw [hW5]; exact bl_alloc (Below.refl _ _) _
                have P5 := Lib.hid (HP.out.below b5)
                have XO : Hid (W5.heap[wr.heap.size]? = some (.cells #[.int .i64 K, .int .i64 N, .bool O, .slice av P.length cv] 50)) := Lib.hid (by rw [hW5]; exact hp_new _ _)
                obtain ⟨B, hB⟩ : ∃ B, B = wr.heap.size := ⟨_, rfl⟩
                have hBf : Hid ((∀ k, v.ownBlock = some k → k < B) ∧ f < B ∧ r < B ∧ (∀ k, RS lv wv k → k < B)) := Lib.hid (by
                  rw [hB]
                  exact ⟨fun k hk => (HP.out.fo.blk k hk).2.1, HP.out.fo.lt, HP.out.ro.lt, fun k hk => (HP.out.ro.blk k hk).2.1⟩)
                have y0 : W5.cell? ⟨B, 0, none⟩ = some (.int .i64 K) := by rw [hB]; exact cell_of XO.out rfl
                have y1 : W5.cell? ⟨B, 1, none⟩ = some (.int .i64 N) := by rw [hB]; exact cell_of XO.out rfl
                have y2 : W5.cell? ⟨B, 2, none⟩ = some (.bool O) := by rw [hB]; exact cell_of XO.out rfl
                have y3 : W5.cell? ⟨B, 3, none⟩ = some (.slice av P.length cv) := by rw [hB]; exact cell_of XO.out rfl
                have ly : B < W5.heap.size := by rw [hB]; exact lt_of_obj XO.out
                rw [← hB] at XO
                have HBB := Lib.hid hB
                clear hW5 b5 x2 x3 hB
                by_cases hK0 : K = 0
                · subst hK0
                  go_wp2_with (fail)
                  rw [← HW5.out, ← HBB.out]
                  go_region_held3 (fun w' => w'.cell? ⟨B, 1, none⟩ = some (.int .i64 N) ∧ w'.cell? ⟨B, 2, none⟩ = some (.bool O)) (go_keep) ((first | (go_at_call 16; refine (clear_any N (P5.out.below (Below.refl _ _).drew).fo).mono ?_; rintro e w6 ⟨rfl, F6, m6⟩; have P6 := Lib.hid ((P5.out.below (Below.refl _ _).drew).stepF F6 m6); have XO6 := Lib.hid (m6.keeps (hp_drew XO.out) (fun e => by have := hBf.out.1 _ e; omega)); have y1 : w6.cell? ⟨B, 1, none⟩ = some (.int .i64 N) := cell_of XO6.out rfl; have y2 : w6.cell? ⟨B, 2, none⟩ = some (.bool O) := cell_of XO6.out rfl; have ly := lt_of_obj XO6.out; clear F6 m6) | (go_at_call 17; refine (rclear_any N P6.out.ro).mono ?_; rintro e w7 ⟨rfl, R7, m7⟩; have P7 := Lib.hid (P6.out.stepR R7 m7); have XO7 := Lib.hid (m7.keeps XO6.out (fun e => by have := hBf.out.2.2.2 _ e; omega)); have y1 : w7.cell? ⟨B, 1, none⟩ = some (.int .i64 N) := cell_of XO7.out rfl; have y2 : w7.cell? ⟨B, 2, none⟩ = some (.bool O) := cell_of XO7.out rfl; have ly := lt_of_obj XO7.out; clear R7 m7)))
                  all_goals
                    clear y0 y1 y2 y3 ly XO XO6 XO7 P5 P6 HW5 hBf HBB
                    obtain ⟨M2, hM2⟩ : ∃ M2, M2 = modL M N clr := ⟨_, rfl⟩
                    rw [← hM2] at P7
                    clear hM2
                    go_wp2_with (fail)
                    go_loopw [16] (fun i wr => ∃ t : Nat, t ≤ 5 ∧ i = .int .i64 t ∧ PH w f r v lv wv M2 M2 wr) (fun i _ => 5 - (intOf i).toNat)
                    case atStart => exact ⟨0, by omega, rfl, P7.out⟩
                    case round =>
                      clear P7
                      obtain ⟨t, ht, rfl, hPt⟩ := hrel
                      have PT := Lib.hid hPt
                      clear hPt
                      by_cases h5 : t < 5
                      · have A1 := Lib.hid (mtripped_any (t : Int) PT.out.fo)
                        have A2 := Lib.hid (fun W h => rtripped_any (w := W) (base := r) (r := r) (lv := lv) (wv := wv) (L := M2) (t : Int) h)
                        unfold MTr at A1
                        obtain ⟨Q, hQ⟩ : ∃ Q, Q = M2.any (isTr · (t : Int)) := ⟨_, rfl⟩
                        rw [← hQ] at A1 A2
                        clear hQ
                        go_wp2_with (fail)
                        refine A1.out.mono ?_
                        rintro e w8 ⟨rfl, b8⟩
                        have P8 := Lib.hid (PT.out.below b8)
                        clear b8 A1 PT
                        go_wp2_with (fail)
                        refine (A2.out _ P8.out.ro).mono ?_
                        rintro e _ ⟨rfl, rfl⟩
                        clear A2
                        cases Q with
                        | true =>
                          go_wp2_with (fail)
                          go_roundw
                          case rel => exact ⟨t + 1, by omega, by simp, P8.out⟩
                          case measure => simp [intOf]; omega
                        | false =>
                          go_wp2_with (fail)
                          go_roundw
                          case rel => exact ⟨t + 1, by omega, by simp, P8.out⟩
                          case measure => simp [intOf]; omega
                      · have ht5 : t = 5 := by omega
                        subst ht5
                        have hro := PT.out.ro.obj
                        obtain ⟨wa, wcp, hwv⟩ := slice_of PT.out.ro.wrow
                        have q1 : wr.cell? ⟨r, 1, none⟩ = some (.slice wa M2.length wcp) := by rw [← hwv]; exact cell_of hro rfl
                        have lr := lt_of_obj hro
                        have HWV := Lib.hid hwv
                        clear hro hwv
                        go_wp2_with (fail)
                        go_region_with ((first | (go_at_call 25; refine (mwatches_any (PT.out.below (Below.refl _ _).drew).fo).mono ?_; rintro e w9 ⟨out, rfl, b9, o9⟩; have P9 := Lib.hid ((PT.out.below (Below.refl _ _).drew).below b9); have O9 := Lib.hid o9; have q1 : w9.cell? ⟨r, 1, none⟩ = some (.slice wa M2.length wcp) := by { rw [← HWV.out]; exact cell_of P9.out.ro.obj rfl }; have lr := lt_of_obj P9.out.ro.obj; clear b9 o9) | (go_at_call 24; refine (sameW_any (l1 := M2) (l2 := M2) (by have := P9.out.fo.le; omega) O9.out (by rw [← HWV.out]; exact P9.out.ro.wrow)).mono ?_; rw [decide_eq_true rfl]; rintro e w10 ⟨rfl, b10⟩; have P10 := Lib.hid (P9.out.below b10); clear b10)))
                        all_goals
                          go_wp2_with (fail)
                          go_roundw
                          case rel => exact ⟨k + 1, by omega, by simp, M2, P10.out⟩
                          case measure => simp [intOf]; omega
                · by_cases hK1 : K = 1
                  · subst hK1
                    go_wp2_with (fail)
                    rw [← HW5.out, ← HBB.out]
                    go_region_held3 (fun w' => w'.cell? ⟨B, 1, none⟩ = some (.int .i64 N) ∧ w'.cell? ⟨B, 2, none⟩ = some (.bool O)) (go_keep) ((first | (go_at_call 18; refine (enable_any N O (P5.out.below (Below.refl _ _).drew).fo).mono ?_; rintro e w6 ⟨rfl, F6, m6⟩; have P6 := Lib.hid ((P5.out.below (Below.refl _ _).drew).stepF F6 m6); have XO6 := Lib.hid (m6.keeps (hp_drew XO.out) (fun e => by have := hBf.out.1 _ e; omega)); have y1 : w6.cell? ⟨B, 1, none⟩ = some (.int .i64 N) := cell_of XO6.out rfl; have y2 : w6.cell? ⟨B, 2, none⟩ = some (.bool O) := cell_of XO6.out rfl; have ly := lt_of_obj XO6.out; clear F6 m6) | (go_at_call 19; refine (renable_any N O P6.out.ro).mono ?_; rintro e w7 ⟨rfl, R7, m7⟩; have P7 := Lib.hid (P6.out.stepR R7 m7); have XO7 := Lib.hid (m7.keeps XO6.out (fun e => by have := hBf.out.2.2.2 _ e; omega)); have y1 : w7.cell? ⟨B, 1, none⟩ = some (.int .i64 N) := cell_of XO7.out rfl; have y2 : w7.cell? ⟨B, 2, none⟩ = some (.bool O) := cell_of XO7.out rfl; have ly := lt_of_obj XO7.out; clear R7 m7)))
                    all_goals
                      clear y0 y1 y2 y3 ly XO XO6 XO7 P5 P6 HW5 hBf HBB
                      obtain ⟨M2, hM2⟩ : ∃ M2, M2 = modL M N (enb · O) := ⟨_, rfl⟩
                      rw [← hM2] at P7
                      clear hM2
                      go_wp2_with (fail)
                      go_loopw [16] (fun i wr => ∃ t : Nat, t ≤ 5 ∧ i = .int .i64 t ∧ PH w f r v lv wv M2 M2 wr) (fun i _ => 5 - (intOf i).toNat)
                      case atStart => exact ⟨0, by omega, rfl, P7.out⟩
                      case round =>
                        clear P7
                        obtain ⟨t, ht, rfl, hPt⟩ := hrel
                        have PT := Lib.hid hPt
                        clear hPt
                        by_cases h5 : t < 5
                        · have A1 := Lib.hid (mtripped_any (t : Int) PT.out.fo)
                          have A2 := Lib.hid (fun W h => rtripped_any (w := W) (base := r) (r := r) (lv := lv) (wv := wv) (L := M2) (t : Int) h)
                          unfold MTr at A1
                          obtain ⟨Q, hQ⟩ : ∃ Q, Q = M2.any (isTr · (t : Int)) := ⟨_, rfl⟩
                          rw [← hQ] at A1 A2
                          clear hQ
                          go_wp2_with (fail)
                          refine A1.out.mono ?_
                          rintro e w8 ⟨rfl, b8⟩
                          have P8 := Lib.hid (PT.out.below b8)
                          clear b8 A1 PT
                          go_wp2_with (fail)
                          refine (A2.out _ P8.out.ro).mono ?_
                          rintro e _ ⟨rfl, rfl⟩
                          clear A2
                          cases Q with
                          | true =>
                            go_wp2_with (fail)
                            go_roundw
                            case rel => exact ⟨t + 1, by omega, by simp, P8.out⟩
                            case measure => simp [intOf]; omega
                          | false =>
                            go_wp2_with (fail)
                            go_roundw
                            case rel => exact ⟨t + 1, by omega, by simp, P8.out⟩
                            case measure => simp [intOf]; omega
                        · have ht5 : t = 5 := by omega
                          subst ht5
                          have hro := PT.out.ro.obj
                          obtain ⟨wa, wcp, hwv⟩ := slice_of PT.out.ro.wrow
                          have q1 : wr.cell? ⟨r, 1, none⟩ = some (.slice wa M2.length wcp) := by rw [← hwv]; exact cell_of hro rfl
                          have lr := lt_of_obj hro
                          have HWV := Lib.hid hwv
                          clear hro hwv
                          go_wp2_with (fail)
                          go_region_with ((first | (go_at_call 25; refine (mwatches_any (PT.out.below (Below.refl _ _).drew).fo).mono ?_; rintro e w9 ⟨out, rfl, b9, o9⟩; have P9 := Lib.hid ((PT.out.below (Below.refl _ _).drew).below b9); have O9 := Lib.hid o9; have q1 : w9.cell? ⟨r, 1, none⟩ = some (.slice wa M2.length wcp) := by { rw [← HWV.out]; exact cell_of P9.out.ro.obj rfl }; have lr := lt_of_obj P9.out.ro.obj; clear b9 o9) | (go_at_call 24; refine (sameW_any (l1 := M2) (l2 := M2) (by have := P9.out.fo.le; omega) O9.out (by rw [← HWV.out]; exact P9.out.ro.wrow)).mono ?_; rw [decide_eq_true rfl]; rintro e w10 ⟨rfl, b10⟩; have P10 := Lib.hid (P9.out.below b10); clear b10)))
                          all_goals
                            go_wp2_with (fail)
                            go_roundw
                            case rel => exact ⟨k + 1, by omega, by simp, M2, P10.out⟩
                            case measure => simp [intOf]; omega
                  · have hk0 : (K == 0) = false := by simpa using hK0
                    have hk1 : (K == 1) = false := by simpa using hK1
                    clear hK0 hK1
                    go_wp2_with (fail)
                    rw [← HW5.out, ← HBB.out]
                    have LA := Lib.hid (lend_any P av P.length cv W5 (X0.out.below P5.out.bl) (by omega) X3.out)
                    refine LA.out.mono ?_
                    rintro e w6 ⟨v6, rfl, l6, b6⟩
                    have P6 := Lib.hid (P5.out.below b6)
                    have XO6 := Lib.hid (below_keeps b6 XO.out ly)
                    have hBW : B < W5.heap.size := ly
                    have hBw6 : W5.heap.size ≤ w6.heap.size := b6.size
                    obtain ⟨a6, c6, rfl, n6⟩ := l6.ns rfl
                    have N6 := Lib.hid n6
                    have L6 := Lib.hid l6
                    clear LA l6 b6 n6 y0 y1 y2 y3 ly XO
                    go_wp2_with (fail)
                    refine (mtick_any P6.out.fo (ns_ps N6.out) (by rcases L6.out.own with h | ⟨g, h, hg⟩; exact .inl h; exact .inr (fun e => by rw [h] at e; have := hBf.out.1 g e.symm; omega))).mono ?_
                    rintro e w7 ⟨out, rfl, F7, o7, m7⟩
                    have Q7 := Lib.hid (P6.out.stepF F7 m7)
                    have XO7 := Lib.hid (m7.keeps XO6.out (fun e => by have := hBf.out.1 _ e; omega))
                    have L7 := Lib.hid (L6.out.modB m7 (fun k hk e => by have := hBf.out.1 _ e; omega))
                    have O7 := Lib.hid o7
                    have y3 : w7.cell? ⟨B, 3, none⟩ = some (.slice av P.length cv) := cell_of XO7.out rfl
                    have ly := lt_of_obj XO7.out
                    clear F7 o7 m7 P6 XO6 L6 N6
                    go_wp2_with (fail)
                    refine (rtick_any Q7.out.ro (fun e he => P5.out.fo.ok e he) (ns_ps (X0.out.below Q7.out.bl)) (by
                      by_cases h0 : P = []
                      · exact .inl h0
                      · refine .inr (fun j hj e => ?_)
                        obtain ⟨b0, o0, ea, hl0, _⟩ := X0.out.2.2.2 0 (List.length_pos_iff.2 h0)
                        rw [ea] at hj
                        have hj : b0 = j := Option.some.inj hj
                        have h1 := (P5.out.ro.blk j e).1
                        have h2 := P5.out.lo
                        have h3 := P5.out.fr.1
                        omega)).mono ?_
                    rintro e w8 ⟨out', rfl, r8, o8, m8⟩
                    have P8 := Lib.hid (Q7.out.stepR r8 m8)
                    have XO8 := Lib.hid (m8.keeps XO7.out (fun e => by have := hBf.out.2.2.2 _ e; omega))
                    have L8 := Lib.hid (L7.out.modB m8 (fun k hk e => by have := hBf.out.2.2.2 _ e; omega))
                    have O8 := Lib.hid o8
                    have O8b := Lib.hid (own_mod O7.out m8 (fun j hj e => by have := (O7.out.lt j hj).1; have := hBf.out.2.2.2 _ e; omega))
                    clear r8 o8 m8 Q7 O7 L7 XO7 y3 ly
                    go_wp2_with (fail)
                    refine (same_any (l1 := rsK M P M.length) (l2 := rsK M P M.length) (by have := rsK_le M P M.length; have := P5.out.fo.le; omega) O8b.out O8.out).mono ?_
                    rw [decide_eq_true rfl]
                    rintro e w9 ⟨rfl, b9⟩
                    have P9 := Lib.hid (P8.out.below b9)
                    have XO9 := Lib.hid (below_keeps b9 XO8.out (lt_of_obj XO8.out))
                    have L9 := Lib.hid (L8.out.calm b9)
                    have y3 : w9.cell? ⟨B, 3, none⟩ = some (.slice av P.length cv) := cell_of XO9.out rfl
                    have ly := lt_of_obj XO9.out
                    clear b9 P8 XO8 L8 O8 O8b
                    go_wp2_with (fail)
                    refine (kept_any _ P av _ P.length cv w9 L9.out (X0.out.below P9.out.bl) (by omega)).mono ?_
                    rintro e w10 ⟨rfl, b10⟩
                    have P7 := Lib.hid (P9.out.below b10)
                    clear b10 P9 XO9 L9 y3 ly P5 HW5 hBf HBB hBW hBw6
                    obtain ⟨M2, hM2⟩ : ∃ M2, M2 = tk M P M.length := ⟨_, rfl⟩
                    rw [← hM2] at P7
                    clear hM2
                    go_wp2_with (fail)
                    go_loopw [16] (fun i wr => ∃ t : Nat, t ≤ 5 ∧ i = .int .i64 t ∧ PH w f r v lv wv M2 M2 wr) (fun i _ => 5 - (intOf i).toNat)
                    case atStart => exact ⟨0, by omega, rfl, P7.out⟩
                    case round =>
                      clear P7
                      obtain ⟨t, ht, rfl, hPt⟩ := hrel
                      have PT := Lib.hid hPt
                      clear hPt
                      by_cases h5 : t < 5
                      · have A1 := Lib.hid (mtripped_any (t : Int) PT.out.fo)
                        have A2 := Lib.hid (fun W h => rtripped_any (w := W) (base := r) (r := r) (lv := lv) (wv := wv) (L := M2) (t : Int) h)
                        unfold MTr at A1
                        obtain ⟨Q, hQ⟩ : ∃ Q, Q = M2.any (isTr · (t : Int)) := ⟨_, rfl⟩
                        rw [← hQ] at A1 A2
                        clear hQ
                        go_wp2_with (fail)
                        refine A1.out.mono ?_
                        rintro e w8 ⟨rfl, b8⟩
                        have P8 := Lib.hid (PT.out.below b8)
                        clear b8 A1 PT
                        go_wp2_with (fail)
                        refine (A2.out _ P8.out.ro).mono ?_
                        rintro e _ ⟨rfl, rfl⟩
                        clear A2
                        cases Q with
                        | true =>
                          go_wp2_with (fail)
                          go_roundw
                          case rel => exact ⟨t + 1, by omega, by simp, P8.out⟩
                          case measure => simp [intOf]; omega
                        | false =>
                          go_wp2_with (fail)
                          go_roundw
                          case rel => exact ⟨t + 1, by omega, by simp, P8.out⟩
                          case measure => simp [intOf]; omega
                      · have ht5 : t = 5 := by omega
                        subst ht5
                        have hro := PT.out.ro.obj
                        obtain ⟨wa, wcp, hwv⟩ := slice_of PT.out.ro.wrow
                        have q1 : wr.cell? ⟨r, 1, none⟩ = some (.slice wa M2.length wcp) := by rw [← hwv]; exact cell_of hro rfl
                        have lr := lt_of_obj hro
                        have HWV := Lib.hid hwv
                        clear hro hwv
                        go_wp2_with (fail)
                        go_region_with ((first | (go_at_call 25; refine (mwatches_any (PT.out.below (Below.refl _ _).drew).fo).mono ?_; rintro e w9 ⟨out, rfl, b9, o9⟩; have P9 := Lib.hid ((PT.out.below (Below.refl _ _).drew).below b9); have O9 := Lib.hid o9; have q1 : w9.cell? ⟨r, 1, none⟩ = some (.slice wa M2.length wcp) := by { rw [← HWV.out]; exact cell_of P9.out.ro.obj rfl }; have lr := lt_of_obj P9.out.ro.obj; clear b9 o9) | (go_at_call 24; refine (sameW_any (l1 := M2) (l2 := M2) (by have := P9.out.fo.le; omega) O9.out (by rw [← HWV.out]; exact P9.out.ro.wrow)).mono ?_; rw [decide_eq_true rfl]; rintro e w10 ⟨rfl, b10⟩; have P10 := Lib.hid (P9.out.below b10); clear b10)))
                        all_goals
                          go_wp2_with (fail)
                          go_roundw
                          case rel => exact ⟨k + 1, by omega, by simp, M2, P10.out⟩
                          case measure => simp [intOf]; omega
              · have hkt : tn = k := by omega
                subst hkt
                go_wp2_with (fail)
                go_ret
                exact ⟨rfl, HP.out.bl⟩
      · refine (new_bad M2.out (by rw [← HN.out]; unfold maxLen; omega) hv).mono ?_
        rintro e w3 ⟨rfl, b3⟩
        have M3 := Lib.hid (HM.out.below (bl_step B2.out b3))
        have B3 := Lib.hid (bl_step B2.out b3)
        clear b3 M2 B2
        go_wp2_with (fail)
        refine (rnew_any M3.out).mono ?_
        rintro e w4 (⟨h, _⟩ | ⟨_, rfl, b4⟩)
        · exact absurd h hv
        · have B4 := Lib.hid (bl_step B3.out b4)
          clear b4 hv
          go_wp2_with (fail)
          go_ret
          exact ⟨rfl, B4.out⟩
theorem FaultsPlays_walk (a0 a1 : Value) (w : World) (w0 : Kit.SlIn [.inl .i64, .inl .i64, .inl .i64, .inl .i64, .inl .i64, .inl .i64, .inr false] w a0) (w1 : SlAct w a1) :
    Calls Try.prog 5 #[a0, a1] w fun e w' => e = .returned (.bool true) ∧ Below w.heap.size w w' := by
  obtain ⟨L, la, lc, hM, rfl, h1, h2, h3⟩ := slIn_ms2 w0
  obtain ⟨T, hT, htn⟩ := slAct_as w1
  obtain ⟨ta, tc, rfl, hN⟩ := as_an hT
  exact plays_any L T la lc L.length ta T.length tc w hM rfl h1 h2 h3 hN htn
end Go.Proofs.Ythgilipffdcddaa
