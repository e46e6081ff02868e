/-
  The walk of the law PassesGreatest. Conditions: none beyond arguments that can be read.
-/
import Derived.Test.YtacdigofjlbimaaVal
namespace Go.Proofs.Ytacdigofjlbimaa
open Go.RowKit Kit
set_option linter.unusedVariables false
theorem zs_at {p : List Nat} {i : Nat} (h : i < p.length) : pv (zs p) i = ((p.getD i 0 : Nat) : Int) := by
  unfold pv zs
  rw [List.getD_eq_getElem?_getD, List.getElem?_map, List.getD_eq_getElem?_getD, List.getElem?_eq_getElem h]
  rfl
theorem getD_mem {p : List Nat} {i : Nat} (h : i < p.length) : p.getD i 0 ∈ p := by
  rw [List.getD_eq_getElem?_getD, List.getElem?_eq_getElem h]
  exact List.getElem_mem h
theorem pair_at {p : List Nat} {R : Nat → Nat → Prop} (h : p.Pairwise R) {k i : Nat} (hki : k < i) (hi : i < p.length) : R (p.getD k 0) (p.getD i 0) := by
  rw [List.getD_eq_getElem?_getD, List.getElem?_eq_getElem (by omega), List.getD_eq_getElem?_getD, List.getElem?_eq_getElem hi]
  exact List.pairwise_iff_getElem.1 h k i (by omega) hi hki
/-- No feasible plan has a greater value. -/
theorem no_greater {L : List Wn} {g b m : Int} (hE : ckE L g b m = 0) (Q : List Int) (h1 : chkE L g b m Q = 0) (h2 : chkE L 0 0 0 Q = 0) (h3 : feaV L g b m Q = true) : valV L Q ≤ value (wl L) (bestp (wl L) L.length g b m) := by
  obtain ⟨_, hv, hr⟩ := ckE_zero hE
  obtain ⟨_, _, hi⟩ := chkE_zero h1
  rw [valV_ok h2]
  rw [feaV_ok h1] at h3
  refine atleast_value (best_most hv hr (pl Q) (fun i hm => ?_) h3)
  unfold pl at hm
  obtain ⟨x, hx, rfl⟩ := List.mem_map.1 hm
  obtain ⟨k, hk, rfl⟩ := List.getElem_of_mem hx
  have := hi k hk
  unfold pv at this
  rw [List.getD_eq_getElem?_getD, List.getElem?_eq_getElem hk] at this
  simp at this
  omega
set_option maxRecDepth 100000 in
set_option maxHeartbeats 6400000 in
theorem PassesGreatest_walk (a0 : Value) (a1_0 : Int) (a1_1 : Int) (a1_2 : Int) (a2 : Value) (w : World) (w0 : Kit.SlIn [.inl .i64, .inl .i64, .inl .i64, .inl .i64, .inl .i64] w a0) (w1_0 : (Lit.int .i64 a1_0).wf = true) (w1_1 : (Lit.int .i64 a1_1).wf = true) (w1_2 : (Lit.int .i64 a1_2).wf = true) (w2 : Kit.SlIn [.inl .i64] w a2) :
    Calls Try.prog 5 #[a0, .agg #[.int .i64 a1_0, .int .i64 a1_1, .int .i64 a1_2], a2] w fun e w' => e = .returned (.bool true) ∧ Below w.heap.size w w' := by
  obtain ⟨a, n, c, L, rfl, hW, _⟩ := slIn_ws w0
  obtain ⟨a', n', c', P, rfl, hP, _⟩ := slIn_ns w2
  clear w0 w1_0 w1_1 w1_2 w2
  have HW := Lib.hid hW; have HP := Lib.hid hP
  have hcap := hW.2.1
  have hcap2 := hW.2.2.1
  have hcap' := hP.2.1
  have hcap2' := hP.2.2.1
  unfold maxLen at hcap2 hcap2'
  have N1 := Lib.hid hW.1
  obtain ⟨g, hg⟩ : ∃ g, g = a1_0 := ⟨_, rfl⟩
  obtain ⟨b, hb⟩ : ∃ b, b = a1_1 := ⟨_, rfl⟩
  obtain ⟨m, hm⟩ : ∃ m, m = a1_2 := ⟨_, rfl⟩
  rw [← hg, ← hb, ← hm]
  clear hg hb hm hW hP
  have B0 := Lib.hid (bl_alloc (Below.refl w.heap.size w) (.cells #[.int .i64 g, .int .i64 b, .int .i64 m] 24))
  have V0 := Lib.hid (valid_any (L := L) (g := g) (b := b) (m := m) (HW.out.below B0.out))
  obtain ⟨T, hT⟩ : ∃ T, Hid (T = okV L g b m) := ⟨_, Lib.hid rfl⟩
  rw [← hT.out] at V0
  cases T with
  | false =>
    go_enter Try.func5, Try.ntmps5
    go_wp2_with (fail)
    refine V0.out.mono ?_
    rintro e w1 ⟨rfl, b1⟩
    have B1 := Lib.hid (bl_go B0.out b1 (by simp))
    clear b1
    go_wp2_with (fail)
    refine (awake_any _).mono ?_
    rintro e w2 ⟨rfl, b2⟩
    have B2 := Lib.hid (bl_step B1.out b2)
    clear b2
    go_wp2_with (fail)
    go_ret
    exact ⟨rfl, B2.out⟩
  | true =>
    by_cases h60 : 60 < n'
    · go_enter Try.func5, Try.ntmps5
      go_wp2_with (fail)
      refine V0.out.mono ?_
      rintro e w1 ⟨rfl, b1⟩
      have B1 := Lib.hid (bl_go B0.out b1 (by simp))
      clear b1
      go_wp2_with (fail)
      refine (awake_any _).mono ?_
      rintro e w2 ⟨rfl, b2⟩
      have B2 := Lib.hid (bl_step B1.out b2)
      clear b2
      go_wp2_with (fail)
      go_ret
      exact ⟨rfl, B2.out⟩
    · obtain ⟨h16, hE⟩ := okV_iff.1 hT.out.symm
      obtain ⟨_, hv, hr⟩ := ckE_zero hE
      have BL := Lib.hid (fun W (h : WS W a n c L) => bestl_any (g := g) (b := b) (m := m) h hT.out.symm)
      have NG := Lib.hid (no_greater hE P)
      have hlt := best_lt (W := wl L) (m := L.length) g b m
      have hord := (best_order hv hr).1
      have hnd := (best_order hv hr).2
      have hpos := best_pos hv hr
      have hpl := (best_chk hE).2.2.2.2
      have FA := Lib.hid (fun W h h' => feasible_any (L := L) (g := g) (b := b) (m := m) (P := P) (a := a) (n := n) (c := c) (a' := a') (n' := n') (c' := c') (w := W) h h')
      have VA := Lib.hid (fun W h h' => value_any (L := L) (P := P) (a := a) (n := n) (c := c) (a' := a') (n' := n') (c' := c') (w := W) h h')
      generalize bestp (wl L) L.length g b m = p at BL NG hlt hord hnd hpos hpl
      generalize value (wl L) p = V at BL NG
      generalize feaV L g b m P = F1 at FA NG
      generalize chkE L g b m P = C1 at FA NG
      generalize valV L P = V1 at VA NG
      generalize chkE L 0 0 0 P = C3 at VA NG
      rw [← N1.out] at hv hlt
      have HLT := Lib.hid hlt; have HORD := Lib.hid hord; have HND := Lib.hid hnd; have HPOS := Lib.hid hpos; have HV := Lib.hid hv
      have hn16 : n ≤ 16 := by rw [N1.out]; exact h16
      clear h16 hE hv hr hlt hord hnd hpos
      obtain ⟨pn, hpn⟩ : ∃ pn, pn = p.length := ⟨_, rfl⟩
      have HPN := Lib.hid hpn
      rw [← hpn] at BL hpl
      clear hpn
      go_enter Try.func5, Try.ntmps5
      go_wp2_with (fail)
      refine V0.out.mono ?_
      rintro e w1 ⟨rfl, b1⟩
      have B1 := Lib.hid (bl_go B0.out b1 (by simp))
      have O1 := Lib.hid (below_keeps b1 (hp_new w (.cells #[.int .i64 g, .int .i64 b, .int .i64 m] 24)) (by simp))
      clear b1 V0 B0
      have r0 : w1.cell? ⟨w.heap.size, 0, none⟩ = some (.int .i64 g) := cell_of O1.out rfl
      have r1 : w1.cell? ⟨w.heap.size, 1, none⟩ = some (.int .i64 b) := cell_of O1.out rfl
      have r2 : w1.cell? ⟨w.heap.size, 2, none⟩ = some (.int .i64 m) := cell_of O1.out rfl
      have rl := lt_of_obj O1.out
      go_wp2_with (fail)
      refine (BL.out _ (HW.out.below B1.out)).mono ?_
      rintro e w2 ⟨ap, cp, rfl, n2, b2⟩
      have B2 := Lib.hid (bl_step B1.out b2)
      have O2 := Lib.hid (below_keeps b2 O1.out rl)
      have N2 := Lib.hid n2
      have hpc := n2.2.1
      have hpc2 := n2.2.2.1
      unfold maxLen at hpc2
      clear b2 n2 B1 O1 r0 r1 r2 rl BL
      go_wp2_with (fail)
      go_loopw [10, 11] (fun i _ wr => ∃ k : Nat, k ≤ pn ∧ i = .int .i64 k ∧ ∃ q, wr = w2.drewN q) (fun i _ _ => pn - (intOf i).toNat)
      case atStart => exact ⟨0, by omega, rfl, 0, rfl⟩
      case round =>
        obtain ⟨k, hk, rfl, q, rfl⟩ := hrel
        by_cases hlt : k < pn
        · obtain ⟨bp, op, rfl, hbl, hc⟩ := N2.out.2.2.2 k hlt
          have hlt' : k < p.length := by rw [← HPN.out]; exact hlt
          rw [zs_at hlt'] at hc
          have hx := HLT.out _ (getD_mem hlt')
          have hps := HPOS.out _ (getD_mem hlt')
          obtain ⟨x, hxe⟩ : ∃ x, x = p.getD k 0 := ⟨_, rfl⟩
          rw [← hxe] at hc hx hps
          have HXE := Lib.hid hxe
          clear hxe
          obtain ⟨bw, ow, rfl, hblw, d0, d1, d2, d3, d4⟩ := (HW.out.below B2.out).2.2.2 x hx
          obtain ⟨X, hX⟩ : ∃ X, Hid (X = wl L x) := ⟨_, Lib.hid rfl⟩
          rw [← hX.out] at d0 d1 d2 d3 d4 hps
          obtain ⟨fr, tt, st, va, co⟩ := X
          simp only at d0 d1 d2 d3 d4 hps
          have hpv : (va == 0) = false := by simpa using hps
          clear hps
          go_wp2_with (fail)
          go_loopw [11] (fun i wr => ∃ j : Nat, j ≤ k ∧ i = .int .i64 j ∧ ∃ q, wr = w2.drewN q) (fun i _ => k - (intOf i).toNat)
          case atStart => exact ⟨0, by omega, rfl, q, rfl⟩
          case round =>
            obtain ⟨j, hj, rfl, q', rfl⟩ := hrel
            by_cases hjk : j < k
            · obtain ⟨bp', op', he, _, hc'⟩ := N2.out.2.2.2 j (by omega)
              simp only [Option.some.injEq, Addr.mk.injEq, and_true] at he
              obtain ⟨rfl, rfl⟩ := he
              have hlt2 : j < p.length := by omega
              rw [zs_at hlt2] at hc'
              have hy := HLT.out _ (getD_mem hlt2)
              have hyx := pair_at HORD.out hjk hlt'
              have hne := pair_at HND.out hjk hlt'
              rw [← HXE.out] at hyx hne
              obtain ⟨y, hye⟩ : ∃ y, y = p.getD j 0 := ⟨_, rfl⟩
              rw [← hye] at hc' hy hyx hne
              clear hye
              obtain ⟨bw', ow', he, _, e0, e1, e2, e3, e4⟩ := (HW.out.below B2.out).2.2.2 y hy
              simp only [Option.some.injEq, Addr.mk.injEq, and_true] at he
              obtain ⟨rfl, rfl⟩ := he
              obtain ⟨Y, hY⟩ : ∃ Y, Hid (Y = wl L y) := ⟨_, Lib.hid rfl⟩
              rw [← hY.out] at e0 e1 e2 e3 e4 hyx
              rw [← hX.out] at hyx
              obtain ⟨fr', tt', st', va', co'⟩ := Y
              simp only at e0 e1 e2 e3 e4 hyx
              have hn1 : ((x : Int) == (y : Int)) = false := by simp; omega
              have hd1 : decide (fr < tt') = false := by simp; omega
              clear hne hyx
              go_wp2_with (fail)
              go_quiet (fail)
              go_wp2_with (fail)
              go_roundw
              case rel => exact ⟨j + 1, by omega, by simp, _, rfl⟩
              case measure => simp [intOf]; omega
            · have hjj : j = k := by omega
              subst hjj
              clear hjk hj
              go_wp2_with (fail)
              go_roundw
              case rel => exact ⟨j + 1, by omega, by simp, _, rfl⟩
              case measure => simp [intOf]; omega
        · have hkn : pn = k := by omega
          subst hkn
          obtain ⟨W3, hW3⟩ : ∃ W3, W3 = w2.drewN q := ⟨_, rfl⟩
          have b3 : Below w2.heap.size w2 W3 := by rw [hW3]; exact below_drewN (Below.refl _ _) q
          have B3 := Lib.hid (bl_step B2.out b3)
          have O3 := Lib.hid (below_keeps b3 O2.out (lt_of_obj O2.out))
          have HW3 := Lib.hid hW3
          have r0 : W3.cell? ⟨w.heap.size, 0, none⟩ = some (.int .i64 g) := cell_of O3.out rfl
          have r1 : W3.cell? ⟨w.heap.size, 1, none⟩ = some (.int .i64 b) := cell_of O3.out rfl
          have r2 : W3.cell? ⟨w.heap.size, 2, none⟩ = some (.int .i64 m) := cell_of O3.out rfl
          have rl := lt_of_obj O3.out
          have rl2 := lt_of_obj O2.out
          have s0 : w2.cell? ⟨w.heap.size, 0, none⟩ = some (.int .i64 g) := cell_of O2.out rfl
          have s1 : w2.cell? ⟨w.heap.size, 1, none⟩ = some (.int .i64 b) := cell_of O2.out rfl
          have s2 : w2.cell? ⟨w.heap.size, 2, none⟩ = some (.int .i64 m) := cell_of O2.out rfl
          clear b3 hW3
          go_wp2_with (fail)
          rw [← HW3.out]
          refine (FA.out _ (HW.out.below B3.out) (HP.out.below B3.out)).mono ?_
          rintro e w4 ⟨rfl, b4⟩
          have B4 := Lib.hid (bl_step B3.out b4)
          clear b4 r0 r1 r2 rl rl2 s0 s1 s2 B3 O3 FA
          go_wp2_with (fail)
          refine (VA.out _ (HW.out.below B4.out) (HP.out.below B4.out)).mono ?_
          rintro e w5 ⟨rfl, b5⟩
          have B5 := Lib.hid (bl_step B4.out b5)
          clear b5 B4 VA
          by_cases q1 : C1 = 0
          · subst q1
            by_cases q2 : C3 = 0
            · subst q2
              cases F1 with
              | true =>
                have hle := NG.out rfl rfl rfl
                go_wp2_with (fail)
                refine (awake_any _).mono ?_
                rintro e w6 ⟨rfl, b6⟩
                have B6 := Lib.hid (bl_step B5.out b6)
                clear b6
                go_wp2_with (fail)
                go_ret
                exact ⟨rfl, B6.out⟩
              | false =>
                go_wp2_with (fail)
                refine (awake_any _).mono ?_
                rintro e w6 ⟨rfl, b6⟩
                have B6 := Lib.hid (bl_step B5.out b6)
                clear b6
                go_wp2_with (fail)
                go_ret
                exact ⟨rfl, B6.out⟩
            · have hq : (C3 != 0) = true := by simpa using q2
              clear q2
              go_wp2_with (fail)
              refine (awake_any _).mono ?_
              rintro e w6 ⟨rfl, b6⟩
              have B6 := Lib.hid (bl_step B5.out b6)
              clear b6
              go_wp2_with (fail)
              go_ret
              exact ⟨rfl, B6.out⟩
          · have hq : (C1 != 0) = true := by simpa using q1
            clear q1
            go_wp2_with (fail)
            refine (awake_any _).mono ?_
            rintro e w6 ⟨rfl, b6⟩
            have B6 := Lib.hid (bl_step B5.out b6)
            clear b6
            go_wp2_with (fail)
            go_ret
            exact ⟨rfl, B6.out⟩
end Go.Proofs.Ytacdigofjlbimaa
