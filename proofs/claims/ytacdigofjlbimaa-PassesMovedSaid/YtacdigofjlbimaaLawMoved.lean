/-
  The walk of the law PassesMoved. Conditions: none beyond arguments that can be read.
-/
import Derived.Test.YtacdigofjlbimaaVal
namespace Go.Proofs.Ytacdigofjlbimaa
open Go.RowKit Kit
set_option linter.unusedVariables false
def mv (x : Wn) (d : Int) : Wn := ⟨x.fr + d, x.to + d, x.st, x.va, x.co⟩
theorem wl_map (L : List Wn) (d : Int) (i : Nat) (h : i < L.length) : wl (L.map (mv · d)) i = mv (wl L i) d := by
  unfold wl
  rw [List.getD_eq_getElem?_getD, List.getElem?_map, List.getElem?_eq_getElem h, List.getD_eq_getElem?_getD, List.getElem?_eq_getElem h]
  rfl
theorem take_map_succ (L : List Wn) (d : Int) (k : Nat) (h : k < L.length) : (L.take (k + 1)).map (mv · d) = (L.take k).map (mv · d) ++ [mv (wl L k) d] := by
  rw [List.take_add_one, wl, List.getD_eq_getElem?_getD, List.getElem?_eq_getElem h, List.map_append]
  rfl
set_option maxHeartbeats 3200000 in
theorem PassesMoved_walk (a0 : Value) (a1_0 : Int) (a1_1 : Int) (a1_2 : Int) (a2 : Int) (w : World) (w0 : Kit.SlIn [.inl .i64, .inl .i64, .inl .i64, .inl .i64, .inl .i64] w a0) (w1_0 : (Lit.int .i64 a1_0).wf = true) (w1_1 : (Lit.int .i64 a1_1).wf = true) (w1_2 : (Lit.int .i64 a1_2).wf = true) (w2 : (Lit.int .i64 a2).wf = true) :
    Calls Try.prog 7 #[a0, .agg #[.int .i64 a1_0, .int .i64 a1_1, .int .i64 a1_2], .int .i64 a2] w fun e w' => e = .returned (.bool true) ∧ Below w.heap.size w w' := by
  obtain ⟨a, n, c, L, rfl, hW, hz⟩ := slIn_ws w0
  clear w0 w1_0 w1_1 w1_2 w2 hz
  have HW := Lib.hid hW
  have hcap := hW.2.1
  have hcap2 := hW.2.2.1
  unfold maxLen at hcap2
  have N1 := Lib.hid hW.1
  obtain ⟨g, hg⟩ : ∃ g, g = a1_0 := ⟨_, rfl⟩
  obtain ⟨b, hb⟩ : ∃ b, b = a1_1 := ⟨_, rfl⟩
  obtain ⟨m, hm⟩ : ∃ m, m = a1_2 := ⟨_, rfl⟩
  obtain ⟨d, hd⟩ : ∃ d, d = a2 := ⟨_, rfl⟩
  rw [← hg, ← hb, ← hm, ← hd]
  clear hg hb hm hW hd
  have B0 := Lib.hid (bl_alloc (Below.refl w.heap.size w) (.cells #[.int .i64 g, .int .i64 b, .int .i64 m] 24))
  have V0 := Lib.hid (valid_any (L := L) (g := g) (b := b) (m := m) (HW.out.below B0.out))
  obtain ⟨T, hT⟩ : ∃ T, Hid (T = okV L g b m) := ⟨_, Lib.hid rfl⟩
  rw [← hT.out] at V0
  cases T with
  | false =>
    go_enter Try.func7, Try.ntmps7
    go_wp2_with (fail)
    refine V0.out.mono ?_
    rintro e w1 ⟨rfl, b1⟩
    have B1 := Lib.hid (bl_go B0.out b1 (by simp))
    clear b1
    go_wp2_with (fail)
    refine (awake_any _).mono ?_
    rintro e w2 ⟨rfl, b2⟩
    have B2 := Lib.hid (bl_step B1.out b2)
    clear b2
    go_wp2_with (fail)
    go_ret
    exact ⟨rfl, B2.out⟩
  | true =>
    obtain ⟨h16, hE⟩ := okV_iff.1 hT.out.symm
    obtain ⟨_, hv, hr⟩ := ckE_zero hE
    by_cases hd0 : d < -1099511627776
    · clear h16 hE hv hr
      go_enter Try.func7, Try.ntmps7
      go_wp2_with (fail)
      refine V0.out.mono ?_
      rintro e w1 ⟨rfl, b1⟩
      have B1 := Lib.hid (bl_go B0.out b1 (by simp))
      clear b1
      go_wp2_with (fail)
      refine (awake_any _).mono ?_
      rintro e w2 ⟨rfl, b2⟩
      have B2 := Lib.hid (bl_step B1.out b2)
      clear b2
      go_wp2_with (fail)
      go_ret
      exact ⟨rfl, B2.out⟩
    by_cases hd1 : 1099511627776 < d
    · clear h16 hE hv hr
      go_enter Try.func7, Try.ntmps7
      go_wp2_with (fail)
      refine V0.out.mono ?_
      rintro e w1 ⟨rfl, b1⟩
      have B1 := Lib.hid (bl_go B0.out b1 (by simp))
      clear b1
      go_wp2_with (fail)
      refine (awake_any _).mono ?_
      rintro e w2 ⟨rfl, b2⟩
      have B2 := Lib.hid (bl_step B1.out b2)
      clear b2
      go_wp2_with (fail)
      go_ret
      exact ⟨rfl, B2.out⟩
    · obtain ⟨i0, hi, hz0, hz1, hz2⟩ := info_parts info39
      have HV := Lib.hid hv; have HR := Lib.hid hr; have HE := Lib.hid hE
      have HD := Lib.hid (And.intro hd0 hd1)
      have hn16 : n ≤ 16 := by rw [N1.out]; exact h16
      have hdd : -1099511627776 ≤ d ∧ d ≤ 1099511627776 := by omega
      obtain ⟨q1, q2⟩ := hdd
      clear h16 hE hv hr hd0 hd1
      go_enter Try.func7, Try.ntmps7
      go_wp2_with (fail)
      refine V0.out.mono ?_
      rintro e w1 ⟨rfl, b1⟩
      have B1 := Lib.hid (bl_go B0.out b1 (by simp))
      have O1 := Lib.hid (below_keeps b1 (hp_new w (.cells #[.int .i64 g, .int .i64 b, .int .i64 m] 24)) (by simp))
      clear b1 V0 B0
      go_wp2_with (fail)
      go_loopw [7, 8, 9] (fun v i _ wr => ∃ k : Nat, k ≤ n ∧ i = .int .i64 k ∧ wr.ownsRow w.heap.size 39 5 v k (((L.take k).map (mv · d)).flatMap cellsW) ∧ Below w.heap.size w wr ∧ wr.heap[w.heap.size]? = some (.cells #[.int .i64 g, .int .i64 b, .int .i64 m] 24)) (fun _ i _ _ => n - (intOf i).toNat)
      case atStart => exact ⟨0, by omega, rfl, World.ownsRow_nil _ _ _ _, B1.out, O1.out⟩
      case round =>
        clear B1 O1
        obtain ⟨k, hk, rfl, hown, hB, hO⟩ := hrel
        have HO := Lib.hid hO; have HB := Lib.hid hB; have OW := Lib.hid hown
        have hws := hB.size
        clear hO hB hown
        by_cases hlt : k < n
        · obtain ⟨bb, off, rfl, hbl, c0, c1, c2, c3, c4⟩ := (HW.out.below HB.out).2.2.2 k hlt
          have hvx := HV.out k (by rw [← N1.out]; exact hlt)
          have Z := Lib.hid (take_map_succ L d k (by rw [← N1.out]; exact hlt))
          obtain ⟨x, hx⟩ : ∃ x, x = wl L k := ⟨_, rfl⟩
          rw [← hx] at c0 c1 c2 c3 c4 hvx Z
          clear hx
          obtain ⟨fr, tt, st, va, co⟩ := x
          unfold vW at hvx
          simp only at c0 c1 c2 c3 c4 hvx
          obtain ⟨v1, v2, v3, v4, v5, v6, v7, v8, v9⟩ := hvx
          have W1 := IntWalk.i64_in (fr + d) (by omega)
          have W2 := IntWalk.i64_in (tt + d) (by omega)
          have CN := cells_new (wr.alloc (.cells #[.int .i64 (fr + d), .int .i64 (tt + d), .int .i64 st, .int .i64 va, .int .i64 co] 39)) (cellsW (mv ⟨fr, tt, st, va, co⟩ d)) 39
          rw [World.size_alloc] at CN
          have CNH := Lib.hid CN
          have B6 : Hid (Below w.heap.size w ((wr.alloc (.cells #[.int .i64 (fr + d), .int .i64 (tt + d), .int .i64 st, .int .i64 va, .int .i64 co] 39)).alloc (.cells #[.int .i64 (fr + d), .int .i64 (tt + d), .int .i64 st, .int .i64 va, .int .i64 co] 39))) := Lib.hid (bl_alloc (bl_alloc HB.out _) _)
          have hl0 := lt_of_obj HO.out
          clear CN
          go_wp2_with (at_builtin; refine wpList_append_own _ rfl _ _ 22 rfl w.heap.size 39 i0 _ 5 40 Try.underlying22 hi hz0 hz1 hz2 rfl (by decide) _ k _ rfl ((OW.out.alloc _).alloc _) ⟨wr.heap.size + 1, 0, none⟩ 1 1 (cellsW (mv ⟨fr, tt, st, va, co⟩ d)) rfl rfl CNH.out (by simp [cellsW, Value.oneCell']) (by unfold maxLen; omega) (by omega) (by simp; omega) ?_; intro v' w6 hown' hgrow _; replace hown' := Lib.hid hown'; replace hgrow := Lib.hid hgrow)
          go_roundw
          case rel =>
            refine ⟨k + 1, by omega, by simp, ?_, ?_, ?_⟩
            · rw [Z.out, List.flatMap_append]; simpa using hown'.out
            · exact B6.out.grown hgrow.out (by simp; omega) (fun j e => (OW.out.lt j e).1)
            · exact (hgrow.out.block w.heap.size (by simp; omega) (own_ne_obj OW.out HO.out (by decide)).symm).trans (hp_old (hp_old HO.out _) _)
          case measure => simp [intOf]; omega
        · have hkn : n = k := by omega
          subst hkn
          have hfull : (L.take n).map (mv · d) = L.map (mv · d) := by rw [N1.out, List.take_length]
          have hown := OW.out
          rw [hfull] at hown
          obtain ⟨am, cm, hvm, hWM⟩ := own_ws hown
          subst hvm
          have HM := Lib.hid hWM
          have V1 := Lib.hid (valid_any (L := L.map (mv · d)) (g := g) (b := b) (m := m) HM.out)
          obtain ⟨T, hT2⟩ : ∃ T, Hid (T = okV (L.map (mv · d)) g b m) := ⟨_, Lib.hid rfl⟩
          rw [← hT2.out] at V1
          have r0 : wr.cell? ⟨w.heap.size, 0, none⟩ = some (.int .i64 g) := cell_of HO.out rfl
          have r1 : wr.cell? ⟨w.heap.size, 1, none⟩ = some (.int .i64 b) := cell_of HO.out rfl
          have r2 : wr.cell? ⟨w.heap.size, 2, none⟩ = some (.int .i64 m) := cell_of HO.out rfl
          have rl := lt_of_obj HO.out
          clear hown hWM OW hfull hlt
          cases T with
          | false =>
            go_wp2_with (fail)
            refine V1.out.mono ?_
            rintro e w2 ⟨rfl, b2⟩
            have B2 := Lib.hid (bl_step HB.out b2)
            clear b2 r0 r1 r2 rl
            go_wp2_with (fail)
            refine (awake_any _).mono ?_
            rintro e w3 ⟨rfl, b3⟩
            have B3 := Lib.hid (bl_step B2.out b3)
            clear b3
            go_wp2_with (fail)
            go_ret
            exact ⟨rfl, B3.out⟩
          | true =>
            obtain ⟨_, hE2⟩ := okV_iff.1 hT2.out.symm
            obtain ⟨_, hv2, _⟩ := ckE_zero hE2
            have hlm : (L.map (mv · d)).length = L.length := by simp
            rw [hlm] at hv2
            have MB : bestp (wl (L.map (mv · d))) L.length g b m = bestp (wl L) L.length g b m := moved_best (by' := d) (fun i hi => wl_map L d i hi) HV.out hv2 HR.out
            have MV : value (wl (L.map (mv · d))) (bestp (wl L) L.length g b m) = value (wl L) (bestp (wl L) L.length g b m) := (moved_same (gap := g) (by' := d) (fun i hi => wl_map L d i hi) none _ (by simp) (best_lt g b m)).2.2
            have C1 := Lib.hid (fun W (h : WS W a n c L) => bestl_any (g := g) (b := b) (m := m) h hT.out.symm)
            have C2 := Lib.hid (fun W (h : WS W am n cm (L.map (mv · d))) => bestl_any (g := g) (b := b) (m := m) h hT2.out.symm)
            rw [hlm, MB, MV] at C2
            have hpl := (best_chk HE.out).2.2.2.2
            generalize bestp (wl L) L.length g b m = p at C1 C2 hpl
            generalize value (wl L) p = V at C1 C2
            clear hE2 hv2 MB MV hlm
            go_wp2_with (fail)
            refine V1.out.mono ?_
            rintro e w2 ⟨rfl, b2⟩
            have B2 := Lib.hid (bl_step HB.out b2)
            have O2 := Lib.hid (below_keeps b2 HO.out rl)
            have M2 := Lib.hid (HM.out.below b2)
            clear b2 r0 r1 r2 rl HB HO HM V1
            have r0 : w2.cell? ⟨w.heap.size, 0, none⟩ = some (.int .i64 g) := cell_of O2.out rfl
            have r1 : w2.cell? ⟨w.heap.size, 1, none⟩ = some (.int .i64 b) := cell_of O2.out rfl
            have r2 : w2.cell? ⟨w.heap.size, 2, none⟩ = some (.int .i64 m) := cell_of O2.out rfl
            have rl := lt_of_obj O2.out
            go_wp2_with (fail)
            refine (C1.out _ (HW.out.below B2.out)).mono ?_
            rintro e w3 ⟨a3, c3, rfl, n3, b3⟩
            have B3 := Lib.hid (bl_step B2.out b3)
            have O3 := Lib.hid (below_keeps b3 O2.out rl)
            have M3 := Lib.hid (M2.out.below b3)
            have N3 := Lib.hid n3
            clear b3 n3 r0 r1 r2 rl B2 O2 M2 C1
            have r0 : w3.cell? ⟨w.heap.size, 0, none⟩ = some (.int .i64 g) := cell_of O3.out rfl
            have r1 : w3.cell? ⟨w.heap.size, 1, none⟩ = some (.int .i64 b) := cell_of O3.out rfl
            have r2 : w3.cell? ⟨w.heap.size, 2, none⟩ = some (.int .i64 m) := cell_of O3.out rfl
            have rl := lt_of_obj O3.out
            go_wp2_with (fail)
            refine (C2.out _ M3.out).mono ?_
            rintro e w4 ⟨a4, c4, rfl, n4, b4⟩
            have B4 := Lib.hid (bl_step B3.out b4)
            have N4 := Lib.hid (N3.out.below b4)
            have S4 := Lib.hid n4
            clear b4 n4 r0 r1 r2 rl B3 O3 M3 C2 N3
            go_wp2_with (fail)
            refine (sameints_any (zs p) (zs p) a3 a4 p.length p.length c3 c4 _ N4.out S4.out (by omega) (by omega)).mono ?_
            rw [decide_eq_true rfl]
            rintro e _ ⟨rfl, q, rfl⟩
            have B5 := Lib.hid (bl_step B4.out (below_drewN (Below.refl _ _) q))
            clear B4 N4 S4
            go_wp2_with (fail)
            refine (awake_any _).mono ?_
            rintro e w6 ⟨rfl, b6⟩
            have B6 := Lib.hid (bl_step B5.out b6)
            clear b6
            go_wp2_with (fail)
            go_ret
            exact ⟨rfl, B6.out⟩
end Go.Proofs.Ytacdigofjlbimaa
