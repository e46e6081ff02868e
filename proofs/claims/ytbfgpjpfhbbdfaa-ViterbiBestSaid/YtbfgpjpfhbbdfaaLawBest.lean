/-
  The walk of the law ViterbiBest. Conditions: none beyond arguments that can be read.
-/
import Derived.Test.YtbfgpjpfhbbdfaaFlip
namespace Go.Proofs.Ytbfgpjpfhbbdfaa
open Go.RowKit Kit
set_option linter.unusedVariables false
theorem info9 : (Try.prog.info? 9).map (fun i => (i.zero, i.size, i.bytes)) = some (some (.string ⟨#[]⟩), 1, 16) := by kernel_rfl
/-- The messages that are tried. -/
structure Tri (w2 : World) (z : Nat) (v : Value) (m k : Nat) (wr : World) : Prop where
  ex : ∃ T : List ByteArray, T.length = m ∧ (∀ x ∈ T, x.size = z) ∧ wr.ownsRow w2.heap.size 9 1 v m (T.map Value.string)
  below : Below w2.heap.size w2 wr
  pos : 0 < m
  few : m ≤ k + 3
theorem Tri.own {w2 wr : World} {z m k : Nat} {v : Value} (h : Tri w2 z v m k wr) : wr.ownsRow w2.heap.size 9 1 v m (h.ex.choose.map Value.string) := h.ex.choose_spec.2.2
theorem Tri.cell {w2 wr : World} {z m k g cap : Nat} (h : Tri w2 z (.slice (some ⟨g, 0, none⟩) m cap) m k wr) (j : Nat) (hj : j < m) : ∃ x : ByteArray, x.size = z ∧ wr.cell? ⟨g, j, none⟩ = some (.string x) := by
  obtain ⟨T, h1, h2, h3⟩ := h.ex
  exact ⟨T[j]'(by omega), h2 _ (List.getElem_mem _), own_cell h3 (by rw [List.getElem?_map, List.getElem?_eq_getElem (by omega)]; rfl)⟩
theorem Tri.calm {w2 wr w' : World} {z m k : Nat} {v : Value} (h : Tri w2 z v m k wr) (hb : Below wr.heap.size wr w') : Tri w2 z v m k w' := by
  obtain ⟨T, h1, h2, h3⟩ := h.ex
  exact ⟨⟨T, h1, h2, own_calm h3 hb⟩, bl_step h.below hb, h.pos, h.few⟩
theorem Tri.append {w2 wr w6 : World} {z m k : Nat} {v v6 : Value} (h : Tri w2 z v m k wr) {x : ByteArray} (hx : x.size = z) {o : Obj}
    (ho : w6.ownsRow w2.heap.size 9 1 v6 (m + 1) (h.ex.choose.map Value.string ++ [.string x])) (hg : (wr.alloc o).grownBy w6 v.ownBlock) : Tri w2 z v6 (m + 1) (k + 1) w6 where
  ex := ⟨h.ex.choose ++ [x], by simp [h.ex.choose_spec.1], fun y hy => by
    rcases List.mem_append.1 hy with hy | hy
    · exact h.ex.choose_spec.2.1 y hy
    · simp only [List.mem_singleton] at hy; rw [hy]; exact hx, by rw [List.map_append]; exact ho⟩
  below := (bl_alloc h.below o).grown hg (by have := h.below.size; simp; omega) (fun x e => ((h.own.alloc o).lt x e).1)
  pos := by omega
  few := by have := h.few; omega
theorem Tri.re {w2 wr : World} {z m k k' : Nat} {v : Value} (h : Tri w2 z v m k wr) (hk : m ≤ k' + 3) : Tri w2 z v m k' wr := ⟨h.ex, h.below, h.pos, hk⟩
theorem tr_new (w2 wr : World) (z : Nat) (a b : ByteArray) (ha : a.size = z) (hb : b.size = z) (hw : Below w2.heap.size w2 wr) : Tri w2 z (.slice (some ⟨wr.heap.size, 0, none⟩) 2 2) 2 0 (wr.alloc (.cells #[.string a, .string b] 9)) where
  ex := ⟨[a, b], rfl, by simp [ha, hb], ⟨by simp, .inr ⟨wr.heap.size, 2, _, rfl, hw.size, hp_new wr _, Nat.le_refl _, by unfold maxLen; omega, by simp, by simp⟩⟩⟩
  below := bl_alloc hw _
  pos := by omega
  few := by omega
theorem cells_newB (w : World) (l : List Value) (t : TypeId) (B : Nat) (hB : w.heap.size = B) : ∀ j u, l[j]? = some u → (w.alloc (.cells l.toArray t)).cell? ((⟨B, 0, none⟩ : Addr).add j) = some u := by subst hB; exact cells_new w l t
theorem z_str (w : World) (n : Nat) : (convert 37 9 (.slice (some ⟨w.heap.size, 0, none⟩) n n)).run Try.prog (w.alloc (.cells (bfn n fun _ => 0) 5)) = .ok (.string (strF (fun _ => 0) n)) (w.alloc (.cells (bfn n fun _ => 0) 5)) := bfn_str _ _ _ _ (hp_new w _)
theorem cut_size (a : ByteArray) (n : Nat) (h : n ≤ a.size) : (a.extract 0 n).size = n := by rw [ByteArray.size_extract]; omega
set_option maxRecDepth 100000 in
set_option maxHeartbeats 3200000 in
theorem ViterbiBest_walk (a0 : ByteArray) (a1 : Value) (a2 : ByteArray) (w : World) (w0 : a0.size ≤ maxLen) (w1 : Kit.SlIn [.inl .i8] w a1) (w2 : a2.size ≤ maxLen) :
    Calls Try.prog 5 #[.string a0, a1, .string a2] w fun e w' => e = .returned (.bool true) ∧ Below w.heap.size w w' := by
  obtain ⟨a, mm, c, rfl, hN⟩ := slIn_n8 w1
  have AW := Lib.hid awake_any
  clear w0 w1 w2
  by_cases h1 : 200 < a0.size
  · have d1 : decide ((200 : Int) < (a0.size : Int)) = true := by simp; omega
    clear h1 hN
    go_enter Try.func5, Try.ntmps5
    go_wp2_with (fail)
    refine (AW.out _).mono ?_
    rintro e w3 ⟨rfl, hb⟩
    have HB := Lib.hid hb
    clear hb
    go_wp2_with (fail)
    go_ret
    exact ⟨rfl, HB.out⟩
  have d1 : decide ((200 : Int) < (a0.size : Int)) = false := by simp; omega
  by_cases h2 : 5000 < mm
  · have d2 : decide ((5000 : Int) < (mm : Int)) = true := by simp; omega
    clear h1 h2 hN
    go_enter Try.func5, Try.ntmps5
    go_wp2_with (fail)
    refine (AW.out _).mono ?_
    rintro e w3 ⟨rfl, hb⟩
    have HB := Lib.hid hb
    clear hb
    go_wp2_with (fail)
    go_ret
    exact ⟨rfl, HB.out⟩
  have d2 : decide ((5000 : Int) < (mm : Int)) = false := by simp; omega
  by_cases h3 : 200 < a2.size
  · have d3 : decide ((200 : Int) < (a2.size : Int)) = true := by simp; omega
    clear h1 h2 h3 hN
    go_enter Try.func5, Try.ntmps5
    go_wp2_with (fail)
    refine (AW.out _).mono ?_
    rintro e w3 ⟨rfl, hb⟩
    have HB := Lib.hid hb
    clear hb
    go_wp2_with (fail)
    go_ret
    exact ⟨rfl, HB.out⟩
  have d3 : decide ((200 : Int) < (a2.size : Int)) = false := by simp; omega
  obtain ⟨z, hz⟩ : ∃ z, a0.size = z := ⟨_, rfl⟩
  obtain ⟨n, hn⟩ : ∃ n, n = 16 * z + 12 := ⟨_, rfl⟩
  have hz2 : z ≤ 200 := by omega
  have RA := Lib.hid (received_any a0 (by omega) a mm c w hN n (by rw [hz]; exact hn))
  have HN := Lib.hid hn
  have HZ := Lib.hid hz
  have mk := fun w : World => make37 w z (by omega)
  have cvz := fun w : World => z_str w z
  have ZS : Hid ((strF (fun _ => 0) z).size = z) := Lib.hid (strF_size _ _)
  generalize strF (fun _ => 0) z = zs at cvz ZS
  obtain ⟨i9, hi9, hz90, hz91, hz92⟩ := info_parts info9
  have ha2 : a2.size ≤ 200 := by omega
  clear h1 h2 h3 hN hn
  rw [hz] at d1
  go_enter Try.func5, Try.ntmps5
  go_wp2_with (fail)
  refine RA.out.mono ?_
  rintro e w2 ⟨v, L, rfl, hS⟩
  obtain ⟨nA, nC, rfl, N1⟩ := own_ns hS.2.2.1
  obtain ⟨vv, M, hP⟩ := dec_ex L z
  have D1 := Lib.hid (dec_ok L nA n nC z w2 N1 (by omega) HN.out hS.2.1 vv M hP)
  obtain ⟨F, hF⟩ : ∃ F : ByteArray → Int, F = fun d => sc (outF (bitAt d)) L n := ⟨_, rfl⟩
  have SC : Hid (∀ (d : ByteArray) w5, d.size = z → Below w2.heap.size w2 w5 → Calls Try.prog 14 #[.slice nA n nC, .string d] w5 fun e w' => e = .returned (.tuple #[.int .i64 (F d), .int .i64 0]) ∧ Below w5.heap.size w5 w') := Lib.hid (fun d w5 hd hb => by
    have := score_ok d L nA n nC w5 (N1.below hb) (by rw [hd]; omega) (by rw [hd]; exact HN.out) hS.2.1
    rw [hF]; exact this)
  have LW : Hid (∀ d : ByteArray, d.size = z → F d ≤ vv ∧ (F d = vv → Op.bytesLess d.toList (msg z M).toList = false)) := Lib.hid (fun d hd => by
    have := dec_law hP d hd
    rw [← HN.out] at this
    rw [hF]; exact this)
  have FM : F (msg z M) = vv := by rw [hF]; have := (dec_way hP).1; rw [← HN.out] at this; exact this
  have DZ := Lib.hid (msg_size z M)
  have hvb := P_bound hS.2.1 (8 * z) (8 * z + 6) 0 (vv, M) (by rw [hS.1, HN.out]; omega) hP
  simp only at hvb
  have B2 := Lib.hid hS.2.2.2
  generalize msg z M = dm at *
  have SM := Lib.hid (fun w5 h => SC.out dm w5 DZ.out h)
  rw [FM] at SM
  have hdz := DZ.out
  clear hS N1 hP hF FM RA
  go_wp2_with (fail)
  refine D1.out.mono ?_
  rintro e w3 ⟨rfl, b3⟩
  have B3 := Lib.hid b3
  clear b3 D1
  go_wp2_with (fail)
  refine (SM.out w3 B3.out).mono ?_
  rintro e w4 ⟨rfl, b4⟩
  have B4 := Lib.hid (bl_step B3.out b4)
  have mk4 := mk w4
  have cv4 := cvz w4
  have B5 := Lib.hid (bl_alloc B4.out (.cells (bfn z fun _ => 0) 5))
  obtain ⟨w5, hw5⟩ : ∃ w5, w4.alloc (.cells (bfn z fun _ => 0) 5) = w5 := ⟨_, rfl⟩
  obtain ⟨g4, hg4⟩ : ∃ g4, w4.heap.size = g4 := ⟨_, rfl⟩
  rw [hw5] at mk4 cv4 B5
  rw [hg4] at mk4 cv4
  have hws5 : w2.heap.size ≤ w5.heap.size := B5.out.size
  have T0 := Lib.hid (tr_new w2 w5 z a0 zs hz ZS.out B5.out)
  clear b4 SM B3 B4 mk cvz hw5 hg4
  by_cases h5 : z ≤ a2.size
  · have d5 : decide ((z : Int) ≤ (a2.size : Int)) = true := by simp; omega
    have OW := Lib.hid T0.out.own
    have CS := Lib.hid (cut_size a2 z h5)
    go_wp2_with (at_builtin; refine wpList_append_own _ rfl _ _ 38 rfl w2.heap.size 9 i9 _ 1 16 Try.underlying38 hi9 hz90 hz91 hz92 rfl (by decide) _ 2 _ rfl (OW.out.alloc _) ⟨w5.heap.size + 1, 0, none⟩ 1 1 [_] rfl rfl (cells_newB _ [_] 9 _ (by simp)) (by simp [Value.oneCell']) (by unfold maxLen; omega) (by omega) (by simp; omega) ?_; intro v6 w6 hown6 hg6 _; have T6 := Lib.hid (T0.out.append CS.out hown6 hg6); clear hown6 hg6)
    have TS := Lib.hid (T6.out.re (k' := 0) (by omega))
    clear T0 T6 OW CS h5 d5 mk4 cv4
    go_loopw [13, 14] (fun v i wr => ∃ k m : Nat, k ≤ 400 ∧ i = .int .i64 k ∧ Tri w2 z v m k wr) (fun _ i _ => 400 - (intOf i).toNat)
    case atStart => exact ⟨0, _, by omega, rfl, TS.out⟩
    case round =>
      clear TS
      obtain ⟨k, m, hk, rfl, hT⟩ := hrel
      by_cases hA : k < 8 * z
      · have dA : decide ((k : Int) < 8 * (z : Int)) = true := by simp; omega
        have dA' : decide (k < 8 * z) = true := by simp; omega
        by_cases hB : k < 400
        · have dB : decide ((k : Int) < 400) = true := by simp; omega
          have dB' : decide (k < 400) = true := by simp; omega
          have FL := Lib.hid (flip_any dm (k : Int) (by rw [DZ.out]; omega) wr)
          have HT := Lib.hid hT
          have hws := hT.below.size
          have hfew := hT.few
          clear hT
          go_wp2_with (fail)
          refine FL.out.mono ?_
          rintro e w7 ⟨⟨x, rfl, hx⟩, b7⟩
          have hxz : x.size = z := hx.trans DZ.out
          have T7 := Lib.hid (HT.out.calm b7)
          have OW := Lib.hid T7.out.own
          have hws7 : w2.heap.size ≤ w7.heap.size := T7.out.below.size
          have HX := Lib.hid hxz
          clear b7 HT FL hx hxz hws
          go_wp2_with (at_builtin; refine wpList_append_own _ rfl _ _ 38 rfl w2.heap.size 9 i9 _ 1 16 Try.underlying38 hi9 hz90 hz91 hz92 rfl (by decide) _ m _ rfl (OW.out.alloc _) ⟨w7.heap.size, 0, none⟩ 1 1 [_] rfl rfl (cells_new w7 [_] 9) (by simp [Value.oneCell']) (by unfold maxLen; omega) (by omega) (by simp; omega) ?_; intro v6 w6 hown6 hg6 _; have T6 := Lib.hid (T7.out.append HX.out hown6 hg6); clear hown6 hg6)
          exact ⟨⟨k + 1, m + 1, by omega, by go_num, T6.out⟩, by simp [intOf]; omega⟩
        · have dB : decide ((k : Int) < 400) = false := by simp; omega
          have dB' : decide (k < 400) = false := by simp; omega
          obtain ⟨g, cap, rfl, hcm⟩ : ∃ g cap, u13 = .slice (some ⟨g, 0, none⟩) m cap ∧ m ≤ cap ∧ cap ≤ maxLen := by
            rcases hT.own.2 with ⟨_, h0⟩ | ⟨g, cap, cur, rfl, _, _, h1, h2, _⟩
            · have := hT.pos; omega
            · exact ⟨g, cap, rfl, h1, h2⟩
          have hm5 : m ≤ 1000 := by have := hT.few; omega
          have HT := Lib.hid hT
          clear hT hcm
          go_wp2_with (fail)
          go_loopw [15] (fun i wr => ∃ j : Nat, j ≤ m ∧ i = .int .i64 j ∧ Tri w2 z (.slice (some ⟨g, 0, none⟩) m cap) m k wr) (fun i _ => m - (intOf i).toNat)
          case atStart => exact ⟨0, by omega, rfl, HT.out⟩
          case round =>
            clear HT
            obtain ⟨j, hj, rfl, hT⟩ := hrel
            by_cases hjm : j < m
            · obtain ⟨x, hxz, cx⟩ := hT.cell j hjm
              have dj : decide ((j : Int) < (m : Int)) = true := by simp; omega
              have dj' : decide (j < m) = true := by simp; omega
              have S1 := Lib.hid (SC.out x _ hxz hT.below)
              obtain ⟨l1, l2⟩ := LW.out x hxz
              have NX := Lib.hid (fun w7 (h : Below wr.heap.size wr w7) => hT.calm h)
              generalize F x = fx at S1 l1 l2
              have cx' := Lib.hid (fun w7 (h : Below wr.heap.size wr w7) (hg : g < wr.heap.size) => (h.cell (p := ⟨g, j, none⟩) hg).trans cx)
              have hgl : g < wr.heap.size := (own_lt hT.own).2
              have HGL := Lib.hid hgl
              have d5 : decide (vv < fx) = false := by simp; omega
              rcases (by omega : fx < vv ∨ fx = vv) with hlt | heq
              · have d6 : (fx == vv) = false := by simp; omega
                have d6' : decide (fx = vv) = false := by simp; omega
                clear hT l2
                go_wp2_with (fail)
                refine S1.out.mono ?_
                rintro e w7 ⟨rfl, b7⟩
                have T7 := Lib.hid (NX.out w7 b7)
                clear b7 NX
                go_wp2_with (fail)
                exact ⟨⟨j + 1, by omega, by go_num, T7.out⟩, by simp [intOf]; omega⟩
              · subst heq
                have d7 := l2 rfl
                clear hT l2
                go_wp2_with (fail)
                refine S1.out.mono ?_
                rintro e w7 ⟨rfl, b7⟩
                have T7 := Lib.hid (NX.out w7 b7)
                have c7 := cx'.out w7 b7 HGL.out
                clear b7 NX
                go_wp2_with (fail)
                exact ⟨⟨j + 1, by omega, by go_num, T7.out⟩, by simp [intOf]; omega⟩
            · have e : j = m := by omega
              subst e
              have dj : decide ((j : Int) < (j : Int)) = false := by simp
              have HB := Lib.hid hT.below
              clear hT
              go_wp2_with (fail)
              refine (AW.out _).mono ?_
              rintro e w8 ⟨rfl, b8⟩
              have B8 := Lib.hid (bl_step B2.out (bl_step HB.out b8))
              clear b8
              go_wp2_with (fail)
              go_ret
              exact ⟨rfl, B8.out⟩
      · have dA : decide ((k : Int) < 8 * (z : Int)) = false := by simp; omega
        have dA' : decide (k < 8 * z) = false := by simp; omega
        obtain ⟨g, cap, rfl, hcm⟩ : ∃ g cap, u13 = .slice (some ⟨g, 0, none⟩) m cap ∧ m ≤ cap ∧ cap ≤ maxLen := by
          rcases hT.own.2 with ⟨_, h0⟩ | ⟨g, cap, cur, rfl, _, _, h1, h2, _⟩
          · have := hT.pos; omega
          · exact ⟨g, cap, rfl, h1, h2⟩
        have hm5 : m ≤ 1000 := by have := hT.few; omega
        have HT := Lib.hid hT
        clear hT hcm
        go_wp2_with (fail)
        go_loopw [15] (fun i wr => ∃ j : Nat, j ≤ m ∧ i = .int .i64 j ∧ Tri w2 z (.slice (some ⟨g, 0, none⟩) m cap) m k wr) (fun i _ => m - (intOf i).toNat)
        case atStart => exact ⟨0, by omega, rfl, HT.out⟩
        case round =>
          clear HT
          obtain ⟨j, hj, rfl, hT⟩ := hrel
          by_cases hjm : j < m
          · obtain ⟨x, hxz, cx⟩ := hT.cell j hjm
            have dj : decide ((j : Int) < (m : Int)) = true := by simp; omega
            have dj' : decide (j < m) = true := by simp; omega
            have S1 := Lib.hid (SC.out x _ hxz hT.below)
            obtain ⟨l1, l2⟩ := LW.out x hxz
            have NX := Lib.hid (fun w7 (h : Below wr.heap.size wr w7) => hT.calm h)
            generalize F x = fx at S1 l1 l2
            have cx' := Lib.hid (fun w7 (h : Below wr.heap.size wr w7) (hg : g < wr.heap.size) => (h.cell (p := ⟨g, j, none⟩) hg).trans cx)
            have hgl : g < wr.heap.size := (own_lt hT.own).2
            have HGL := Lib.hid hgl
            have d5 : decide (vv < fx) = false := by simp; omega
            rcases (by omega : fx < vv ∨ fx = vv) with hlt | heq
            · have d6 : (fx == vv) = false := by simp; omega
              have d6' : decide (fx = vv) = false := by simp; omega
              clear hT l2
              go_wp2_with (fail)
              refine S1.out.mono ?_
              rintro e w7 ⟨rfl, b7⟩
              have T7 := Lib.hid (NX.out w7 b7)
              clear b7 NX
              go_wp2_with (fail)
              exact ⟨⟨j + 1, by omega, by go_num, T7.out⟩, by simp [intOf]; omega⟩
            · subst heq
              have d7 := l2 rfl
              clear hT l2
              go_wp2_with (fail)
              refine S1.out.mono ?_
              rintro e w7 ⟨rfl, b7⟩
              have T7 := Lib.hid (NX.out w7 b7)
              have c7 := cx'.out w7 b7 HGL.out
              clear b7 NX
              go_wp2_with (fail)
              exact ⟨⟨j + 1, by omega, by go_num, T7.out⟩, by simp [intOf]; omega⟩
          · have e : j = m := by omega
            subst e
            have dj : decide ((j : Int) < (j : Int)) = false := by simp
            have HB := Lib.hid hT.below
            clear hT
            go_wp2_with (fail)
            refine (AW.out _).mono ?_
            rintro e w8 ⟨rfl, b8⟩
            have B8 := Lib.hid (bl_step B2.out (bl_step HB.out b8))
            clear b8
            go_wp2_with (fail)
            go_ret
            exact ⟨rfl, B8.out⟩
  · have d5 : decide ((z : Int) ≤ (a2.size : Int)) = false := by simp; omega
    go_wp2_with (fail)
    obtain ⟨w6, hw6⟩ : ∃ w6, w5.alloc (.cells #[.string a0, .string zs] 9) = w6 := ⟨_, rfl⟩
    rw [hw6] at T0 ⊢
    have TS := T0
    clear T0 hw6 h5 d5 mk4 cv4
    go_loopw [13, 14] (fun v i wr => ∃ k m : Nat, k ≤ 400 ∧ i = .int .i64 k ∧ Tri w2 z v m k wr) (fun _ i _ => 400 - (intOf i).toNat)
    case atStart => exact ⟨0, _, by omega, rfl, TS.out⟩
    case round =>
      clear TS
      obtain ⟨k, m, hk, rfl, hT⟩ := hrel
      by_cases hA : k < 8 * z
      · have dA : decide ((k : Int) < 8 * (z : Int)) = true := by simp; omega
        have dA' : decide (k < 8 * z) = true := by simp; omega
        by_cases hB : k < 400
        · have dB : decide ((k : Int) < 400) = true := by simp; omega
          have dB' : decide (k < 400) = true := by simp; omega
          have FL := Lib.hid (flip_any dm (k : Int) (by rw [DZ.out]; omega) wr)
          have HT := Lib.hid hT
          have hws := hT.below.size
          have hfew := hT.few
          clear hT
          go_wp2_with (fail)
          refine FL.out.mono ?_
          rintro e w7 ⟨⟨x, rfl, hx⟩, b7⟩
          have hxz : x.size = z := hx.trans DZ.out
          have T7 := Lib.hid (HT.out.calm b7)
          have OW := Lib.hid T7.out.own
          have hws7 : w2.heap.size ≤ w7.heap.size := T7.out.below.size
          have HX := Lib.hid hxz
          clear b7 HT FL hx hxz hws
          go_wp2_with (at_builtin; refine wpList_append_own _ rfl _ _ 38 rfl w2.heap.size 9 i9 _ 1 16 Try.underlying38 hi9 hz90 hz91 hz92 rfl (by decide) _ m _ rfl (OW.out.alloc _) ⟨w7.heap.size, 0, none⟩ 1 1 [_] rfl rfl (cells_new w7 [_] 9) (by simp [Value.oneCell']) (by unfold maxLen; omega) (by omega) (by simp; omega) ?_; intro v6 w6 hown6 hg6 _; have T6 := Lib.hid (T7.out.append HX.out hown6 hg6); clear hown6 hg6)
          exact ⟨⟨k + 1, m + 1, by omega, by go_num, T6.out⟩, by simp [intOf]; omega⟩
        · have dB : decide ((k : Int) < 400) = false := by simp; omega
          have dB' : decide (k < 400) = false := by simp; omega
          obtain ⟨g, cap, rfl, hcm⟩ : ∃ g cap, u13 = .slice (some ⟨g, 0, none⟩) m cap ∧ m ≤ cap ∧ cap ≤ maxLen := by
            rcases hT.own.2 with ⟨_, h0⟩ | ⟨g, cap, cur, rfl, _, _, h1, h2, _⟩
            · have := hT.pos; omega
            · exact ⟨g, cap, rfl, h1, h2⟩
          have hm5 : m ≤ 1000 := by have := hT.few; omega
          have HT := Lib.hid hT
          clear hT hcm
          go_wp2_with (fail)
          go_loopw [15] (fun i wr => ∃ j : Nat, j ≤ m ∧ i = .int .i64 j ∧ Tri w2 z (.slice (some ⟨g, 0, none⟩) m cap) m k wr) (fun i _ => m - (intOf i).toNat)
          case atStart => exact ⟨0, by omega, rfl, HT.out⟩
          case round =>
            clear HT
            obtain ⟨j, hj, rfl, hT⟩ := hrel
            by_cases hjm : j < m
            · obtain ⟨x, hxz, cx⟩ := hT.cell j hjm
              have dj : decide ((j : Int) < (m : Int)) = true := by simp; omega
              have dj' : decide (j < m) = true := by simp; omega
              have S1 := Lib.hid (SC.out x _ hxz hT.below)
              obtain ⟨l1, l2⟩ := LW.out x hxz
              have NX := Lib.hid (fun w7 (h : Below wr.heap.size wr w7) => hT.calm h)
              generalize F x = fx at S1 l1 l2
              have cx' := Lib.hid (fun w7 (h : Below wr.heap.size wr w7) (hg : g < wr.heap.size) => (h.cell (p := ⟨g, j, none⟩) hg).trans cx)
              have hgl : g < wr.heap.size := (own_lt hT.own).2
              have HGL := Lib.hid hgl
              have d5 : decide (vv < fx) = false := by simp; omega
              rcases (by omega : fx < vv ∨ fx = vv) with hlt | heq
              · have d6 : (fx == vv) = false := by simp; omega
                have d6' : decide (fx = vv) = false := by simp; omega
                clear hT l2
                go_wp2_with (fail)
                refine S1.out.mono ?_
                rintro e w7 ⟨rfl, b7⟩
                have T7 := Lib.hid (NX.out w7 b7)
                clear b7 NX
                go_wp2_with (fail)
                exact ⟨⟨j + 1, by omega, by go_num, T7.out⟩, by simp [intOf]; omega⟩
              · subst heq
                have d7 := l2 rfl
                clear hT l2
                go_wp2_with (fail)
                refine S1.out.mono ?_
                rintro e w7 ⟨rfl, b7⟩
                have T7 := Lib.hid (NX.out w7 b7)
                have c7 := cx'.out w7 b7 HGL.out
                clear b7 NX
                go_wp2_with (fail)
                exact ⟨⟨j + 1, by omega, by go_num, T7.out⟩, by simp [intOf]; omega⟩
            · have e : j = m := by omega
              subst e
              have dj : decide ((j : Int) < (j : Int)) = false := by simp
              have HB := Lib.hid hT.below
              clear hT
              go_wp2_with (fail)
              refine (AW.out _).mono ?_
              rintro e w8 ⟨rfl, b8⟩
              have B8 := Lib.hid (bl_step B2.out (bl_step HB.out b8))
              clear b8
              go_wp2_with (fail)
              go_ret
              exact ⟨rfl, B8.out⟩
      · have dA : decide ((k : Int) < 8 * (z : Int)) = false := by simp; omega
        have dA' : decide (k < 8 * z) = false := by simp; omega
        obtain ⟨g, cap, rfl, hcm⟩ : ∃ g cap, u13 = .slice (some ⟨g, 0, none⟩) m cap ∧ m ≤ cap ∧ cap ≤ maxLen := by
          rcases hT.own.2 with ⟨_, h0⟩ | ⟨g, cap, cur, rfl, _, _, h1, h2, _⟩
          · have := hT.pos; omega
          · exact ⟨g, cap, rfl, h1, h2⟩
        have hm5 : m ≤ 1000 := by have := hT.few; omega
        have HT := Lib.hid hT
        clear hT hcm
        go_wp2_with (fail)
        go_loopw [15] (fun i wr => ∃ j : Nat, j ≤ m ∧ i = .int .i64 j ∧ Tri w2 z (.slice (some ⟨g, 0, none⟩) m cap) m k wr) (fun i _ => m - (intOf i).toNat)
        case atStart => exact ⟨0, by omega, rfl, HT.out⟩
        case round =>
          clear HT
          obtain ⟨j, hj, rfl, hT⟩ := hrel
          by_cases hjm : j < m
          · obtain ⟨x, hxz, cx⟩ := hT.cell j hjm
            have dj : decide ((j : Int) < (m : Int)) = true := by simp; omega
            have dj' : decide (j < m) = true := by simp; omega
            have S1 := Lib.hid (SC.out x _ hxz hT.below)
            obtain ⟨l1, l2⟩ := LW.out x hxz
            have NX := Lib.hid (fun w7 (h : Below wr.heap.size wr w7) => hT.calm h)
            generalize F x = fx at S1 l1 l2
            have cx' := Lib.hid (fun w7 (h : Below wr.heap.size wr w7) (hg : g < wr.heap.size) => (h.cell (p := ⟨g, j, none⟩) hg).trans cx)
            have hgl : g < wr.heap.size := (own_lt hT.own).2
            have HGL := Lib.hid hgl
            have d5 : decide (vv < fx) = false := by simp; omega
            rcases (by omega : fx < vv ∨ fx = vv) with hlt | heq
            · have d6 : (fx == vv) = false := by simp; omega
              have d6' : decide (fx = vv) = false := by simp; omega
              clear hT l2
              go_wp2_with (fail)
              refine S1.out.mono ?_
              rintro e w7 ⟨rfl, b7⟩
              have T7 := Lib.hid (NX.out w7 b7)
              clear b7 NX
              go_wp2_with (fail)
              exact ⟨⟨j + 1, by omega, by go_num, T7.out⟩, by simp [intOf]; omega⟩
            · subst heq
              have d7 := l2 rfl
              clear hT l2
              go_wp2_with (fail)
              refine S1.out.mono ?_
              rintro e w7 ⟨rfl, b7⟩
              have T7 := Lib.hid (NX.out w7 b7)
              have c7 := cx'.out w7 b7 HGL.out
              clear b7 NX
              go_wp2_with (fail)
              exact ⟨⟨j + 1, by omega, by go_num, T7.out⟩, by simp [intOf]; omega⟩
          · have e : j = m := by omega
            subst e
            have dj : decide ((j : Int) < (j : Int)) = false := by simp
            have HB := Lib.hid hT.below
            clear hT
            go_wp2_with (fail)
            refine (AW.out _).mono ?_
            rintro e w8 ⟨rfl, b8⟩
            have B8 := Lib.hid (bl_step B2.out (bl_step HB.out b8))
            clear b8
            go_wp2_with (fail)
            go_ret
            exact ⟨rfl, B8.out⟩
end Go.Proofs.Ytbfgpjpfhbbdfaa
