/-
  The walk of the law PassesPlans. Conditions: none beyond arguments that can be read.
-/
import Derived.Test.YtacdigofjlbimaaAwake
namespace Go.Proofs.Ytacdigofjlbimaa
open Go.RowKit Kit
set_option linter.unusedVariables false
theorem slIn_ns {w : World} {v : Value} (h : SlIn [.inl .i64] w v) : ∃ a n c P, v = .slice a n c ∧ NS w a n c P ∧ (a = none → n = 0 ∧ c = 0) := by
  obtain ⟨Y, h1, h2, h3⟩ := slIn_l h
  have hx : ∀ y ∈ Y, ∃ x : Int, y = [.int .i64 x] := fun y hy => by
    obtain ⟨p1, cs1, rfl, _, h5⟩ := scAll_int (h3 y hy)
    rw [scAll_nil h5]; exact ⟨p1, rfl⟩
  have key : ∀ Y : List (List Value), (∀ y ∈ Y, ∃ x : Int, y = [.int .i64 x]) → ∃ l : List Int, Y = l.map (fun x => [.int .i64 x]) := by
    intro Y
    induction Y with
    | nil => exact fun _ => ⟨[], rfl⟩
    | cons y Y ih =>
      intro hy
      obtain ⟨x, rfl⟩ := hy y (by simp)
      obtain ⟨X, rfl⟩ := ih (fun z hz => hy z (by simp [hz]))
      exact ⟨x :: X, rfl⟩
  obtain ⟨l, rfl⟩ := key Y hx
  rcases h1 with ⟨b, off, c, rfl, k1, k2, k3, k4⟩ | ⟨he, a, rfl⟩
  · refine ⟨some ⟨b, off, none⟩, l.length, c, l, by simp, ⟨rfl, by simpa using k1, k2, fun i hi => ⟨b, off, rfl, k3, ?_⟩⟩, fun e => by cases e⟩
    have hg : (l.map (fun x => [Value.int .i64 x]))[i]? = some [.int .i64 (pv l i)] := by
      rw [List.getElem?_map, pv_get hi]; rfl
    have := k4 i _ hg 0 (by simp)
    simpa using this
  · have : l = [] := by simpa using he
    subst this
    exact ⟨a, 0, 0, [], rfl, ⟨rfl, by simp, by simp, fun i hi => by omega⟩, fun _ => ⟨rfl, rfl⟩⟩
/-- 'append' onto the call's own row, whatever is appended: nil or not. -/
theorem wpList_append_own_any {P : Program} (w : World) {ops : Array Oper} {rest : List Oper} {o : Oper} {a : Act} {Q : Exit → Act → World → Prop} (hgd : o.guard = none) (s x : Operand) (t : TypeId)
    (ho : o.op = .call { callee := .builtin .append, args := #[s, x], argTypes := #[t, t] })
    (base : Nat) (e : TypeId) (i : TypeInfo) (z : Value) (size bytes : Nat) (ht : P.underlying t = some (.slice e)) (hi : P.info? e = some i) (hz : i.zero = some z)
    (hsize : i.size = size) (hby : i.bytes = bytes) (hzs : z.cells.size = size) (hsz : 0 < size)
    (v : Value) (n : Nat) (xs : List Value) (hs : a.eval s = v) (hown : w.ownsRow base e size v n xs)
    (ao : Option Addr) (m c : Nat) (news : List Value) (hx : a.eval x = .slice ao m c) (hl : news.length = m * size) (hnone : ao = none → m = 0 ∧ c = 0) (hnews : ∀ ad, ao = some ad → ∀ j u, news[j]? = some u → w.cell? (ad.add j) = some u) (h1 : ∀ u ∈ news, u.oneCell' = true)
    (h63 : n + m ≤ maxLen) (hbytes : (n + m) * bytes ≤ 140737488355328) (hbase : base ≤ w.heap.size)
    (h : ∀ v' w', w'.ownsRow base e size v' (n + m) (xs ++ news) → w.grownBy w' v.ownBlock → wpList P ops Q rest (a.put o.dst v') w') : wpList P ops Q (o :: rest) a w := by
  cases ao with
  | some ad => exact wpList_append_own w hgd s x t ho base e i z size bytes ht hi hz hsize hby hzs hsz v n xs hs hown ad m c news hx hl (hnews ad rfl) h1 h63 hbytes hbase (fun v' w' h1 h2 _ => h v' w' h1 h2)
  | none =>
    obtain ⟨rfl, rfl⟩ := hnone rfl
    have hnews : news = [] := List.eq_nil_of_length_eq_zero (by simpa using hl)
    subst hnews
    exact wpList_append_own_none hgd s x t ho base e i size ht hi v n xs hs hown hx (h v w (by simpa using hown) (World.grownBy.refl _ _))
theorem info39 : (Try.prog.info? 39).map (fun i => (i.zero, i.size, i.bytes)) = some (some (.agg #[.int .i64 0, .int .i64 0, .int .i64 0, .int .i64 0, .int .i64 0]), 5, 40) := by kernel_rfl
theorem cellsW_len (x : Wn) : (cellsW x).length = 5 := rfl
theorem ws_src {w : World} {ad : Addr} {n c : Nat} {L : List Wn} (h : WS w (some ad) n c L) : ∀ j u, (L.flatMap cellsW)[j]? = some u → w.cell? (ad.add j) = some u := by
  intro j u hu
  have hlen : (L.flatMap cellsW).length = L.length * 5 := flat_len cellsW_len L
  have hj := (List.getElem?_eq_some_iff.1 hu).1
  rw [hlen] at hj
  have hk : j / 5 < L.length := by omega
  have hg : L[j / 5]? = some (wl L (j / 5)) := by rw [wl, List.getD_eq_getElem?_getD, List.getElem?_eq_getElem hk]; rfl
  have e := flat_get (c := cellsW) (m := 5) cellsW_len L (j / 5) (j % 5) _ hg (by omega)
  rw [show j / 5 * 5 + j % 5 = j by omega, hu] at e
  obtain ⟨b, off, he, hl, hc⟩ := h.2.2.2 (j / 5) (by rw [h.1]; exact hk)
  simp only [Option.some.injEq] at he
  subst he
  rw [Addr.add_lit]
  obtain ⟨c0, c1, c2, c3, c4⟩ := hc
  have h5 : j % 5 = 0 ∨ j % 5 = 1 ∨ j % 5 = 2 ∨ j % 5 = 3 ∨ j % 5 = 4 := by omega
  rcases h5 with h5 | h5 | h5 | h5 | h5 <;> rw [h5] at e <;> simp only [cellsW, List.getElem?_cons_zero, List.getElem?_cons_succ, Option.some.injEq] at e <;> rw [e]
  · rw [show off + j = off + j / 5 * 5 by omega]; exact c0
  · rw [show off + j = off + j / 5 * 5 + 1 by omega]; exact c1
  · rw [show off + j = off + j / 5 * 5 + 2 by omega]; exact c2
  · rw [show off + j = off + j / 5 * 5 + 3 by omega]; exact c3
  · rw [show off + j = off + j / 5 * 5 + 4 by omega]; exact c4
theorem own_ws {w : World} {base n : Nat} {v : Value} {L : List Wn} (h : w.ownsRow base 39 5 v n (L.flatMap cellsW)) : ∃ a c, v = .slice a n c ∧ WS w a n c L := by
  have hl : n = L.length := by have := h.1; rw [flat_len (c := cellsW) (m := 5) cellsW_len] at this; omega
  rcases h.2 with ⟨h1, h2⟩ | ⟨g, cap, cur, h1, hb, hg, h3, h4, h5, h6⟩
  · subst h2
    exact ⟨none, 0, h1, hl, Nat.le_refl _, by simp [maxLen], fun i hi => by omega⟩
  · subst h1
    refine ⟨_, _, rfl, hl, by omega, by omega, fun i hi => ⟨g, 0, rfl, lt_of_obj hg, ?_⟩⟩
    have hgt : L[i]? = some (wl L i) := by rw [wl, List.getD_eq_getElem?_getD, List.getElem?_eq_getElem (by omega)]; rfl
    have e := fun k hk => flat_get (c := cellsW) (m := 5) cellsW_len L i k _ hgt hk
    rw [Nat.zero_add]
    exact ⟨own_cell h (e 0 (by omega)), own_cell h (e 1 (by omega)), own_cell h (e 2 (by omega)), own_cell h (e 3 (by omega)), own_cell h (e 4 (by omega))⟩
theorem empty_row (w : World) (t size base : Nat) (hb : base ≤ w.heap.size) : (w.alloc (.cells #[] t)).ownsRow base t size (.slice (some ⟨w.heap.size, 0, none⟩) 0 0) 0 [] :=
  ⟨by simp, .inr ⟨w.heap.size, 0, #[], rfl, hb, hp_new w _, Nat.le_refl _, by simp, by simp, by simp⟩⟩
set_option maxHeartbeats 3200000 in
theorem PassesPlans_walk (a0 : Value) (a1_0 : Int) (a1_1 : Int) (a1_2 : Int) (a2 : Value) (w : World) (w0 : Kit.SlIn [.inl .i64, .inl .i64, .inl .i64, .inl .i64, .inl .i64] w a0) (w1_0 : (Lit.int .i64 a1_0).wf = true) (w1_1 : (Lit.int .i64 a1_1).wf = true) (w1_2 : (Lit.int .i64 a1_2).wf = true) (w2 : Kit.SlIn [.inl .i64] w a2) :
    Calls Try.prog 4 #[a0, .agg #[.int .i64 a1_0, .int .i64 a1_1, .int .i64 a1_2], a2] w fun e w' => e = .returned (.bool true) ∧ Below w.heap.size w w' := by
  obtain ⟨a, n, c, L, rfl, hW, hz⟩ := slIn_ws w0
  obtain ⟨a', n', c', P, rfl, hP, hz'⟩ := slIn_ns w2
  clear w0 w1_0 w1_1 w1_2 w2
  have HW := Lib.hid hW; have HP := Lib.hid hP
  have hcap := hW.2.1
  have hcap2 := hW.2.2.1
  have hcap' := hP.2.1
  have hcap2' := hP.2.2.1
  unfold maxLen at hcap2 hcap2'
  have N1 := Lib.hid hW.1
  have HZ := Lib.hid hz
  obtain ⟨g, hg⟩ : ∃ g, g = a1_0 := ⟨_, rfl⟩
  obtain ⟨b, hb⟩ : ∃ b, b = a1_1 := ⟨_, rfl⟩
  obtain ⟨m, hm⟩ : ∃ m, m = a1_2 := ⟨_, rfl⟩
  rw [← hg, ← hb, ← hm]
  clear hg hb hm hW hP
  obtain ⟨W0, hW0⟩ : ∃ W0, W0 = w.alloc (.cells #[.int .i64 g, .int .i64 b, .int .i64 m] 24) := ⟨_, rfl⟩
  have HW0 := Lib.hid hW0
  have B0 : Hid (Below w.heap.size w W0) := Lib.hid (by rw [hW0]; exact bl_alloc (Below.refl _ _) _)
  have O0 : Hid (W0.heap[w.heap.size]? = some (.cells #[.int .i64 g, .int .i64 b, .int .i64 m] 24)) := Lib.hid (by rw [hW0]; exact hp_new w _)
  clear hW0
  by_cases h60 : 60 < n
  · go_enter Try.func4, Try.ntmps4
    go_wp2_with (fail)
    rw [← HW0.out]
    refine (awake_any _).mono ?_
    rintro e w1 ⟨rfl, b1⟩
    go_wp2_with (fail)
    go_ret
    exact ⟨rfl, bl_step B0.out b1⟩
  by_cases h60' : 60 < n'
  · go_enter Try.func4, Try.ntmps4
    go_wp2_with (fail)
    rw [← HW0.out]
    refine (awake_any _).mono ?_
    rintro e w1 ⟨rfl, b1⟩
    go_wp2_with (fail)
    go_ret
    exact ⟨rfl, bl_step B0.out b1⟩
  · obtain ⟨i0, hi, hz0, hz1, hz2⟩ := info_parts info39
    have one : ∀ u ∈ L.flatMap cellsW, u.oneCell' = true := by
      intro u hu
      obtain ⟨x, _, hx⟩ := List.mem_flatMap.1 hu
      simp only [cellsW, List.mem_cons, List.not_mem_nil, or_false] at hx
      rcases hx with rfl | rfl | rfl | rfl | rfl <;> rfl
    have ER : Hid (((w.alloc (.cells #[.int .i64 g, .int .i64 b, .int .i64 m] 24)).alloc (.cells #[] 39)).ownsRow w.heap.size 39 5 (.slice (some ⟨w.heap.size + 1, 0, none⟩) 0 0) 0 []) := Lib.hid (by
      have := empty_row (w.alloc (.cells #[.int .i64 g, .int .i64 b, .int .i64 m] 24)) 39 5 w.heap.size (by simp)
      rw [World.size_alloc] at this
      exact this)
    have HW1 := Lib.hid (HW.out.below (bl_alloc (bl_alloc (Below.refl w.heap.size w) (.cells #[.int .i64 g, .int .i64 b, .int .i64 m] 24)) (.cells #[] 39)))
    have ONE := Lib.hid one
    clear one HW0 hz
    go_enter Try.func4, Try.ntmps4
    go_wp2_with (at_builtin; refine wpList_append_own_any _ rfl _ _ 22 rfl w.heap.size 39 i0 _ 5 40 Try.underlying22 hi hz0 hz1 hz2 rfl (by decide) _ 0 [] rfl ER.out a n c (L.flatMap cellsW) rfl (by rw [flat_len (c := cellsW) (m := 5) cellsW_len, N1.out]) HZ.out (by rintro ad rfl; exact ws_src HW1.out) ONE.out (by unfold maxLen; omega) (by omega) (by simp; omega) ?_; intro v1 w1 hown1 hg1; replace hown1 := Lib.hid hown1; replace hg1 := Lib.hid hg1)
    have hg : ((w.alloc (.cells #[.int .i64 g, .int .i64 b, .int .i64 m] 24)).alloc (.cells #[] 39)).grownBy w1 (some (w.heap.size + 1)) := hg1.out
    have hB1 : Below w.heap.size w w1 := (bl_alloc (bl_alloc (Below.refl w.heap.size w) (.cells #[.int .i64 g, .int .i64 b, .int .i64 m] 24)) (.cells #[] 39)).grown hg (by simp; omega) (fun j e => by cases e; omega)
    have hO1 : w1.heap[w.heap.size]? = some (.cells #[.int .i64 g, .int .i64 b, .int .i64 m] 24) := (hg.block w.heap.size (by simp; omega) (by simp)).trans (hp_old (hp_new w _) _)
    have hown := hown1.out
    rw [Nat.zero_add, List.nil_append] at hown
    obtain ⟨a1, c1, rfl, hW1⟩ := own_ws hown
    have B1 := Lib.hid hB1; have O1 := Lib.hid hO1; have S1 := Lib.hid hW1
    clear hg hB1 hO1 hown hW1 hown1 hg1 ER HW1 ONE
    refine (lend_any P a' n' c' w1 (HP.out.below B1.out) (by omega) hz').mono ?_
    rintro e w2 ⟨v2, rfl, L2, b2⟩
    obtain ⟨a2, c2, rfl, hN2⟩ := L2.ns HP.out.1
    have B2 := Lib.hid (bl_step B1.out b2)
    have O2 := Lib.hid (below_keeps b2 O1.out (lt_of_obj O1.out))
    have S2 := Lib.hid (S1.out.below b2)
    have N2 := Lib.hid hN2
    have E2 := Lib.hid L2
    have FA := Lib.hid (fun W h h' => feasible_any (L := L) (g := g) (b := b) (m := m) (P := P) (a := a1) (n := n) (c := c1) (a' := a2) (n' := n') (c' := c2) (w := W) h h')
    have RF := Lib.hid (fun W h h' => rfeasible_any (L := L) (g := g) (b := b) (m := m) (P := P) (a := a) (n := n) (c := c) (a' := a') (n' := n') (c' := c') (w := W) h h')
    have VA := Lib.hid (fun W h h' => value_any (L := L) (P := P) (a := a1) (n := n) (c := c1) (a' := a2) (n' := n') (c' := c2) (w := W) h h')
    have RV := Lib.hid (fun W h h' => rvalueE_any (L := L) (P := P) (a := a) (n := n) (c := c) (a' := a') (n' := n') (c' := c') (w := W) h h')
    have CA := Lib.hid (fun W h => check_any L g b m a n c W h)
    have RC := Lib.hid (fun W h => rcheck_any L g b m a n c W h)
    generalize feaV L g b m P = F1 at FA RF
    generalize chkE L g b m P = C1 at FA RF
    generalize valV L P = V1 at VA RV
    generalize chkE L 0 0 0 P = C3 at VA RV
    generalize ckE L g b m = C4 at CA RC
    have hl2 := O2.out
    have r0 : w2.cell? ⟨w.heap.size, 0, none⟩ = some (.int .i64 g) := cell_of hl2 rfl
    have r1 : w2.cell? ⟨w.heap.size, 1, none⟩ = some (.int .i64 b) := cell_of hl2 rfl
    have r2 : w2.cell? ⟨w.heap.size, 2, none⟩ = some (.int .i64 m) := cell_of hl2 rfl
    have rl := lt_of_obj hl2
    clear b2 L2 hN2 S1 O1 B1 hl2
    go_wp2_with (fail)
    refine (FA.out _ S2.out N2.out).mono ?_
    rintro e w3 ⟨rfl, b3⟩
    have B3 := Lib.hid (bl_step B2.out b3)
    have O3 := Lib.hid (below_keeps b3 O2.out rl)
    have S3 := Lib.hid (S2.out.below b3)
    have N3 := Lib.hid (N2.out.below b3)
    have E3 := Lib.hid (E2.out.calm b3)
    have hl2 := O3.out
    clear r0 r1 r2 rl b3 B2 O2 S2 N2 E2 FA
    have r0 : w3.cell? ⟨w.heap.size, 0, none⟩ = some (.int .i64 g) := cell_of hl2 rfl
    have r1 : w3.cell? ⟨w.heap.size, 1, none⟩ = some (.int .i64 b) := cell_of hl2 rfl
    have r2 : w3.cell? ⟨w.heap.size, 2, none⟩ = some (.int .i64 m) := cell_of hl2 rfl
    have rl := lt_of_obj hl2
    clear hl2
    go_wp2_with (fail)
    refine (RF.out _ (HW.out.below B3.out) (HP.out.below B3.out)).mono ?_
    rintro e w4 ⟨rfl, b4⟩
    have B4 := Lib.hid (bl_step B3.out b4)
    have O4 := Lib.hid (below_keeps b4 O3.out rl)
    have S4 := Lib.hid (S3.out.below b4)
    have N4 := Lib.hid (N3.out.below b4)
    have E4 := Lib.hid (E3.out.calm b4)
    clear r0 r1 r2 rl b4 B3 O3 S3 N3 E3 RF
    go_wp2_with (fail)
    refine (VA.out _ S4.out N4.out).mono ?_
    rintro e w5 ⟨rfl, b5⟩
    have B5 := Lib.hid (bl_step B4.out b5)
    have O5 := Lib.hid (below_keeps b5 O4.out (lt_of_obj O4.out))
    have S5 := Lib.hid (S4.out.below b5)
    have E5 := Lib.hid (E4.out.calm b5)
    clear b5 B4 O4 S4 N4 E4 VA
    go_wp2_with (fail)
    refine (RV.out _ (HW.out.below B5.out) (HP.out.below B5.out)).mono ?_
    rintro e w6 ⟨rfl, b6⟩
    have B6 := Lib.hid (bl_step B5.out b6)
    have O6 := Lib.hid (below_keeps b6 O5.out (lt_of_obj O5.out))
    have S6 := Lib.hid (S5.out.below b6)
    have E6 := Lib.hid (E5.out.calm b6)
    have hc1 := S6.out.2.1
    have hc2 := S6.out.2.2.1
    unfold maxLen at hc2
    clear b6 B5 O5 S5 E5 RV
    go_wp2_with (fail)
    go_loopw [17] (fun i wr => ∃ k : Nat, k ≤ n ∧ i = .int .i64 k ∧ ∃ q, wr = w6.drewN q) (fun i _ => n - (intOf i).toNat)
    case atStart => exact ⟨0, by omega, rfl, 0, rfl⟩
    case round =>
      obtain ⟨k, hk, rfl, q, rfl⟩ := hrel
      by_cases hlt : k < n
      · obtain ⟨bb, off, rfl, hbl, d0, d1, d2, d3, d4⟩ := (HW.out.below B6.out).2.2.2 k hlt
        obtain ⟨bb', off', rfl, hbl', e0, e1, e2, e3, e4⟩ := S6.out.2.2.2 k hlt
        go_wp2_with (fail)
        go_quiet (fail)
        go_wp2_with (fail)
        go_roundw
        case rel => exact ⟨k + 1, by omega, by simp, _, rfl⟩
        case measure => simp [intOf]; omega
      · have hkn : k = n := by omega
        subst hkn
        obtain ⟨W7, hW7⟩ : ∃ W7, W7 = w6.drewN q := ⟨_, rfl⟩
        have b7 : Below w6.heap.size w6 W7 := by rw [hW7]; exact below_drewN (Below.refl _ _) q
        have B7 := Lib.hid (bl_step B6.out b7)
        have E7 := Lib.hid (E6.out.calm b7)
        have hO := below_keeps b7 O6.out (lt_of_obj O6.out)
        have W7L := Lib.hid (HW.out.below B7.out)
        have P7 := Lib.hid (HP.out.below B7.out)
        have r0 : W7.cell? ⟨w.heap.size, 0, none⟩ = some (.int .i64 g) := cell_of hO rfl
        have r1 : W7.cell? ⟨w.heap.size, 1, none⟩ = some (.int .i64 b) := cell_of hO rfl
        have r2 : W7.cell? ⟨w.heap.size, 2, none⟩ = some (.int .i64 m) := cell_of hO rfl
        have rl := lt_of_obj hO
        have HW7 := Lib.hid hW7
        clear b7 hO hW7 B6 O6 S6 E6
        go_wp2_with (fail)
        rw [← HW7.out]
        have KA := Lib.hid (fun x => kept_any _ P a' (.slice a2 n' c2) n' c' (ext W7 x) (E7.out.calm (below_ext W7 x)) (P7.out.below (below_ext W7 x)) (by omega))
        refine region_calm (by kernel_rfl) (by kernel_rfl) ?_
        repeat (go_big_quiet_step ((first | (go_at_call 19; exact calm_of (CA.out _ (W7L.out.below (below_ext _ _)))) | (go_at_call 9; exact calm_of (RC.out _ (W7L.out.below (below_ext _ _)))) | (go_at_call 20; exact calm_of (KA.out _)) | (go_at_call 10; exact calm_of (awake_any _)))))
        refine wpQuiet_nil ?_; intro w8 hw'; have hb8 := below_of_ext hw'; clear hw'
        have B8 := Lib.hid (bl_step B7.out hb8)
        clear hb8
        go_wp2_with (fail)
        go_ret
        exact ⟨rfl, B8.out⟩
end Go.Proofs.Ytacdigofjlbimaa
