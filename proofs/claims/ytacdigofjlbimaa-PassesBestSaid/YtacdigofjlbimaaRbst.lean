/-
  The walks of the reference's best and Best. Conditions: those that each theorem names.
-/
import Derived.Test.YtacdigofjlbimaaRbet
namespace Go.Proofs.Ytacdigofjlbimaa
open Go.RowKit Kit
set_option linter.unusedVariables false
theorem rb_good {W : Nat → Wn} {m : Nat} {ok : List Nat → Bool} (hok : ∀ q, ok q = true → q.length ≤ 40) : ∀ (k : Nat) (p : List Nat), p.length ≤ 40 → (∀ i ∈ p, i < m) → (rbest W m ok k p).length ≤ 40 ∧ ∀ i ∈ rbest W m ok k p, i < m
  | 0, p, h1, h2 => ⟨h1, h2⟩
  | k + 1, p, h1, h2 => by
    show ((List.range m).foldl (rstep W ok p (rbest W m ok k)) p).length ≤ 40 ∧ ∀ i ∈ (List.range m).foldl (rstep W ok p (rbest W m ok k)) p, i < m
    rcases (rfold (W := W) ok p (rbest W m ok k) (List.range m) p).2.2 with h | ⟨i, hi, h3, h4⟩
    · rw [h]; exact ⟨h1, h2⟩
    · rw [h4]
      refine rb_good hok k _ (hok _ h3) (fun x hx => ?_)
      rcases List.mem_append.1 hx with hx | hx
      · exact h2 x hx
      · rw [List.mem_singleton.1 hx]; simpa using hi
/-- What has been found after j windows. -/
def foundTo (W : Nat → Wn) (m : Nat) (ok : List Nat → Bool) (k : Nat) (p : List Nat) (j : Nat) : List Nat :=
  match k with
  | 0 => p
  | k + 1 => (List.range j).foldl (rstep W ok p (rbest W m ok k)) p
theorem foundTo_zero (W : Nat → Wn) (m : Nat) (ok : List Nat → Bool) (k : Nat) (p : List Nat) : foundTo W m ok k p 0 = p := by cases k <;> rfl
theorem foundTo_all (W : Nat → Wn) (m : Nat) (ok : List Nat → Bool) (k : Nat) (p : List Nat) : foundTo W m ok k p m = rbest W m ok k p := by cases k <;> rfl
theorem foundTo_no {W : Nat → Wn} {m : Nat} {ok : List Nat → Bool} {k : Nat} {p : List Nat} {j : Nat} (h : ok (p ++ [j]) = false) : foundTo W m ok k p (j + 1) = foundTo W m ok k p j := by
  cases k with
  | zero => rfl
  | succ k =>
    show (List.range (j + 1)).foldl _ _ = (List.range j).foldl _ _
    rw [List.range_succ, List.foldl_append]
    simp [rstep, h]
theorem foundTo_yes {W : Nat → Wn} {m : Nat} {ok : List Nat → Bool} {k : Nat} {p : List Nat} {j : Nat} (h : ok (p ++ [j]) = true) : foundTo W m ok (k + 1) p (j + 1) = if better W (rbest W m ok k (p ++ [j])) (foundTo W m ok (k + 1) p j) = true then rbest W m ok k (p ++ [j]) else foundTo W m ok (k + 1) p j := by
  show (List.range (j + 1)).foldl _ _ = if better W _ ((List.range j).foldl _ _) = true then _ else (List.range j).foldl _ _
  rw [List.range_succ, List.foldl_append]
  simp [rstep, h]
theorem found_good {W : Nat → Wn} {m : Nat} {ok : List Nat → Bool} (hok : ∀ q, ok q = true → q.length ≤ 40) (k : Nat) (p : List Nat) (h1 : p.length ≤ 40) (h2 : ∀ i ∈ p, i < m) (j : Nat) (hj : j ≤ m) : (foundTo W m ok k p j).length ≤ 40 ∧ ∀ i ∈ foundTo W m ok k p j, i < m := by
  cases k with
  | zero => exact ⟨h1, h2⟩
  | succ k =>
    show ((List.range j).foldl (rstep W ok p (rbest W m ok k)) p).length ≤ 40 ∧ ∀ i ∈ (List.range j).foldl (rstep W ok p (rbest W m ok k)) p, i < m
    rcases (rfold (W := W) ok p (rbest W m ok k) (List.range j) p).2.2 with h | ⟨i, hi, h3, h4⟩
    · rw [h]; exact ⟨h1, h2⟩
    · rw [h4]
      refine rb_good hok k _ (hok _ h3) (fun x hx => ?_)
      rcases List.mem_append.1 hx with hx | hx
      · exact h2 x hx
      · rw [List.mem_singleton.1 hx]; have := List.mem_range.1 hi; omega
/-- A slice of indices that is a plan's. -/
def PL (w : World) (v : Value) (p : List Nat) : Prop := ∃ a n c, v = .slice a n c ∧ NS w a n c (zs p) ∧ (a = none → n = 0 ∧ c = 0)
theorem PL.below {w w' : World} {v : Value} {p : List Nat} (h : PL w v p) (hb : Below w.heap.size w w') : PL w' v p := by
  obtain ⟨a, n, c, h1, h2, h3⟩ := h
  exact ⟨a, n, c, h1, h2.below hb, h3⟩
theorem own_pl {w : World} {base n : Nat} {v : Value} {p : List Nat} (h : w.ownsRow base 3 1 v n ((zs p).map (Value.int .i64))) : PL w v p := by
  rcases h.2 with ⟨h1, h2⟩ | ⟨g, cap, cur, h1, _⟩
  · subst h2
    obtain ⟨a, c, h3, hN⟩ := own_ns h
    exact ⟨none, 0, 0, h1, by rw [h1] at h3; simp only [Value.slice.injEq] at h3; rw [← h3.1, ← h3.2.2] at hN; exact hN, fun _ => ⟨rfl, rfl⟩⟩
  · obtain ⟨a, c, h3, hN⟩ := own_ns h
    exact ⟨a, n, c, h3, hN, fun e => by rw [h1, e] at h3; cases h3⟩
def BstC (L : List Wn) (g b m : Int) (a : Option Addr) (n c : Nat) (k : Nat) : Prop := ∀ (p : List Nat) (v : Value) (w : World), WS w a n c L → PL w v p → p.length ≤ 40 → (∀ i ∈ p, i < n) → m.toNat ≤ k + p.length →
  Calls Try.prog 29 #[.slice a n c, .agg #[.int .i64 g, .int .i64 b, .int .i64 m], v] w fun e w' => ∃ v', e = .returned v' ∧ PL w' v' (rbest (wl L) n (fea (wl L) g b m) k p) ∧ Below w.heap.size w w'
set_option maxRecDepth 100000 in
set_option maxHeartbeats 6400000 in
theorem bst_of (L : List Wn) (g b m : Int) (a : Option Addr) (n c k : Nat) (hv : vL (wl L) n) (hr : vR g b m) (hn : n ≤ 40) (IH : ∀ k', k = k' + 1 → BstC L g b m a n c k') : BstC L g b m a n c k := by
  intro p v w hW hPL hp40 hpn hfuel
  obtain ⟨a2, n2, c2, rfl, hN, hz⟩ := hPL
  obtain ⟨ok, hok⟩ : ∃ ok, ok = fea (wl L) g b m := ⟨_, rfl⟩
  have HOK : Hid (∀ q, ok q = true → q.length ≤ 40) := Lib.hid (fun q h => by rw [hok] at h; have := fea_len q h; unfold vR at hr; omega)
  have HOM : Hid (∀ q, ok q = true → q.length ≤ m.toNat) := Lib.hid (fun q h => by rw [hok] at h; exact fea_len q h)
  have FA := Lib.hid (fun W q a' n' c' (h : WS W a n c L) (h' : NS W a' n' c' (zs q)) (hq : ∀ i ∈ q, i < n) (hl : n' ≤ 10000) => rfeas_any (g := g) (b := b) (m := m) h h' hv (zs_in hq) hl ⟨hr.1, hr.2.1⟩)
  simp only [pl_zs] at FA
  rw [← hok] at FA ⊢
  have BA := Lib.hid (fun W q1 q2 a1 n1 c1 a2 n2 c2 (h : WS W a n c L) h1 h2 hq1 hq2 hl1 hl2 => better_any L q1 q2 a n c a1 n1 c1 a2 n2 c2 W h h1 h2 hv hq1 hq2 hl1 hl2)
  have IH' : Hid (∀ k', k = k' + 1 → ∀ (p : List Nat) (v : Value) (w : World), WS w a n c L → PL w v p → p.length ≤ 40 → (∀ i ∈ p, i < n) → m.toNat ≤ k' + p.length →
    Calls Try.prog 29 #[.slice a n c, .agg #[.int .i64 g, .int .i64 b, .int .i64 m], v] w fun e w' => ∃ v', e = .returned v' ∧ PL w' v' (rbest (wl L) n ok k' p) ∧ Below w.heap.size w w') := Lib.hid (by rw [hok]; exact IH)
  have HFU := Lib.hid hfuel; have HPN := Lib.hid hpn
  have HW := Lib.hid hW; have HN := Lib.hid hN; have HZ := Lib.hid hz
  have hcap := hW.2.1
  have hcap2 := hW.2.2.1
  have hnc := hN.2.1
  have hnc2 := hN.2.2.1
  have hn2 : n2 = p.length := hN.1.trans (zs_len p)
  have HN2 := Lib.hid hn2
  have h240 : n2 ≤ 40 := by omega
  have HP40 := Lib.hid hp40
  unfold maxLen at hcap2 hnc2
  obtain ⟨i0, hi, hz0, hz1, hz2⟩ := info_parts inf3
  clear hW hN hz hok IH hfuel hpn hv hr hp40 hn2
  go_enter Try.func29, Try.ntmps29
  go_wp2_with (fail)
  go_loopw [7, 8, 9, 10] (fun fv i _ _ wr => ∃ j : Nat, j ≤ n ∧ i = .int .i64 j ∧ PL wr fv (foundTo (wl L) n ok k p j) ∧ Below w.heap.size w wr ∧ wr.heap[w.heap.size]? = some (.cells #[.int .i64 g, .int .i64 b, .int .i64 m] 24)) (fun _ i _ _ _ => n - (intOf i).toNat)
  case atStart => exact ⟨0, by omega, rfl, by rw [foundTo_zero]; exact ⟨_, _, _, rfl, HN.out.below (bl_alloc (Below.refl _ _) _), HZ.out⟩, bl_alloc (Below.refl _ _) _, hp_new w _⟩
  case round =>
    obtain ⟨j, hj, rfl, hF, hB, hO⟩ := hrel
    have HF := Lib.hid hF; have HB := Lib.hid hB; have HO := Lib.hid hO
    have hws := hB.size
    clear hF hB hO
    by_cases hlt : j < n
    · have ER : Hid ((wr.alloc (.cells #[] 3)).ownsRow wr.heap.size 3 1 (.slice (some ⟨wr.heap.size, 0, none⟩) 0 0) 0 []) := Lib.hid (empty_row wr 3 1 wr.heap.size (Nat.le_refl _))
      have HN1 := Lib.hid ((HN.out.below HB.out).below (bl_alloc (Below.refl _ _) (.cells #[] 3)))
      obtain ⟨af, nf, cf, hfv, HNF, hzf⟩ := HF.out
      subst hfv
      have HNF := Lib.hid HNF
      have HZF := Lib.hid hzf
      clear HF hzf
      go_wp2_with (first
        | (at_builtin; refine wpList_append_own_any _ rfl _ _ 28 rfl wr.heap.size 3 i0 _ 1 8 Try.underlying28 hi hz0 hz1 hz2 rfl (by decide) _ 0 [] rfl ER.out a2 n2 c2 ((zs p).map (Value.int .i64)) rfl (by rw [List.length_map, zs_len, HN2.out, Nat.mul_one]) HZ.out (by rintro ad rfl; exact HN1.out.src) (ints_oneCell _ _) (by unfold maxLen; omega) (by omega) (by simp) ?_; intro v5 w5 hown5 hg5; replace hg5 := Lib.hid hg5; rw [Nat.zero_add, List.nil_append] at hown5; replace hown5 := Lib.hid hown5)
        | (at_builtin; refine wpList_append_own _ rfl _ _ 28 rfl wr.heap.size 3 i0 _ 1 8 Try.underlying28 hi hz0 hz1 hz2 rfl (by decide) _ n2 _ rfl (hown5.out.alloc _) ⟨w5.heap.size, 0, none⟩ 1 1 [_] rfl rfl (cells_new w5 [_] 3) (by simp [Value.oneCell']) (by unfold maxLen; omega) (by omega) (by have := hg5.out.size; simp at this ⊢; omega) ?_; intro v6 w6 hown6 hg6 _; replace hg6 := Lib.hid hg6; replace hown6 := Lib.hid hown6; have b1 : Below wr.heap.size wr (wr.alloc (.cells #[] 3)) := bl_alloc (Below.refl _ _) _; have b2 : Below wr.heap.size wr w5 := b1.grown hg5.out b1.size (fun x e => (ER.out.lt x e).1); have ow5 := hown5.out.alloc (.cells #[Value.int .i64 (j : Int)] 3); have b3 : Below wr.heap.size wr (w5.alloc (.cells #[Value.int .i64 j] 3)) := bl_alloc b2 _; have B6 : Hid (Below wr.heap.size wr w6) := Lib.hid (b3.grown hg6.out b3.size (fun x e => (ow5.lt x e).1)); obtain ⟨a6, n6, c6, hv6, hN6, hz6⟩ := own_pl (p := p ++ [j]) (by simpa [zs] using hown6.out); subst hv6; have N6 := Lib.hid hN6; have Z6 := Lib.hid hz6; have hn6 : Hid (n6 = p.length + 1) := Lib.hid (by rw [hN6.1, zs_len]; simp); have O6 := Lib.hid (below_keeps B6.out HO.out (lt_of_obj HO.out)); have r0 : w6.cell? ⟨w.heap.size, 0, none⟩ = some (.int .i64 g) := cell_of O6.out rfl; have r1 : w6.cell? ⟨w.heap.size, 1, none⟩ = some (.int .i64 b) := cell_of O6.out rfl; have r2 : w6.cell? ⟨w.heap.size, 2, none⟩ = some (.int .i64 m) := cell_of O6.out rfl; have rl := lt_of_obj O6.out; clear b1 b2 b3 ow5 hg5 hg6 hown5 hown6 hN6 hz6))
      have BB6 := Lib.hid (bl_step HB.out B6.out)
      have QJ := Lib.hid (fun x (hx : x ∈ p ++ [j]) => show x < n by
        rcases List.mem_append.1 hx with hx | hx
        · exact HPN.out x hx
        · rw [List.mem_singleton.1 hx]; exact hlt)
      have hp40 := HP40.out
      have C6 := Lib.hid (FA.out w6 (p ++ [j]) a6 n6 c6 (HW.out.below BB6.out) N6.out QJ.out (by have := hn6.out; omega))
      have YN := Lib.hid (fun h => foundTo_no (W := wl L) (m := n) (ok := ok) (k := k) (p := p) (j := j) h)
      clear ER HN1 hp40
      rcases hok6 : ok (p ++ [j]) with _ | _
      · rw [hok6] at C6
        go_wp2_with (fail)
        refine C6.out.mono ?_
        rintro e w7 ⟨rfl, h7⟩
        have B7 := Lib.hid (bl_step B6.out h7)
        clear h7
        go_wp2_with (fail)
        go_roundw
        case rel => exact ⟨j + 1, by omega, by simp, by rw [YN.out hok6]; exact ⟨_, _, _, rfl, HNF.out.below B7.out, HZF.out⟩, bl_step HB.out B7.out, below_keeps B7.out HO.out (lt_of_obj HO.out)⟩
        case measure => simp [intOf]; omega
      · rw [hok6] at C6
        cases k with
        | zero =>
          exfalso
          have h1 := HOM.out _ hok6
          have h2 := HFU.out
          simp at h1
          omega
        | succ k =>
          have hq40 := HOK.out _ hok6
          have I7 := Lib.hid (fun W h1 h2 => IH'.out k rfl (p ++ [j]) (.slice a6 n6 c6) W h1 h2 hq40 QJ.out (by have := HFU.out; simp; omega))
          have YY := Lib.hid (foundTo_yes (W := wl L) (m := n) (k := k) hok6)
          obtain ⟨x40, xn⟩ := rb_good (W := wl L) (m := n) (ok := ok) HOK.out k (p ++ [j]) hq40 QJ.out
          obtain ⟨f40, fn⟩ := found_good (W := wl L) (m := n) (ok := ok) HOK.out (k + 1) p HP40.out HPN.out j hj
          have XN := Lib.hid xn
          have FN := Lib.hid fn
          clear xn fn
          obtain ⟨X, hX⟩ : ∃ X, Hid (X = rbest (wl L) n ok k (p ++ [j])) := ⟨_, Lib.hid rfl⟩
          obtain ⟨F, hF⟩ : ∃ F, Hid (F = foundTo (wl L) n ok (k + 1) p j) := ⟨_, Lib.hid rfl⟩
          rw [← hX.out] at I7 YY x40 XN
          rw [← hF.out] at YY f40 FN HNF
          have hnf : Hid (nf = F.length) := Lib.hid (by rw [HNF.out.1, zs_len])
          clear hX hF IH' FA YN
          go_wp2_with (fail)
          refine C6.out.mono ?_
          rintro e w7 ⟨rfl, h7⟩
          have B7 := Lib.hid (bl_step B6.out h7)
          have hs7 := h7.size
          have O7 := Lib.hid (below_keeps h7 O6.out rl)
          have N7 := Lib.hid (N6.out.below h7)
          have s0 : w7.cell? ⟨w.heap.size, 0, none⟩ = some (.int .i64 g) := cell_of O7.out rfl
          have s1 : w7.cell? ⟨w.heap.size, 1, none⟩ = some (.int .i64 b) := cell_of O7.out rfl
          have s2 : w7.cell? ⟨w.heap.size, 2, none⟩ = some (.int .i64 m) := cell_of O7.out rfl
          have sl := lt_of_obj O7.out
          clear h7 C6 r0 r1 r2 rl
          go_wp2_with (fail)
          refine (I7.out _ ((HW.out.below HB.out).below B7.out) ⟨_, _, _, rfl, N7.out, Z6.out⟩).mono ?_
          rintro e w8 ⟨v8, rfl, P8, h8⟩
          obtain ⟨a8, n8, c8, rfl, N8, z8⟩ := P8
          have N8 := Lib.hid N8
          have Z8 := Lib.hid z8
          have hn8 : n8 = X.length := by rw [N8.out.1, zs_len]
          have B8 := Lib.hid (bl_step B7.out h8)
          have l1 : n8 ≤ 10000 := by rw [hn8]; exact Nat.le_trans x40 (by decide)
          have l2 : nf ≤ 10000 := by rw [hnf.out]; exact Nat.le_trans f40 (by decide)
          have W8 := (HW.out.below HB.out).below B8.out
          have F8 := HNF.out.below B8.out
          have C9 := Lib.hid (BA.out w8 X F a8 n8 c8 af nf cf W8 N8.out F8 XN.out FN.out l1 l2)
          clear h8 z8 s0 s1 s2 sl I7 l1 l2 W8 F8 hn8 hnf
          go_wp2_with (fail)
          refine C9.out.mono ?_
          rintro e w9 ⟨rfl, h9⟩
          have B9 := Lib.hid (bl_step B8.out h9)
          have N9 := Lib.hid (N8.out.below h9)
          clear h9
          rcases hbb : better (wl L) X F with _ | _
          · rw [hbb] at YY
            go_wp2_with (fail)
            go_roundw
            case rel => exact ⟨j + 1, by omega, by simp, by rw [YY.out]; exact ⟨_, _, _, rfl, HNF.out.below B9.out, HZF.out⟩, bl_step HB.out B9.out, below_keeps B9.out HO.out (lt_of_obj HO.out)⟩
            case measure => simp [intOf]; omega
          · rw [hbb] at YY
            go_wp2_with (fail)
            go_roundw
            case rel => exact ⟨j + 1, by omega, by simp, by rw [YY.out]; exact ⟨_, _, _, rfl, N9.out, Z8.out⟩, bl_step HB.out B9.out, below_keeps B9.out HO.out (lt_of_obj HO.out)⟩
            case measure => simp [intOf]; omega
    · have hjn : n = j := by omega
      subst hjn
      rw [foundTo_all] at HF
      go_wp2_with (fail)
      go_ret
      exact ⟨_, rfl, HF.out, HB.out⟩
theorem best29 (L : List Wn) (g b m : Int) (a : Option Addr) (n c : Nat) (hv : vL (wl L) n) (hr : vR g b m) (hn : n ≤ 40) : ∀ k, BstC L g b m a n c k
  | 0 => bst_of L g b m a n c 0 hv hr hn (fun k' h => by omega)
  | k + 1 => bst_of L g b m a n c (k + 1) hv hr hn (fun k' h => by
      have e : k' = k := by omega
      rw [e]
      exact best29 L g b m a n c hv hr hn k)
end Go.Proofs.Ytacdigofjlbimaa
