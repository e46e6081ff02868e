/-
  Slices of ints as lists; the walks of the kit's SameInts, LendInts and KeptInts. Conditions: slices of at most 1000 elements.
-/
import Derived.Test.YtbfgpjpfhbbdfaaKitc
import Derived.Test.YtbfgpjpfhbbdfaaKite
import Derived.Test.YtbfgpjpfhbbdfaaProg
import Derived.Test.YtbfgpjpfhbbdfaaRows
import Derived.Laws.AppendOwnNone
import Derived.Laws.MakeOwn
namespace Go.Proofs.Ytbfgpjpfhbbdfaa
open Go.RowKit Kit
set_option linter.unusedVariables false
def Keep (w w' : World) : Prop := w.heap.size ≤ w'.heap.size ∧ ∀ b o v, w.cell? ⟨b, o, none⟩ = some v → w'.cell? ⟨b, o, none⟩ = some v
theorem Keep.refl (w : World) : Keep w w := ⟨Nat.le_refl _, fun _ _ _ h => h⟩
theorem Keep.trans {a b c : World} (h : Keep a b) (h' : Keep b c) : Keep a c := ⟨Nat.le_trans h.1 h'.1, fun x o v hv => h'.2 x o v (h.2 x o v hv)⟩
theorem keep_below {w w' : World} (h : Below w.heap.size w w') : Keep w w' := ⟨h.size, fun b o v hv => by
  have := World.block_lt_of_cell? w _ hv
  rw [h.cell (p := ⟨b, o, none⟩) this]; exact hv⟩
def pv (P : List Int) (i : Nat) : Int := P.getD i 0
def NS (w : World) (a : Option Addr) (n c : Nat) (P : List Int) : Prop :=
  n = P.length ∧ n ≤ c ∧ c ≤ maxLen ∧ ∀ i, i < n → ∃ b off, a = some ⟨b, off, none⟩ ∧ b < w.heap.size ∧ w.cell? ⟨b, off + i, none⟩ = some (.int .i64 (pv P i))
theorem NS.keep {w w' : World} {a : Option Addr} {n c : Nat} {P : List Int} (h : NS w a n c P) (hk : Keep w w') : NS w' a n c P := by
  refine ⟨h.1, h.2.1, h.2.2.1, fun i hi => ?_⟩
  obtain ⟨b, off, rfl, hl, hc⟩ := h.2.2.2 i hi
  exact ⟨b, off, rfl, Nat.lt_of_lt_of_le hl hk.1, hk.2 _ _ _ hc⟩
theorem NS.below {w w' : World} {a : Option Addr} {n c : Nat} {P : List Int} (h : NS w a n c P) (hb : Below w.heap.size w w') : NS w' a n c P := h.keep (keep_below hb)
theorem inf3 : (Try.prog.info? 3).map (fun i => (i.zero, i.size, i.bytes)) = some (some (.int .i64 0), 1, 8) := by kernel_rfl
theorem list_eq_of {X V : List Int} (hl : X.length = V.length) (h : ∀ i, i < X.length → pv X i = pv V i) : X = V := by
  apply List.ext_getElem hl
  intro i h1 h2
  have := h i h1
  unfold pv at this
  rwa [List.getD_eq_getElem?_getD, List.getD_eq_getElem?_getD, List.getElem?_eq_getElem h1, List.getElem?_eq_getElem h2] at this
theorem pv_get {X : List Int} {i : Nat} (h : i < X.length) : X[i]? = some (pv X i) := by
  unfold pv
  rw [List.getD_eq_getElem?_getD, List.getElem?_eq_getElem h]; rfl
theorem NS.src {w : World} {ad : Addr} {n c : Nat} {X : List Int} (h : NS w (some ad) n c X) : ∀ j u, (X.map (Value.int .i64))[j]? = some u → w.cell? (ad.add j) = some u := by
  intro j u hu
  rw [List.getElem?_map] at hu
  cases hx : X[j]? with
  | none => rw [hx] at hu; cases hu
  | some x =>
    rw [hx] at hu
    have hj := (List.getElem?_eq_some_iff.1 hx).1
    obtain ⟨b, off, he, hl, hc⟩ := h.2.2.2 j (by rw [h.1]; exact hj)
    simp only [Option.some.injEq] at he
    subst he
    rw [Addr.add_lit, hc]
    rw [pv_get hj] at hx
    cases hx
    exact hu
theorem own_ns {w : World} {base n : Nat} {v : Value} {X : List Int} (h : w.ownsRow base 3 1 v n (X.map (Value.int .i64))) : ∃ a c, v = .slice a n c ∧ NS w a n c X := by
  have hl : n = X.length := by have := h.1; simpa using this.symm
  rcases h.2 with ⟨h1, h2⟩ | ⟨g, cap, cur, h1, hb, hg, h3, h4, h5, h6⟩
  · subst h2
    exact ⟨none, 0, h1, hl, Nat.le_refl _, by simp [maxLen], fun i hi => by omega⟩
  · subst h1
    refine ⟨_, _, rfl, hl, by omega, by omega, fun i hi => ⟨g, 0, rfl, lt_of_obj hg, ?_⟩⟩
    rw [Nat.zero_add]
    exact own_cell h (by rw [List.getElem?_map, pv_get (by rw [← hl]; exact hi)]; rfl)
set_option maxHeartbeats 800000 in
theorem sameints_any (X V : List Int) (a a' : Option Addr) (n n' c c' : Nat) (w : World) (hX : NS w a n c X) (hV : NS w a' n' c' V) (hn : n ≤ 100000) (hn' : n' ≤ 100000) : Calls Try.prog 18 #[.slice a n c, .slice a' n' c'] w fun e w' => e = .returned (.bool (decide (X = V))) ∧ ∃ q, w' = w.drewN q := by
  obtain ⟨R, hR⟩ : ∃ R, Hid (decide (X = V) = R) := ⟨_, Lib.hid rfl⟩
  rw [hR.out]
  have N1 := Lib.hid hX.1; have HX := Lib.hid hX; have N2 := Lib.hid hV.1; have HV := Lib.hid hV
  have h1 := hX.2.1; have h2 := hX.2.2.1; have h3 := hV.2.1; have h4 := hV.2.2.1
  unfold maxLen at h2 h4
  clear hX hV
  by_cases hl : n = n'
  · subst hl
    have hne0 : ((n : Int) != (n : Int)) = false := by simp
    go_enter Try.func18, Try.ntmps18
    go_wp2_with (fail)
    go_loopw [5] (fun i wr => ∃ k : Nat, k ≤ n ∧ (∀ i, i < k → pv X i = pv V i) ∧ i = .int .i64 k ∧ ∃ q, wr = w.drewN q) (fun i _ => n - (intOf i).toNat)
    case atStart => exact ⟨0, by omega, by omega, rfl, 0, rfl⟩
    case round =>
      obtain ⟨k, hk, hall, rfl, q, rfl⟩ := hrel
      by_cases hlt : k < n
      · obtain ⟨b, off, rfl, hbl, hcell⟩ := HX.out.2.2.2 k hlt
        obtain ⟨b', off', rfl, hbl', hcell'⟩ := HV.out.2.2.2 k hlt
        obtain ⟨x, hx⟩ : ∃ x, Hid (x = pv X k) := ⟨_, Lib.hid rfl⟩
        obtain ⟨y, hy⟩ : ∃ x, Hid (x = pv V k) := ⟨_, Lib.hid rfl⟩
        rw [← hx.out] at hcell
        rw [← hy.out] at hcell'
        have HA := Lib.hid hall
        clear hall
        by_cases hxy : x = y
        · have hne : (x != y) = false := by simp [hxy]
          have HXY := Lib.hid hxy
          clear hxy
          go_wp2_with (fail)
          go_quiet (fail)
          go_wp2_with (fail)
          go_roundw
          case rel => exact ⟨k + 1, by omega, fun i hi => by
            rcases Nat.lt_succ_iff_lt_or_eq.1 hi with h | rfl
            · exact HA.out i h
            · rw [← hx.out, ← hy.out]; exact HXY.out, by simp, _, rfl⟩
          case measure => simp [intOf]; omega
        · have hne : (x != y) = true := by simp [hxy]
          have hz : R = false := by rw [← hR.out, decide_eq_false_iff_not]; exact fun h => hxy (by rw [hx.out, hy.out, h])
          subst hz
          clear hxy
          go_wp2_with (fail)
          go_quiet (fail)
          go_wp2_with (fail)
          go_ret
          exact ⟨rfl, _, World.drewN_drewN _ _ _⟩
      · obtain rfl : k = n := by omega
        have hz : R = true := by rw [← hR.out, decide_eq_true_eq]; exact list_eq_of (by rw [← N1.out, ← N2.out]) (fun i hi => hall i (by rw [N1.out]; exact hi))
        subst hz
        clear hall
        go_wp2_with (fail)
        go_ret
        exact ⟨rfl, q, rfl⟩
  · have hz : R = false := by rw [← hR.out, decide_eq_false_iff_not]; exact fun h => hl (by rw [N1.out, N2.out, h])
    subst hz
    have hne : ((n : Int) != (n' : Int)) = true := by simp; omega
    clear hl
    go_enter Try.func18, Try.ntmps18
    go_wp2_with (fail)
    go_ret
    exact ⟨rfl, 0, rfl⟩
/-- A slice that was lent: nil, or a row of its own with one cell more. -/
def Lent (base : Nat) (W : World) (a : Option Addr) (v : Value) (n : Nat) (X : List Int) : Prop :=
  (a = none ∧ n = 0 ∧ v = .slice none 0 0) ∨
  (a ≠ none ∧ ∃ g cap, v = .slice (some ⟨g, 0, none⟩) n cap ∧ W.ownsRow base 3 1 (.slice (some ⟨g, 0, none⟩) (n + 1) cap) (n + 1) (X.map (Value.int .i64) ++ [.int .i64 (-77177)]))
theorem Lent.calm {base : Nat} {W W' : World} {a : Option Addr} {v : Value} {n : Nat} {X : List Int} (h : Lent base W a v n X) (hb : Below W.heap.size W W') : Lent base W' a v n X := by
  rcases h with h | ⟨h1, g, cap, h2, h3⟩
  · exact .inl h
  · exact .inr ⟨h1, g, cap, h2, own_calm h3 hb⟩
theorem own_shorter {w : World} {base : Nat} {e : TypeId} {g cap n : Nat} {X : List Int} {y : Value} (h : w.ownsRow base e 1 (.slice (some ⟨g, 0, none⟩) (n + 1) cap) (n + 1) (X.map (Value.int .i64) ++ [y])) (hn : n = X.length) : NS w (some ⟨g, 0, none⟩) n cap X := by
  obtain ⟨cur, hg, h1, h2, h3, hs, ht⟩ := own_block h
  refine ⟨hn, by omega, by omega, fun i hi => ⟨g, 0, rfl, (Array.getElem?_eq_some_iff.1 hg).1, ?_⟩⟩
  rw [Nat.zero_add]
  refine own_cell h ?_
  rw [List.getElem?_append_left (by simp; omega), List.getElem?_map, pv_get (by rw [← hn]; exact hi)]
  rfl
theorem Lent.ns {base : Nat} {W : World} {a : Option Addr} {v : Value} {n : Nat} {X : List Int} (h : Lent base W a v n X) (hn : n = X.length) : ∃ a' c', v = .slice a' n c' ∧ NS W a' n c' X := by
  rcases h with ⟨h1, h2, h3⟩ | ⟨h1, g, cap, h2, h3⟩
  · subst h2
    exact ⟨none, 0, h3, hn, Nat.le_refl _, by simp [maxLen], fun i hi => by omega⟩
  · exact ⟨_, _, h2, own_shorter h3 hn⟩
set_option maxRecDepth 100000 in
theorem lend_any (X : List Int) (a : Option Addr) (n c : Nat) (w : World) (hX : NS w a n c X) (hn : n ≤ 1000) (hz : a = none → n = 0 ∧ c = 0) :
    Calls Try.prog 10 #[.slice a n c] w fun e w' => ∃ v, e = .returned v ∧ Lent w.heap.size w' a v n X ∧ Below w.heap.size w w' := by
  have hnil : ∀ W, (binOp .eql 22 (.slice a n c) (.slice none 0 0)).run Try.prog W = .ok (.bool a.isNone) W := fun W => Lib.run_eql_slice_nil W 22 3 a n c 0 0 Try.underlying22
  cases a with
  | none =>
    obtain ⟨rfl, rfl⟩ := hz rfl
    clear hX
    go_enter Try.func10, Try.ntmps10
    go_wp2_with (fail)
    go_ret
    exact ⟨_, rfl, .inl ⟨rfl, rfl, rfl⟩, Below.refl _ _⟩
  | some ad =>
    obtain ⟨i0, hi, hz0, hz1, hz2⟩ := info_parts inf3
    have N1 := Lib.hid hX.1
    have HX := Lib.hid hX
    have hcap := hX.2.1
    have hcap2 := hX.2.2.1
    unfold maxLen at hcap2
    clear hX hz
    go_enter Try.func10, Try.ntmps10
    go_wp2_with (first
      | (at_make; refine wpList_make_own _ rfl _ _ 22 rfl w.heap.size 3 i0 (.int .i64 0) 1 Try.underlying22 hi hz0 hz1 _ _ _ (n + 1) rfl rfl (by simp) (by rw [hz2]; omega) (by unfold maxLen; omega) (Nat.le_refl _) ?_; intro w1 hown1 hg1; have HX1 := Lib.hid (HX.out.below ((Below.refl _ _).grown hg1 (Nat.le_refl _) (fun k e => by cases e))); replace hg1 := Lib.hid hg1; replace hown1 := Lib.hid hown1)
      | (at_builtin; refine wpList_append_fits _ rfl _ _ 22 rfl w.heap.size 3 i0 1 Try.underlying22 hi hz1 w.heap.size 0 (n + 1) [] rfl hown1.out ad n c (X.map (Value.int .i64)) rfl (by rw [List.length_map, N1.out, Nat.mul_one]) HX1.out.src (ints_oneCell _ _) (by omega) ?_; intro w2 hown2 hg2; replace hg2 := Lib.hid hg2; rw [Nat.zero_add] at hown2 ⊢; rw [List.nil_append] at hown2; replace hown2 := Lib.hid hown2)
      | (at_builtin; refine wpList_append_fits _ rfl _ _ 22 rfl w.heap.size 3 i0 1 Try.underlying22 hi hz1 w.heap.size n (n + 1) _ rfl (hown2.out.alloc _) ⟨w2.heap.size, 0, none⟩ 1 1 [_] rfl rfl (cells_new w2 [_] 3) (by simp [Value.oneCell']) (Nat.le_refl _) ?_; intro w3 hown3 hg3; replace hg3 := Lib.hid hg3; replace hown3 := Lib.hid hown3))
    go_ret
    have q1 : Below w.heap.size w w1 := (Below.refl _ _).grown hg1.out (Nat.le_refl _) (fun k e => by cases e)
    have q2 : Below w.heap.size w w2 := q1.grown hg2.out q1.size (fun k e => by cases e; exact Nat.le_refl _)
    have q3 : Below w.heap.size w w3 := (bl_alloc q2 _).grown hg3.out (bl_alloc q2 _).size (fun k e => by cases e; exact Nat.le_refl _)
    exact ⟨_, rfl, .inr ⟨by simp, w.heap.size, n + 1, rfl, hown3.out⟩, q3⟩
set_option maxRecDepth 100000 in
theorem kept_any (base : Nat) (X : List Int) (a : Option Addr) (v : Value) (n c : Nat) (w : World) (hL : Lent base w a v n X) (hX : NS w a n c X) (hn : n ≤ 1000) :
    Calls Try.prog 13 #[v, .slice a n c] w fun e w' => e = .returned (.bool true) ∧ Below w.heap.size w w' := by
  obtain ⟨a', c', hv, hN⟩ := hL.ns hX.1
  have hnil : ∀ W, (binOp .eql 22 (.slice a n c) (.slice none 0 0)).run Try.prog W = .ok (.bool a.isNone) W := fun W => Lib.run_eql_slice_nil W 22 3 a n c 0 0 Try.underlying22
  have SA := Lib.hid (sameints_any X X a' a n n c' c w hN hX (by omega) (by omega))
  rw [decide_eq_true rfl] at SA
  rcases hL with ⟨rfl, rfl, rfl⟩ | ⟨ha, g, cap, hv2, ho⟩
  · simp only [Value.slice.injEq] at hv
    obtain ⟨rfl, _, rfl⟩ := hv
    clear hX hN
    go_enter Try.func13, Try.ntmps13
    go_wp2_with (fail)
    refine SA.out.mono ?_
    rintro e _ ⟨rfl, nq, rfl⟩
    have B3 := Lib.hid (below_drewN (Below.refl w.heap.size w) nq)
    go_wp2_with (fail)
    go_ret
    exact ⟨rfl, B3.out⟩
  · subst hv2
    simp only [Value.slice.injEq] at hv
    obtain ⟨rfl, _, rfl⟩ := hv
    obtain ⟨ad, rfl⟩ := Option.ne_none_iff_exists'.1 ha
    have hcell : w.cell? ⟨g, n, none⟩ = some (.int .i64 (-77177)) := own_cell ho (by rw [List.getElem?_append_right (by simp [hX.1])]; simp [hX.1])
    obtain ⟨cur, hg, h1, h2, h3, hs, ht⟩ := own_block ho
    unfold maxLen at h3
    have hle := hX.2.1
    clear hX hN ha ho hg hs ht
    go_enter Try.func13, Try.ntmps13
    go_wp2_with (fail)
    refine SA.out.mono ?_
    rintro e _ ⟨rfl, nq, rfl⟩
    have B3 := Lib.hid (below_drewN (Below.refl w.heap.size w) nq)
    obtain ⟨w3, hw3⟩ : ∃ w3, w3 = w.drewN nq := ⟨_, rfl⟩
    have hcell3 : w3.cell? ⟨g, n, none⟩ = some (.int .i64 (-77177)) := by rw [hw3]; exact hcell
    rw [← hw3] at B3 ⊢
    clear hw3 hcell
    go_wp2_with (fail)
    go_ret
    exact ⟨rfl, B3.out⟩

theorem slIn_ns {w : World} {v : Value} (h : SlIn [.inl .i64] w v) : ∃ a n c P, v = .slice a n c ∧ NS w a n c P ∧ (a = none → n = 0 ∧ c = 0) := by
  obtain ⟨Y, h1, h2, h3⟩ := slIn_l h
  have hx : ∀ y ∈ Y, ∃ x : Int, y = [.int .i64 x] := fun y hy => by
    obtain ⟨p1, cs1, rfl, _, h5⟩ := scAll_int (h3 y hy)
    rw [scAll_nil h5]; exact ⟨p1, rfl⟩
  have key : ∀ Y : List (List Value), (∀ y ∈ Y, ∃ x : Int, y = [.int .i64 x]) → ∃ l : List Int, Y = l.map (fun x => [.int .i64 x]) := by
    intro Y
    induction Y with
    | nil => exact fun _ => ⟨[], rfl⟩
    | cons y Y ih =>
      intro hy
      obtain ⟨x, rfl⟩ := hy y (by simp)
      obtain ⟨X, rfl⟩ := ih (fun z hz => hy z (by simp [hz]))
      exact ⟨x :: X, rfl⟩
  obtain ⟨l, rfl⟩ := key Y hx
  rcases h1 with ⟨b, off, c, rfl, k1, k2, k3, k4⟩ | ⟨he, a, rfl⟩
  · refine ⟨some ⟨b, off, none⟩, l.length, c, l, by simp, ⟨rfl, by simpa using k1, k2, fun i hi => ⟨b, off, rfl, k3, ?_⟩⟩, fun e => by cases e⟩
    have hg : (l.map (fun x => [Value.int .i64 x]))[i]? = some [.int .i64 (pv l i)] := by
      rw [List.getElem?_map, pv_get hi]; rfl
    have := k4 i _ hg 0 (by simp)
    simpa using this
  · have : l = [] := by simpa using he
    subst this
    exact ⟨a, 0, 0, [], rfl, ⟨rfl, by simp, by simp, fun i hi => by omega⟩, fun _ => ⟨rfl, rfl⟩⟩
end Go.Proofs.Ytbfgpjpfhbbdfaa
