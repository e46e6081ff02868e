/-
  The walks of Clear and Enable, and of the laws' comparing functions. Conditions: an object that New has made.
-/
import Derived.Test.YthgilipffdcddaaNew
import Derived.Laws.StructEq
namespace Go.Proofs.Ythgilipffdcddaa
open Go.RowKit Kit
set_option linter.unusedVariables false
theorem FO.slice {w : World} {base f : Nat} {v : Value} {L : List E} (h : FO w base f v L) : ∃ va cap, v = .slice va L.length cap ∧ (L = [] ∨ ∃ g, va = some ⟨g, 0, none⟩ ∧ Row w base g cap L) := by
  rcases h.row.2 with ⟨rfl, h0⟩ | ⟨g, cap, cur, rfl, _⟩
  · exact ⟨none, 0, by rw [h0], .inl (List.length_eq_zero_iff.1 h0)⟩
  · exact ⟨_, cap, rfl, .inr ⟨g, rfl, h.row⟩⟩
def MSet (W : World) (base f : Nat) (v : Value) (L : List E) (e : Ending) (wr : World) : Prop := e = .returned (.int .i64 0) ∧ FO wr base f v L ∧ Mod (fun j => v.ownBlock = some j) W wr
theorem FO.set {w w' : World} {base f g cap : Nat} {L L' : List E} (h : FO w base f (.slice (some ⟨g, 0, none⟩) L.length cap) L) (hl : L'.length = L.length) (hr : Row w' base g cap L') (hm : Mod (fun j => j = g) w w') (hok : ∀ e ∈ L', okE e) :
    FO w' base f (.slice (some ⟨g, 0, none⟩) L.length cap) L' ∧ Mod (fun j => (Value.slice (some ⟨g, 0, none⟩) L.length cap).ownBlock = some j) w w' := by
  have hgf := (h.blk g rfl).2.2
  refine ⟨⟨hm.keeps h.obj (fun e => hgf e.symm), ?_, hok, by rw [hl]; exact h.le, h.base⟩, hm.mono (fun k _ hk => by rw [hk]; rfl)⟩
  unfold Row at hr
  rw [hl] at hr ⊢
  exact hr
theorem set_ok {L : List E} {i : Nat} {e : E} (h : ∀ e ∈ L, okE e) (he : okE e) : ∀ x ∈ L.set i e, okE x := by
  intro x hx
  rcases List.mem_or_eq_of_mem_set hx with hx | rfl
  · exact h x hx
  · exact he
def clr (e : E) : E := { e with cnt := 0, tr := false }
def enb (e : E) (b : Bool) : E := { e with on := b, cnt := 0, tr := false }
set_option maxHeartbeats 1600000 in
theorem clear_in {w : World} {base f : Nat} {v : Value} {L : List E} {e : E} (k : Nat) (h : FO w base f v L) (hi : L[k]? = some e) :
    Calls Try.prog 16 #[.pointer (some ⟨f, 0, none⟩), .int .i64 k] w fun en w' => MSet w base f v (L.set k (clr e)) en w' := by
  have hlt : k < L.length := by
    rcases Nat.lt_or_ge k L.length with h | h
    · exact h
    · rw [List.getElem?_eq_none h] at hi; cases hi
  obtain ⟨va, cap, rfl, hL | ⟨g, rfl, hr⟩⟩ := h.slice
  · rw [hL] at hlt; simp at hlt
  have A := (at_any (k : Int) L.length cap (some ⟨g, 0, none⟩) h.obj h.le).1 g rfl (by omega) (by omega)
  rw [Int.toNat_natCast] at A
  obtain ⟨o, ho⟩ : ∃ o, o = k * 9 := ⟨_, rfl⟩
  rw [← ho] at A
  have c7 := row_cell hr hi 7 (by omega)
  have c8 := row_cell hr hi 8 (by omega)
  rw [← ho] at c7 c8
  simp only [ec, List.getElem?_cons_succ, List.getElem?_cons_zero] at c7 c8
  rw [show o + 8 = o + 7 + 1 from rfl] at c8
  have f7 := own_free hr (o + 7)
  have f8 := own_free hr (o + 7 + 1)
  have R : Hid (MSet w base f (.slice (some ⟨g, 0, none⟩) L.length cap) (L.set k (clr e)) (.returned (.int .i64 0)) ((w.setCell ⟨g, o + 7, none⟩ (.int .i64 0)).setCell ⟨g, o + 7 + 1, none⟩ (.bool false))) := Lib.hid (by
    subst ho
    have r1 := row_set hr hi 7 (by omega) (.int .i64 0) { e with cnt := 0 } rfl
    have r2 := row_set r1 (i := k) (e := { e with cnt := 0 }) (by simp [hlt]) 8 (by omega) (.bool false) (clr e) rfl
    rw [List.set_set] at r2
    have he := h.ok e (List.mem_of_getElem? hi)
    have := h.set (L' := L.set k (clr e)) (by simp) r2 (mod_at (mod_at (Mod.refl _ w) _) _) (set_ok h.ok (by unfold okE at he ⊢; simp only [clr]; omega))
    exact ⟨rfl, this.1, this.2⟩)
  replace A := Lib.hid A
  clear h hi hr ho hlt
  go_enter Try.func16, Try.ntmps16
  go_wp2_with (fail)
  refine A.out.mono ?_
  rintro e _ ⟨rfl, rfl⟩
  go_wp2_with (fail)
  go_ret
  exact R.out
set_option maxHeartbeats 1600000 in
theorem clear_out {w : World} {base f : Nat} {v : Value} {L : List E} (n : Int) (h : FO w base f v L) (hn : ¬ (0 ≤ n ∧ n < L.length)) :
    Calls Try.prog 16 #[.pointer (some ⟨f, 0, none⟩), .int .i64 n] w fun en w' => en = .returned (.int .i64 4) ∧ w = w' := by
  obtain ⟨va, cap, rfl, _⟩ := h.slice
  have A := Lib.hid ((at_any n L.length cap va h.obj h.le).2 hn)
  clear h hn
  go_enter Try.func16, Try.ntmps16
  go_wp2_with (fail)
  refine A.out.mono ?_
  rintro e _ ⟨rfl, rfl⟩
  go_wp2_with (fail)
  go_ret
  exact ⟨rfl, rfl⟩
set_option maxHeartbeats 1600000 in
theorem enable_in {w : World} {base f : Nat} {v : Value} {L : List E} {e : E} (k : Nat) (b : Bool) (h : FO w base f v L) (hi : L[k]? = some e) :
    Calls Try.prog 18 #[.pointer (some ⟨f, 0, none⟩), .int .i64 k, .bool b] w fun en w' => MSet w base f v (L.set k (enb e b)) en w' := by
  have hlt : k < L.length := by
    rcases Nat.lt_or_ge k L.length with h | h
    · exact h
    · rw [List.getElem?_eq_none h] at hi; cases hi
  obtain ⟨va, cap, rfl, hL | ⟨g, rfl, hr⟩⟩ := h.slice
  · rw [hL] at hlt; simp at hlt
  have A := (at_any (k : Int) L.length cap (some ⟨g, 0, none⟩) h.obj h.le).1 g rfl (by omega) (by omega)
  rw [Int.toNat_natCast] at A
  obtain ⟨o, ho⟩ : ∃ o, o = k * 9 := ⟨_, rfl⟩
  rw [← ho] at A
  have c6 := row_cell hr hi 6 (by omega)
  have c7 := row_cell hr hi 7 (by omega)
  have c8 := row_cell hr hi 8 (by omega)
  rw [← ho] at c6 c7 c8
  simp only [ec, List.getElem?_cons_succ, List.getElem?_cons_zero] at c6 c7 c8
  rw [show o + 8 = o + 7 + 1 from rfl] at c8
  have f6 := own_free hr (o + 6)
  have f7 := own_free hr (o + 7)
  have f8 := own_free hr (o + 7 + 1)
  have R : Hid (MSet w base f (.slice (some ⟨g, 0, none⟩) L.length cap) (L.set k (enb e b)) (.returned (.int .i64 0)) (((w.setCell ⟨g, o + 6, none⟩ (.bool b)).setCell ⟨g, o + 7, none⟩ (.int .i64 0)).setCell ⟨g, o + 7 + 1, none⟩ (.bool false))) := Lib.hid (by
    subst ho
    have r0 := row_set hr hi 6 (by omega) (.bool b) { e with on := b } rfl
    have r1 := row_set r0 (i := k) (e := { e with on := b }) (by simp [hlt]) 7 (by omega) (.int .i64 0) { e with on := b, cnt := 0 } rfl
    rw [List.set_set] at r1
    have r2 := row_set r1 (i := k) (e := { e with on := b, cnt := 0 }) (by simp [hlt]) 8 (by omega) (.bool false) (enb e b) rfl
    rw [List.set_set] at r2
    have he := h.ok e (List.mem_of_getElem? hi)
    have := h.set (L' := L.set k (enb e b)) (by simp) r2 (mod_at (mod_at (mod_at (Mod.refl _ w) _) _) _) (set_ok h.ok (by unfold okE at he ⊢; simp only [enb]; omega))
    exact ⟨rfl, this.1, this.2⟩)
  replace A := Lib.hid A
  clear h hi hr ho hlt
  go_enter Try.func18, Try.ntmps18
  go_wp2_with (fail)
  refine A.out.mono ?_
  rintro e _ ⟨rfl, rfl⟩
  go_wp2_with (fail)
  go_ret
  exact R.out
set_option maxHeartbeats 1600000 in
theorem enable_out {w : World} {base f : Nat} {v : Value} {L : List E} (n : Int) (b : Bool) (h : FO w base f v L) (hn : ¬ (0 ≤ n ∧ n < L.length)) :
    Calls Try.prog 18 #[.pointer (some ⟨f, 0, none⟩), .int .i64 n, .bool b] w fun en w' => en = .returned (.int .i64 4) ∧ w = w' := by
  obtain ⟨va, cap, rfl, _⟩ := h.slice
  have A := Lib.hid ((at_any n L.length cap va h.obj h.le).2 hn)
  clear h hn
  go_enter Try.func18, Try.ntmps18
  go_wp2_with (fail)
  refine A.out.mono ?_
  rintro e _ ⟨rfl, rfl⟩
  go_wp2_with (fail)
  go_ret
  exact ⟨rfl, rfl⟩
/-! same -/
theorem slice_of {w : World} {base e size n : Nat} {v : Value} {xs : List Value} (h : w.ownsRow base e size v n xs) : ∃ a c, v = .slice a n c := by
  rcases h.2 with ⟨rfl, h0⟩ | ⟨g, cap, cur, rfl, _⟩
  · exact ⟨_, _, by rw [h0]⟩
  · exact ⟨_, _, rfl⟩
theorem rc_get {w : World} {base n g cap : Nat} {l : List R3} (h : w.ownsRow base 38 3 (.slice (some ⟨g, 0, none⟩) n cap) n (l.flatMap rc)) (i : Nat) (r : R3) (hi : l[i]? = some r) :
    w.cell? ⟨g, i * 3, none⟩ = some (.int .i64 r.1) ∧ w.cell? ⟨g, i * 3 + 1, none⟩ = some (.int .i64 r.2.1) ∧ w.cell? ⟨g, i * 3 + 2, none⟩ = some (.int .i64 r.2.2) :=
  ⟨own_cell h (flat_get rc_len l i 0 r hi (by omega)), own_cell h (flat_get rc_len l i 1 r hi (by omega)), own_cell h (flat_get rc_len l i 2 r hi (by omega))⟩
theorem wcell_get {w : World} {base n g cap : Nat} {l : List E} (h : w.ownsRow base 69 2 (.slice (some ⟨g, 0, none⟩) n cap) n (l.flatMap wc)) (i : Nat) (r : E) (hi : l[i]? = some r) :
    w.cell? ⟨g, i * 2, none⟩ = some (.int .i64 r.cnt) ∧ w.cell? ⟨g, i * 2 + 1, none⟩ = some (.bool r.tr) :=
  ⟨own_cell h (flat_get wc_len l i 0 r hi (by omega)), own_cell h (flat_get wc_len l i 1 r hi (by omega))⟩
theorem take_eq {α : Type} {l1 l2 : List α} {k : Nat} {x y : α} (h : l1.take k = l2.take k) (hx : l1[k]? = some x) (hy : l2[k]? = some y) (e : x = y) : l1.take (k + 1) = l2.take (k + 1) := by
  rw [take_snoc l1 k x hx, take_snoc l2 k y hy, h, e]
def SameR (W : World) (b : Bool) (e : Ending) (wr : World) : Prop := e = .returned (.bool b) ∧ Below W.heap.size W wr
set_option maxHeartbeats 3200000 in
theorem same_eq {w : World} {b1 b2 n g1 c1 g2 c2 : Nat} {l1 l2 : List R3} (hn : n = l1.length) (hn2 : n = l2.length) (hm : n ≤ 1000) (h1 : w.ownsRow b1 38 3 (.slice (some ⟨g1, 0, none⟩) n c1) n (l1.flatMap rc)) (h2 : w.ownsRow b2 38 3 (.slice (some ⟨g2, 0, none⟩) n c2) n (l2.flatMap rc)) :
    Calls Try.prog 13 #[.slice (some ⟨g1, 0, none⟩) n c1, .slice (some ⟨g2, 0, none⟩) n c2] w fun e w' => SameR w (decide (l1 = l2)) e w' := by
  have H1 := Lib.hid h1; have H2 := Lib.hid h2; have HN := Lib.hid hn; have HN2 := Lib.hid hn2
  clear h1 h2 hn hn2
  go_enter Try.func13, Try.ntmps13
  go_wp2_with (fail)
  go_loopw [5] (fun i wr => ∃ k : Nat, k ≤ n ∧ i = .int .i64 k ∧ l1.take k = l2.take k ∧ Below w.heap.size w wr) (fun i _ => n - (intOf i).toNat)
  case atStart => exact ⟨0, by omega, rfl, rfl, Below.refl _ _⟩
  case round =>
    obtain ⟨k, hk, rfl, hE, hB⟩ := hrel
    by_cases hlt : k < n
    · obtain ⟨x, hx⟩ : ∃ x, l1[k]? = some x := ⟨_, List.getElem?_eq_getElem (by have := HN.out; omega)⟩
      obtain ⟨y, hy⟩ : ∃ x, l2[k]? = some x := ⟨_, List.getElem?_eq_getElem (by have := HN2.out; omega)⟩
      obtain ⟨p1, p2, p3⟩ := rc_get (own_calm H1.out hB) k x hx
      obtain ⟨q1, q2, q3⟩ := rc_get (own_calm H2.out hB) k y hy
      have HX := Lib.hid hx; have HY := Lib.hid hy; have HE := Lib.hid hE; have HB := Lib.hid hB
      clear hx hy hE hB
      have no : x ≠ y → Hid (decide (l1 = l2) = false) := fun h => Lib.hid (by
        rw [decide_eq_false_iff_not]; intro e; rw [e] at HX
        have := HX.out.symm.trans HY.out; simp at this; exact h this)
      obtain ⟨x1, x2, x3⟩ := x
      obtain ⟨y1, y2, y3⟩ := y
      simp only at p1 p2 p3 q1 q2 q3
      rcases Decidable.em (x1 = y1) with e1 | e1
      · rcases Decidable.em (x2 = y2) with e2 | e2
        · rcases Decidable.em (x3 = y3) with e3 | e3
          · subst e1 e2 e3
            clear no
            go_wp2_with (fail)
            go_quiet (fail)
            go_wp2_with (fail)
            go_roundw
            case rel => exact ⟨k + 1, by omega, by go_num, take_eq HE.out HX.out HY.out rfl, below_drewN HB.out _⟩
            case measure => simp [intOf]; omega
          · have NO := no (fun h => e3 (by simp at h; exact h.2.2))
            subst e1 e2
            clear no
            go_wp2_with (fail)
            go_quiet (fail)
            go_wp2_with (fail)
            go_ret
            exact ⟨by rw [NO.out]; rfl, below_drewN HB.out _⟩
        · have NO := no (fun h => e2 (by simp at h; exact h.2.1))
          subst e1
          clear no
          go_wp2_with (fail)
          go_quiet (fail)
          go_wp2_with (fail)
          go_ret
          exact ⟨by rw [NO.out]; rfl, below_drewN HB.out _⟩
      · have NO := no (fun h => e1 (by simp at h; exact h.1))
        clear no
        go_wp2_with (fail)
        go_quiet (fail)
        go_wp2_with (fail)
        go_ret
        exact ⟨by rw [NO.out]; rfl, below_drewN HB.out _⟩
    · have he : k = n := by omega
      subst he
      have Y : Hid (decide (l1 = l2) = true) := Lib.hid (by
        have a := HN.out; have b := HN2.out
        rw [List.take_of_length_le (by omega), List.take_of_length_le (by omega)] at hE
        simpa using hE)
      have HB := Lib.hid hB
      clear hE hB
      go_wp2_with (fail)
      go_ret
      exact ⟨by rw [Y.out]; rfl, HB.out⟩
theorem same_len (a1 a2 : Option Addr) (n1 c1 n2 c2 : Nat) (h : n1 ≠ n2) (w : World) : Calls Try.prog 13 #[.slice a1 n1 c1, .slice a2 n2 c2] w fun e w' => SameR w false e w' := by
  have hd : ((n1 : Int) != (n2 : Int)) = true := by simp; omega
  clear h
  go_enter Try.func13, Try.ntmps13
  go_wp2_with (fail)
  go_ret
  exact ⟨rfl, Below.refl _ _⟩
theorem same_zero (a1 a2 : Option Addr) (c1 c2 : Nat) (w : World) : Calls Try.prog 13 #[.slice a1 0 c1, .slice a2 0 c2] w fun e w' => SameR w true e w' := by
  go_enter Try.func13, Try.ntmps13
  go_wp2_with (fail)
  refine wp_loop_rounds 1 ?_
  rw [rounds_succ]
  go_wp2_with (fail)
  go_ret
  exact ⟨rfl, Below.refl _ _⟩
theorem same_any {w : World} {b1 b2 : Nat} {v1 v2 : Value} {l1 l2 : List R3} (hm : l1.length ≤ 1000) (h1 : w.ownsRow b1 38 3 v1 l1.length (l1.flatMap rc)) (h2 : w.ownsRow b2 38 3 v2 l2.length (l2.flatMap rc)) :
    Calls Try.prog 13 #[v1, v2] w fun e w' => SameR w (decide (l1 = l2)) e w' := by
  by_cases hl : l1.length = l2.length
  · rcases h1.2 with ⟨rfl, h0⟩ | ⟨g1, c1, cur1, rfl, _⟩
    · obtain rfl := List.length_eq_zero_iff.1 h0
      obtain rfl := List.length_eq_zero_iff.1 (hl.symm.trans h0)
      obtain ⟨a, c, rfl⟩ := slice_of h2
      exact same_zero _ _ _ _ w
    · rcases h2.2 with ⟨rfl, h0⟩ | ⟨g2, c2, cur2, rfl, _⟩
      · obtain rfl := List.length_eq_zero_iff.1 h0
        obtain rfl := List.length_eq_zero_iff.1 (hl.trans h0)
        exact same_zero _ _ _ _ w
      · rw [← hl] at h2 ⊢
        exact same_eq rfl hl hm h1 h2
  · obtain ⟨a, c, rfl⟩ := slice_of h1
    obtain ⟨a', c', rfl⟩ := slice_of h2
    rw [show decide (l1 = l2) = false from by rw [decide_eq_false_iff_not]; intro e; exact hl (by rw [e])]
    exact same_len _ _ _ _ _ _ hl w
/-! sameWatches -/
def wp (e : E) : Int × Bool := (e.cnt, e.tr)
set_option maxHeartbeats 3200000 in
theorem sameW_eq {w : World} {b1 b2 n g1 c1 g2 c2 : Nat} {l1 l2 : List E} (hn : n = l1.length) (hn2 : n = l2.length) (hm : n ≤ 1000) (h1 : w.ownsRow b1 69 2 (.slice (some ⟨g1, 0, none⟩) n c1) n (l1.flatMap wc)) (h2 : w.ownsRow b2 69 2 (.slice (some ⟨g2, 0, none⟩) n c2) n (l2.flatMap wc)) :
    Calls Try.prog 24 #[.slice (some ⟨g1, 0, none⟩) n c1, .slice (some ⟨g2, 0, none⟩) n c2] w fun e w' => SameR w (decide (l1.map wp = l2.map wp)) e w' := by
  have H1 := Lib.hid h1; have H2 := Lib.hid h2; have HN := Lib.hid hn; have HN2 := Lib.hid hn2
  clear h1 h2 hn hn2
  go_enter Try.func24, Try.ntmps24
  go_wp2_with (fail)
  go_loopw [5] (fun i wr => ∃ k : Nat, k ≤ n ∧ i = .int .i64 k ∧ (l1.map wp).take k = (l2.map wp).take k ∧ Below w.heap.size w wr) (fun i _ => n - (intOf i).toNat)
  case atStart => exact ⟨0, by omega, rfl, rfl, Below.refl _ _⟩
  case round =>
    obtain ⟨k, hk, rfl, hE, hB⟩ := hrel
    by_cases hlt : k < n
    · obtain ⟨x, hx⟩ : ∃ x, l1[k]? = some x := ⟨_, List.getElem?_eq_getElem (by have := HN.out; omega)⟩
      obtain ⟨y, hy⟩ : ∃ x, l2[k]? = some x := ⟨_, List.getElem?_eq_getElem (by have := HN2.out; omega)⟩
      obtain ⟨p1, p2⟩ := wcell_get (own_calm H1.out hB) k x hx
      obtain ⟨q1, q2⟩ := wcell_get (own_calm H2.out hB) k y hy
      have hx' : (l1.map wp)[k]? = some (x.cnt, x.tr) := by rw [List.getElem?_map, hx]; rfl
      have hy' : (l2.map wp)[k]? = some (y.cnt, y.tr) := by rw [List.getElem?_map, hy]; rfl
      have HX := Lib.hid hx'; have HY := Lib.hid hy'; have HE := Lib.hid hE; have HB := Lib.hid hB
      clear hx hy hE hB hx' hy'
      have no : (x.cnt, x.tr) ≠ (y.cnt, y.tr) → Hid (decide (l1.map wp = l2.map wp) = false) := fun h => Lib.hid (by
        rw [decide_eq_false_iff_not]; intro e; rw [e] at HX
        exact h (Option.some.inj (HX.out.symm.trans HY.out)))
      obtain ⟨x1, e1⟩ : ∃ x1, x1 = x.cnt := ⟨_, rfl⟩
      obtain ⟨x2, e2⟩ : ∃ x1, x1 = x.tr := ⟨_, rfl⟩
      obtain ⟨y1, f1⟩ : ∃ x1, x1 = y.cnt := ⟨_, rfl⟩
      obtain ⟨y2, f2⟩ : ∃ x1, x1 = y.tr := ⟨_, rfl⟩
      rw [← e1] at p1 HX no; rw [← e2] at p2 HX no; rw [← f1] at q1 HY no; rw [← f2] at q2 HY no
      clear e1 e2 f1 f2
      rcases Decidable.em (x1 = y1) with e1 | e1
      · rcases Decidable.em (x2 = y2) with e2 | e2
        · subst e1 e2
          clear no
          go_wp2_with (fail)
          go_quiet (fail)
          go_wp2_with (fail)
          go_roundw
          case rel => exact ⟨k + 1, by omega, by go_num, take_eq HE.out HX.out HY.out rfl, below_drewN HB.out _⟩
          case measure => simp [intOf]; omega
        · have NO := no (fun h => e2 (by simp at h; exact h.2))
          have hb : x2 = true ∧ y2 = false ∨ x2 = false ∧ y2 = true := by cases x2 <;> cases y2 <;> simp_all
          subst e1
          clear no e2
          rcases hb with ⟨rfl, rfl⟩ | ⟨rfl, rfl⟩
          all_goals
            go_wp2_with (fail)
            go_quiet (fail)
            go_wp2_with (fail)
            go_ret
            exact ⟨by rw [NO.out]; rfl, below_drewN HB.out _⟩
      · have NO := no (fun h => e1 (by simp at h; exact h.1))
        clear no
        go_wp2_with (fail)
        go_quiet (fail)
        go_wp2_with (fail)
        go_ret
        exact ⟨by rw [NO.out]; rfl, below_drewN HB.out _⟩
    · have he : k = n := by omega
      subst he
      have Y : Hid (decide (l1.map wp = l2.map wp) = true) := Lib.hid (by
        have a := HN.out; have b := HN2.out
        rw [List.take_of_length_le (by simp; omega), List.take_of_length_le (by simp; omega)] at hE
        simpa using hE)
      have HB := Lib.hid hB
      clear hE hB
      go_wp2_with (fail)
      go_ret
      exact ⟨by rw [Y.out]; rfl, HB.out⟩
theorem sameW_len (a1 a2 : Option Addr) (n1 c1 n2 c2 : Nat) (h : n1 ≠ n2) (w : World) : Calls Try.prog 24 #[.slice a1 n1 c1, .slice a2 n2 c2] w fun e w' => SameR w false e w' := by
  have hd : ((n1 : Int) != (n2 : Int)) = true := by simp; omega
  clear h
  go_enter Try.func24, Try.ntmps24
  go_wp2_with (fail)
  go_ret
  exact ⟨rfl, Below.refl _ _⟩
theorem sameW_zero (a1 a2 : Option Addr) (c1 c2 : Nat) (w : World) : Calls Try.prog 24 #[.slice a1 0 c1, .slice a2 0 c2] w fun e w' => SameR w true e w' := by
  go_enter Try.func24, Try.ntmps24
  go_wp2_with (fail)
  refine wp_loop_rounds 1 ?_
  rw [rounds_succ]
  go_wp2_with (fail)
  go_ret
  exact ⟨rfl, Below.refl _ _⟩
theorem sameW_any {w : World} {b1 b2 : Nat} {v1 v2 : Value} {l1 l2 : List E} (hm : l1.length ≤ 1000) (h1 : w.ownsRow b1 69 2 v1 l1.length (l1.flatMap wc)) (h2 : w.ownsRow b2 69 2 v2 l2.length (l2.flatMap wc)) :
    Calls Try.prog 24 #[v1, v2] w fun e w' => SameR w (decide (l1.map wp = l2.map wp)) e w' := by
  by_cases hl : l1.length = l2.length
  · rcases h1.2 with ⟨rfl, h0⟩ | ⟨g1, c1, cur1, rfl, _⟩
    · obtain rfl := List.length_eq_zero_iff.1 h0
      obtain rfl := List.length_eq_zero_iff.1 (hl.symm.trans h0)
      obtain ⟨a, c, rfl⟩ := slice_of h2
      exact sameW_zero _ _ _ _ w
    · rcases h2.2 with ⟨rfl, h0⟩ | ⟨g2, c2, cur2, rfl, _⟩
      · obtain rfl := List.length_eq_zero_iff.1 h0
        obtain rfl := List.length_eq_zero_iff.1 (hl.trans h0)
        exact sameW_zero _ _ _ _ w
      · rw [← hl] at h2 ⊢
        exact sameW_eq rfl hl hm h1 h2
  · obtain ⟨a, c, rfl⟩ := slice_of h1
    obtain ⟨a', c', rfl⟩ := slice_of h2
    rw [show decide (l1.map wp = l2.map wp) = false from by rw [decide_eq_false_iff_not]; intro e; exact hl (by have := congrArg List.length e; simpa using this)]
    exact sameW_len _ _ _ _ _ _ hl w
theorem own_lit {w : World} {g e size n : Nat} {cs : Array Value} (h : w.heap[g]? = some (.cells cs e)) (hs : cs.size = n * size) (hn : n ≤ maxLen) : w.ownsRow 0 e size (.slice (some ⟨g, 0, none⟩) n n) n cs.toList :=
  ⟨by simpa using hs, .inr ⟨g, n, cs, rfl, Nat.zero_le _, h, Nat.le_refl _, hn, hs, by rw [List.take_of_length_le (by simp [hs])]⟩⟩
end Go.Proofs.Ythgilipffdcddaa
