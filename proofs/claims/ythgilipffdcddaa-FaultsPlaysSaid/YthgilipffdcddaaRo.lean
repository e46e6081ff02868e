/-
  The walks of the reference's has, Clear, Enable, Tripped and violated on an object that the reference's New has made. Conditions: at most 32 valid monitors.
-/
import Derived.Test.YthgilipffdcddaaShown
namespace Go.Proofs.Ythgilipffdcddaa
open Go.RowKit Kit
set_option linter.unusedVariables false
/-- The reference's object with monitors L. -/
structure RO (w : World) (base r : Nat) (lv wv : Value) (L : List E) : Prop where
  obj : w.heap[r]? = some (.cells #[lv, wv] 60)
  lrow : w.ownsRow base 30 7 lv L.length (L.flatMap mc)
  wrow : w.ownsRow base 69 2 wv L.length (L.flatMap wc)
  le : L.length ≤ 32
  base : base ≤ r
/-- The blocks that a call of the reference may write. -/
def RS (lv wv : Value) (j : Nat) : Prop := lv.ownBlock = some j ∨ wv.ownBlock = some j
theorem RO.mod {S : Nat → Prop} {w w' : World} {base r : Nat} {lv wv : Value} {L : List E} (h : RO w base r lv wv L) (hm : Mod S w w') (h1 : ¬ S r) (h2 : ∀ k, lv.ownBlock = some k → ¬ S k) (h3 : ∀ k, wv.ownBlock = some k → ¬ S k) : RO w' base r lv wv L :=
  ⟨hm.keeps h.obj h1, own_mod h.lrow hm h2, own_mod h.wrow hm h3, h.le, h.base⟩
theorem RO.below {w w' : World} {base r : Nat} {lv wv : Value} {L : List E} (h : RO w base r lv wv L) (hb : Below w.heap.size w w') : RO w' base r lv wv L :=
  ⟨below_keeps hb h.obj (lt_of_obj h.obj), own_calm h.lrow hb, own_calm h.wrow hb, h.le, h.base⟩
theorem RO.lt {w : World} {base r : Nat} {lv wv : Value} {L : List E} (h : RO w base r lv wv L) : r < w.heap.size := lt_of_obj h.obj
theorem RO.blk {w : World} {base r : Nat} {lv wv : Value} {L : List E} (h : RO w base r lv wv L) (k : Nat) (hk : RS lv wv k) : base ≤ k ∧ k < w.heap.size ∧ k ≠ r := by
  rcases hk with hk | hk
  · have := h.lrow.lt k hk
    exact ⟨this.1, this.2, fun e => own_ne_obj h.lrow (e ▸ h.obj) (by decide) hk⟩
  · have := h.wrow.lt k hk
    exact ⟨this.1, this.2, fun e => own_ne_obj h.wrow (e ▸ h.obj) (by decide) hk⟩
theorem flat_same {c : E → List Value} {L : List E} {k : Nat} {e e' : E} (hi : L[k]? = some e) (hc : c e' = c e) : (L.set k e').flatMap c = L.flatMap c := by
  rw [List.flatMap_def, List.flatMap_def, List.map_set, hc, show (L.map c).set k (c e) = L.map c from ?_]
  apply List.ext_getElem?
  intro j
  rw [List.getElem?_set]
  split
  · subst_vars
    rw [List.length_map, List.getElem?_map, hi]
    have := (List.getElem?_eq_some_iff.1 hi).1
    simp [this]
  · rfl
theorem rw_set {w : World} {base t m g cap i n : Nat} {c : E → List Value} {L : List E} {e : E} (hm : ∀ e, (c e).length = m) (h : w.ownsRow base t m (.slice (some ⟨g, 0, none⟩) n cap) n (L.flatMap c)) (hi : L[i]? = some e) (k : Nat) (hk : k < m) (u : Value) (e' : E) (hu : (c e).set k u = c e') :
    (w.setCell ⟨g, i * m + k, none⟩ u).ownsRow base t m (.slice (some ⟨g, 0, none⟩) n cap) n ((L.set i e').flatMap c) := by
  have hlt := (List.getElem?_eq_some_iff.1 hi).1
  have h1 := h.1
  rw [flat_len hm] at h1
  have := own_set h (j := i * m + k) (by
    have : (i + 1) * m ≤ L.length * m := Nat.mul_le_mul_right _ hlt
    rw [Nat.add_mul, Nat.one_mul] at this
    omega) u
  rw [flat_set hm L i k e e' u hi hk hu] at this
  exact this
theorem rw_get {w : World} {base t m g cap i n : Nat} {c : E → List Value} {L : List E} {e : E} (hm : ∀ e, (c e).length = m) (h : w.ownsRow base t m (.slice (some ⟨g, 0, none⟩) n cap) n (L.flatMap c)) (hi : L[i]? = some e) (k : Nat) (hk : k < m) : w.cell? ⟨g, i * m + k, none⟩ = (c e)[k]? := by
  have h1 := flat_get hm L i k e hi hk
  have h2 : (c e)[k]? = some ((c e)[k]'(by rw [hm]; exact hk)) := List.getElem?_eq_getElem _
  rw [h2] at h1 ⊢
  exact own_cell h h1
theorem row_some {w : World} {base t m n : Nat} {v : Value} {xs : List Value} (h : w.ownsRow base t m v n xs) (hn : n ≠ 0) : ∃ g cap, v = .slice (some ⟨g, 0, none⟩) n cap := by
  rcases h.2 with ⟨_, h0⟩ | ⟨g, cap, cur, rfl, _⟩
  · exact (hn h0).elim
  · exact ⟨g, cap, rfl⟩
/-! has -/
theorem has_any (n : Int) (r : Nat) (a : Option Addr) (len cap : Nat) (w : World) (hc : w.cell? ⟨r, 0, none⟩ = some (.slice a len cap)) :
    Calls Try.prog 35 #[.pointer (some ⟨r, 0, none⟩), .int .i64 n] w fun e w' => e = .returned (.bool (decide (0 ≤ n ∧ n < len))) ∧ w = w' := by
  by_cases h0 : n < 0
  · rw [decide_eq_false (by omega : ¬ (0 ≤ n ∧ n < (len : Int)))]
    go_enter Try.func35, Try.ntmps35
    go_wp2_with (fail)
    go_ret
    exact ⟨rfl, rfl⟩
  · obtain ⟨k, rfl⟩ : ∃ k : Nat, n = k := ⟨n.toNat, by omega⟩
    by_cases h1 : k < len
    · rw [decide_eq_true (by omega : (0 : Int) ≤ (k : Int) ∧ (k : Int) < (len : Int))]
      clear h0
      go_enter Try.func35, Try.ntmps35
      go_wp2_with (fail)
      go_ret
      exact ⟨rfl, rfl⟩
    · rw [decide_eq_false (by omega : ¬ ((0 : Int) ≤ (k : Int) ∧ (k : Int) < (len : Int)))]
      clear h0
      go_enter Try.func35, Try.ntmps35
      go_wp2_with (fail)
      go_ret
      exact ⟨rfl, rfl⟩
/-! Clear -/
def RSet (W : World) (base r : Nat) (lv wv : Value) (L : List E) (e : Ending) (wr : World) : Prop := e = .returned (.int .i64 0) ∧ RO wr base r lv wv L ∧ Mod (RS lv wv) W wr
theorem rclear_out {w : World} {base r : Nat} {lv wv : Value} {L : List E} (n : Int) (h : RO w base r lv wv L) (hn : ¬ (0 ≤ n ∧ n < L.length)) :
    Calls Try.prog 17 #[.pointer (some ⟨r, 0, none⟩), .int .i64 n] w fun en w' => en = .returned (.int .i64 4) ∧ w = w' := by
  obtain ⟨a, c, rfl⟩ := slice_of h.lrow
  have A := has_any n r a L.length c w (cell_of (i := 0) h.obj rfl)
  rw [decide_eq_false hn] at A
  replace A := Lib.hid A
  clear h hn
  go_enter Try.func17, Try.ntmps17
  go_wp2_with (fail)
  refine A.out.mono ?_
  rintro e _ ⟨rfl, rfl⟩
  go_wp2_with (fail)
  go_ret
  exact ⟨rfl, rfl⟩
theorem rclear_in {w : World} {base r : Nat} {lv wv : Value} {L : List E} {e : E} (k : Nat) (h : RO w base r lv wv L) (hi : L[k]? = some e) :
    Calls Try.prog 17 #[.pointer (some ⟨r, 0, none⟩), .int .i64 k] w fun en w' => RSet w base r lv wv (L.set k (clr e)) en w' := by
  have hlt := (List.getElem?_eq_some_iff.1 hi).1
  obtain ⟨a, c, hl⟩ := slice_of h.lrow
  obtain ⟨g, cap, rfl⟩ := row_some h.wrow (by omega)
  have hc0 := cell_of (i := 0) h.obj rfl
  have hc1 := cell_of (i := 1) h.obj rfl
  rw [hl] at hc0
  have A := has_any (k : Int) r a L.length c w hc0
  rw [decide_eq_true (by omega : (0 : Int) ≤ (k : Int) ∧ (k : Int) < (L.length : Int))] at A
  have gl := own_lt h.wrow
  have c0 := rw_get wc_len h.wrow hi 0 (by omega)
  have c1 := rw_get wc_len h.wrow hi 1 (by omega)
  simp only [wc, List.getElem?_cons_succ, List.getElem?_cons_zero, Nat.add_zero] at c0 c1
  have f0 := own_free h.wrow (k * 2)
  have f1 := own_free h.wrow (k * 2 + 1)
  have R : Hid (RSet w base r lv (.slice (some ⟨g, 0, none⟩) L.length cap) (L.set k (clr e)) (.returned (.int .i64 0)) ((w.setCell ⟨g, k * 2, none⟩ (.int .i64 0)).setCell ⟨g, k * 2 + 1, none⟩ (.bool false))) := Lib.hid (by
    have r1 := rw_set wc_len h.wrow hi 0 (by omega) (.int .i64 0) { e with cnt := 0 } rfl
    have r2 := rw_set wc_len r1 (i := k) (e := { e with cnt := 0 }) (by simp [hlt]) 1 (by omega) (.bool false) (clr e) rfl
    rw [List.set_set, Nat.add_zero] at r2
    have m : Mod (fun j => j = g) w ((w.setCell ⟨g, k * 2, none⟩ (.int .i64 0)).setCell ⟨g, k * 2 + 1, none⟩ (.bool false)) := mod_at (mod_at (Mod.refl _ w) _) _
    have hgr : r ≠ g := fun e => (h.blk g (.inr rfl)).2.2 e.symm
    refine ⟨rfl, ⟨m.keeps h.obj hgr, ?_, by rw [List.length_set]; exact r2, by rw [List.length_set]; exact h.le, h.base⟩, m.mono (fun j _ e => .inr (by rw [e]; rfl))⟩
    rw [List.length_set, flat_same hi (show mc (clr e) = mc e from rfl)]
    refine own_mod h.lrow m (fun j hj e => ?_)
    rcases own_apart h.lrow h.wrow (by decide) with h1 | h1
    · rw [h1] at hj; cases hj
    · exact h1 (by rw [hj, e]; rfl))
  replace A := Lib.hid A
  clear h hi hl
  go_enter Try.func17, Try.ntmps17
  go_wp2_with (fail)
  refine A.out.mono ?_
  rintro e _ ⟨rfl, rfl⟩
  go_wp2_with (fail)
  go_ret
  exact R.out
/-! Enable -/
theorem renable_out {w : World} {base r : Nat} {lv wv : Value} {L : List E} (n : Int) (b : Bool) (h : RO w base r lv wv L) (hn : ¬ (0 ≤ n ∧ n < L.length)) :
    Calls Try.prog 19 #[.pointer (some ⟨r, 0, none⟩), .int .i64 n, .bool b] w fun en w' => en = .returned (.int .i64 4) ∧ w = w' := by
  have A := Lib.hid (rclear_out n h hn)
  clear h hn
  go_enter Try.func19, Try.ntmps19
  go_wp2_with (fail)
  refine A.out.mono ?_
  rintro e _ ⟨rfl, rfl⟩
  go_wp2_with (fail)
  go_ret
  exact ⟨rfl, rfl⟩
theorem renable_in {w : World} {base r : Nat} {lv wv : Value} {L : List E} {e : E} (k : Nat) (b : Bool) (h : RO w base r lv wv L) (hi : L[k]? = some e) :
    Calls Try.prog 19 #[.pointer (some ⟨r, 0, none⟩), .int .i64 k, .bool b] w fun en w' => RSet w base r lv wv (L.set k (enb e b)) en w' := by
  have hlt := (List.getElem?_eq_some_iff.1 hi).1
  have A := Lib.hid (rclear_in k h hi)
  obtain ⟨g, cap, rfl⟩ := row_some h.lrow (by omega)
  have HI := Lib.hid hi
  clear h hi
  go_enter Try.func19, Try.ntmps19
  go_wp2_with (fail)
  refine A.out.mono ?_
  rintro en w1 ⟨rfl, hR, hm⟩
  have hi2 : (L.set k (clr e))[k]? = some (clr e) := by simp [hlt]
  have hc0 := cell_of (i := 0) hR.obj rfl
  have hl : (L.set k (clr e)).length = L.length := List.length_set
  have hrow := hR.lrow
  rw [hl] at hrow
  have c6 := rw_get mc_len hrow hi2 6 (by omega)
  simp only [mc, List.getElem?_cons_succ, List.getElem?_cons_zero] at c6
  have f6 := own_free hrow (k * 7 + 6)
  have R : Hid (RSet w base r (.slice (some ⟨g, 0, none⟩) L.length cap) wv (L.set k (enb e b)) (.returned (.int .i64 0)) (w1.setCell ⟨g, k * 7 + 6, none⟩ (.bool b))) := Lib.hid (by
    have r1 := rw_set mc_len hrow hi2 6 (by omega) (.bool b) (enb e b) rfl
    have m : Mod (fun j => j = g) w1 (w1.setCell ⟨g, k * 7 + 6, none⟩ (.bool b)) := mod_at (Mod.refl _ w1) _
    have hgr : r ≠ g := fun e => (hR.blk g (.inl rfl)).2.2 e.symm
    have e2 : (L.set k (enb e b)).flatMap wc = (L.set k (clr e)).flatMap wc := by
      have := flat_same (c := wc) hi2 (e' := enb e b) rfl
      rwa [List.set_set] at this
    rw [List.set_set] at r1
    refine ⟨rfl, ⟨m.keeps hR.obj hgr, by rw [List.length_set]; exact r1, ?_, by rw [List.length_set, ← hl]; exact hR.le, hR.base⟩, hm.trans m (fun j _ e => .inl (by rw [e]; rfl))⟩
    rw [e2, List.length_set, ← hl]
    refine own_mod hR.wrow m (fun j hj e => ?_)
    rcases own_apart hR.wrow hR.lrow (by decide) with h1 | h1
    · rw [h1] at hj; cases hj
    · exact h1 (by rw [hj, e]; rfl))
  clear hR hm hi2 hl hrow
  go_wp2_with (fail)
  go_ret
  exact R.out
/-! Tripped -/
theorem rtr_succ (L : List E) (t : Int) (k : Nat) (e : E) (h : L[k]? = some e) : (L.take (k + 1)).any (isTr · t) = ((L.take k).any (isTr · t) || isTr e t) := by
  rw [take_snoc L k e h, List.any_append]; simp
end Go.Proofs.Ythgilipffdcddaa
