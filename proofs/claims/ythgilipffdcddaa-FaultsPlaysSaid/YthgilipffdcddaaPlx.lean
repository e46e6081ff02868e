/-
  The program's object and the reference's side by side; great. Conditions: those that each theorem names.
-/
import Derived.Test.YthgilipffdcddaaLongs
namespace Go.Proofs.Ythgilipffdcddaa
open Go.RowKit Kit
set_option linter.unusedVariables false
def cE (L : List E) (n : Int) : Int := if 0 ≤ n ∧ n < L.length then 0 else 4
def modL (L : List E) (n : Int) (g : E → E) : List E := if 0 ≤ n then L.modify n.toNat g else L
theorem modL_in {L : List E} {k : Nat} {e : E} {g : E → E} (h : L[k]? = some e) : modL L k g = L.set k (g e) := by
  unfold modL
  rw [if_pos (by omega), Int.toNat_natCast]
  apply List.ext_getElem?
  intro i
  rw [List.getElem?_modify, List.getElem?_set]
  have hk := (List.getElem?_eq_some_iff.1 h).1
  by_cases hi : k = i
  · subst hi
    have e1 : L[k] = e := (List.getElem?_eq_some_iff.1 h).2
    simp [hk, e1]
  · simp [hi]
theorem modL_out {L : List E} {n : Int} {g : E → E} (h : ¬ (0 ≤ n ∧ n < L.length)) : modL L n g = L := by
  unfold modL
  split
  · apply List.ext_getElem?
    intro i
    rw [List.getElem?_modify]
    by_cases hi : n.toNat = i
    · rw [List.getElem?_eq_none (by omega)]; rfl
    · simp [hi]
  · rfl
theorem modL_len (L : List E) (n : Int) (g : E → E) : (modL L n g).length = L.length := by unfold modL; split <;> simp
/-- The program's object with L1, the reference's with L2. -/
structure PH (w : World) (f r : Nat) (v lv wv : Value) (L1 L2 : List E) (wr : World) : Prop where
  fo : FO wr f f v L1
  ro : RO wr r r lv wv L2
  bl : Below w.heap.size w wr
  lo : w.heap.size ≤ f
  fr : f < r ∧ ∀ k, v.ownBlock = some k → k < r
section
variable {w wr wr' : World} {f r : Nat} {v lv wv : Value} {L1 L2 L1' L2' : List E}
theorem PH.below (h : PH w f r v lv wv L1 L2 wr) (hb : Below wr.heap.size wr wr') : PH w f r v lv wv L1 L2 wr' :=
  ⟨h.fo.below hb, h.ro.below hb, bl_step h.bl hb, h.lo, h.fr⟩
theorem PH.stepF (h : PH w f r v lv wv L1 L2 wr) (hf : FO wr' f f v L1') (hm : Mod (fun j => v.ownBlock = some j) wr wr') : PH w f r v lv wv L1' L2 wr' := by
  refine ⟨hf, h.ro.mod hm ?_ ?_ ?_, h.bl.trans (hm.below h.bl.size (fun k hk => ?_)), h.lo, h.fr⟩
  · intro e; have := h.fr.2 _ e; omega
  · intro k hk e; have := h.fr.2 _ e; have := (h.ro.blk k (.inl hk)).1; omega
  · intro k hk e; have := h.fr.2 _ e; have := (h.ro.blk k (.inr hk)).1; omega
  · have := (h.fo.blk k hk).1; have := h.lo; omega
theorem PH.stepR (h : PH w f r v lv wv L1 L2 wr) (hr : RO wr' r r lv wv L2') (hm : Mod (RS lv wv) wr wr') : PH w f r v lv wv L1 L2' wr' := by
  refine ⟨h.fo.mod hm ?_ ?_, hr, h.bl.trans (hm.below h.bl.size (fun k hk => ?_)), h.lo, h.fr⟩
  · intro e; have := (h.ro.blk f e).1; have := h.fr.1; omega
  · intro k hk e; have := h.fr.2 _ hk; have := (h.ro.blk k e).1; omega
  · have := (h.ro.blk k hk).1; have := h.lo; have := h.fr.1; omega
end
theorem clear_any {w : World} {f : Nat} {v : Value} {L : List E} (n : Int) (h : FO w f f v L) :
    Calls Try.prog 16 #[.pointer (some ⟨f, 0, none⟩), .int .i64 n] w fun en w' => en = .returned (.int .i64 (cE L n)) ∧ FO w' f f v (modL L n clr) ∧ Mod (fun j => v.ownBlock = some j) w w' := by
  by_cases hn : 0 ≤ n ∧ n < L.length
  · obtain ⟨k, rfl⟩ : ∃ k : Nat, n = k := ⟨n.toNat, by omega⟩
    have he : L[k]? = some (L[k]'(by omega)) := List.getElem?_eq_getElem _
    refine (clear_in k h he).mono ?_
    rintro en w' ⟨rfl, h2, h3⟩
    exact ⟨by unfold cE; rw [if_pos hn], by rw [modL_in he]; exact h2, h3⟩
  · refine (clear_out n h hn).mono ?_
    rintro en w' ⟨rfl, rfl⟩
    exact ⟨by unfold cE; rw [if_neg hn], by rw [modL_out hn]; exact h, Mod.refl _ _⟩
theorem enable_any {w : World} {f : Nat} {v : Value} {L : List E} (n : Int) (b : Bool) (h : FO w f f v L) :
    Calls Try.prog 18 #[.pointer (some ⟨f, 0, none⟩), .int .i64 n, .bool b] w fun en w' => en = .returned (.int .i64 (cE L n)) ∧ FO w' f f v (modL L n (enb · b)) ∧ Mod (fun j => v.ownBlock = some j) w w' := by
  by_cases hn : 0 ≤ n ∧ n < L.length
  · obtain ⟨k, rfl⟩ : ∃ k : Nat, n = k := ⟨n.toNat, by omega⟩
    have he : L[k]? = some (L[k]'(by omega)) := List.getElem?_eq_getElem _
    refine (enable_in k b h he).mono ?_
    rintro en w' ⟨rfl, h2, h3⟩
    exact ⟨by unfold cE; rw [if_pos hn], by rw [modL_in he]; exact h2, h3⟩
  · refine (enable_out n b h hn).mono ?_
    rintro en w' ⟨rfl, rfl⟩
    exact ⟨by unfold cE; rw [if_neg hn], by rw [modL_out hn]; exact h, Mod.refl _ _⟩
theorem rclear_any {w : World} {r : Nat} {lv wv : Value} {L : List E} (n : Int) (h : RO w r r lv wv L) :
    Calls Try.prog 17 #[.pointer (some ⟨r, 0, none⟩), .int .i64 n] w fun en w' => en = .returned (.int .i64 (cE L n)) ∧ RO w' r r lv wv (modL L n clr) ∧ Mod (RS lv wv) w w' := by
  by_cases hn : 0 ≤ n ∧ n < L.length
  · obtain ⟨k, rfl⟩ : ∃ k : Nat, n = k := ⟨n.toNat, by omega⟩
    have he : L[k]? = some (L[k]'(by omega)) := List.getElem?_eq_getElem _
    refine (rclear_in k h he).mono ?_
    rintro en w' ⟨rfl, h2, h3⟩
    exact ⟨by unfold cE; rw [if_pos hn], by rw [modL_in he]; exact h2, h3⟩
  · refine (rclear_out n h hn).mono ?_
    rintro en w' ⟨rfl, rfl⟩
    exact ⟨by unfold cE; rw [if_neg hn], by rw [modL_out hn]; exact h, Mod.refl _ _⟩
theorem renable_any {w : World} {r : Nat} {lv wv : Value} {L : List E} (n : Int) (b : Bool) (h : RO w r r lv wv L) :
    Calls Try.prog 19 #[.pointer (some ⟨r, 0, none⟩), .int .i64 n, .bool b] w fun en w' => en = .returned (.int .i64 (cE L n)) ∧ RO w' r r lv wv (modL L n (enb · b)) ∧ Mod (RS lv wv) w w' := by
  by_cases hn : 0 ≤ n ∧ n < L.length
  · obtain ⟨k, rfl⟩ : ∃ k : Nat, n = k := ⟨n.toNat, by omega⟩
    have he : L[k]? = some (L[k]'(by omega)) := List.getElem?_eq_getElem _
    refine (renable_in k b h he).mono ?_
    rintro en w' ⟨rfl, h2, h3⟩
    exact ⟨by unfold cE; rw [if_pos hn], by rw [modL_in he]; exact h2, h3⟩
  · refine (renable_out n b h hn).mono ?_
    rintro en w' ⟨rfl, rfl⟩
    exact ⟨by unfold cE; rw [if_neg hn], by rw [modL_out hn]; exact h, Mod.refl _ _⟩
/-! great -/
def GR (T : List Ac) : Bool := T.any (fun x => decide (200 < x.p.length)) || decide (300 < T.length)
def acAt (T : List Ac) (i : Nat) : Ac := T.getD i ⟨0, 0, false, []⟩
/-- A slice of acts, as a list. -/
def AN (w : World) (a : Option Addr) (n c : Nat) (T : List Ac) : Prop :=
  n = T.length ∧ ∀ i, i < n → ∃ b off av cv, a = some ⟨b, off, none⟩ ∧ b < w.heap.size ∧ (Lit.int .i64 (acAt T i).n).wf = true ∧ NS w av (acAt T i).p.length cv (acAt T i).p ∧ (av = none → (acAt T i).p.length = 0 ∧ cv = 0) ∧
    w.cell? ⟨b, off + i * 4, none⟩ = some (.int .i64 (acAt T i).k) ∧ w.cell? ⟨b, off + i * 4 + 1, none⟩ = some (.int .i64 (acAt T i).n) ∧ w.cell? ⟨b, off + i * 4 + 2, none⟩ = some (.bool (acAt T i).o) ∧ w.cell? ⟨b, off + i * 4 + 3, none⟩ = some (.slice av (acAt T i).p.length cv)
theorem AN.below {w w' : World} {a : Option Addr} {n c : Nat} {T : List Ac} (h : AN w a n c T) (hb : Below w.heap.size w w') : AN w' a n c T := by
  refine ⟨h.1, fun i hi => ?_⟩
  obtain ⟨b, off, av, cv, rfl, hl, h1, h2, h3, c0, c1, c2, c3⟩ := h.2 i hi
  exact ⟨b, off, av, cv, rfl, Nat.lt_of_lt_of_le hl hb.size, h1, h2.below hb, h3, by rw [hb.cell (p := ⟨b, off + i * 4, none⟩) hl]; exact c0, by rw [hb.cell (p := ⟨b, off + i * 4 + 1, none⟩) hl]; exact c1, by rw [hb.cell (p := ⟨b, off + i * 4 + 2, none⟩) hl]; exact c2, by rw [hb.cell (p := ⟨b, off + i * 4 + 3, none⟩) hl]; exact c3⟩
theorem as_an {w : World} {v : Value} {T : List Ac} (h : AS w v T) : ∃ a c, v = .slice a T.length c ∧ AN w a T.length c T := by
  rcases h with ⟨b, off, c, rfl, hb, hx⟩ | ⟨rfl, a, c, rfl⟩
  · refine ⟨_, c, rfl, rfl, fun i hi => ?_⟩
    have hg : T[i]? = some (acAt T i) := by rw [acAt, List.getD_eq_getElem?_getD, List.getElem?_eq_getElem hi]; rfl
    obtain ⟨h1, pv, hp, c0, c1, c2, c3⟩ := hx i _ hg
    obtain ⟨av, cv, rfl, hn, hz⟩ := pl_ns hp
    exact ⟨b, off, av, cv, rfl, hb, h1, hn, hz, c0, c1, c2, c3⟩
  · exact ⟨a, c, rfl, rfl, fun i hi => by simp at hi⟩
theorem great_any {w : World} {a : Option Addr} {n c : Nat} {T : List Ac} (h : AN w a n c T) (hn : n ≤ maxLen) : Calls Try.prog 14 #[.slice a n c] w fun e w' => e = .returned (.bool (GR T)) ∧ w = w' := by
  obtain ⟨R, hR⟩ : ∃ R, Hid (R = GR T) := ⟨_, Lib.hid rfl⟩
  rw [← hR.out]
  have H := Lib.hid h
  unfold maxLen at hn
  clear h
  go_enter Try.func14, Try.ntmps14
  go_wp2_with (fail)
  go_loopw [3] (fun i wr => ∃ k : Nat, k ≤ n ∧ i = .int .i64 k ∧ wr = w ∧ ∀ i, i < k → ¬ 200 < (acAt T i).p.length) (fun i _ => n - (intOf i).toNat)
  case atStart => exact ⟨0, by omega, rfl, rfl, fun i hi => by omega⟩
  case round =>
    obtain ⟨k, hk, rfl, rfl, hall⟩ := hrel
    by_cases hlt : k < n
    · obtain ⟨b, off, av, cv, rfl, hl, h1, h2, h3, c0, c1, c2, c3⟩ := H.out.2 k hlt
      have HA := Lib.hid hall
      clear h1 h2 h3 hall
      by_cases hg : 200 < (acAt T k).p.length
      · have e : R = true := by
          rw [hR.out]
          unfold GR
          have hm : acAt T k ∈ T := by
            have hi : k < T.length := by rw [← H.out.1]; exact hlt
            rw [acAt, List.getD_eq_getElem?_getD, List.getElem?_eq_getElem hi]
            exact List.getElem_mem hi
          have : T.any (fun x => decide (200 < x.p.length)) = true := List.any_eq_true.2 ⟨_, hm, by simpa using hg⟩
          rw [this]; rfl
        subst e
        generalize (acAt T k).p.length = pn at c3 hg
        clear c0 c1 c2
        go_wp2_with (fail)
        go_ret
        exact ⟨rfl, rfl⟩
      · have HG := Lib.hid hg
        generalize hpn : (acAt T k).p.length = pn at c3 hg
        have HPN := Lib.hid hpn
        clear c0 c1 c2 hpn
        go_wp2_with (fail)
        go_roundw
        case rel => exact ⟨k + 1, by omega, by simp, by simp, fun i hi => by
          rcases Nat.lt_succ_iff_lt_or_eq.1 hi with h | rfl
          · exact HA.out i h
          · exact HG.out⟩
        case measure => simp [intOf]; omega
    · have hkn : k = n := by omega
      subst hkn
      have e : R = decide (300 < k) := by
        rw [hR.out]
        unfold GR
        have : T.any (fun x => decide (200 < x.p.length)) = false := by
          rw [List.any_eq_false]
          intro x hx
          obtain ⟨i, hi, rfl⟩ := List.getElem_of_mem hx
          have := hall i (by rw [H.out.1]; exact hi)
          rw [acAt, List.getD_eq_getElem?_getD, List.getElem?_eq_getElem hi] at this
          simpa using this
        rw [this, Bool.false_or, H.out.1]
      by_cases h3 : 300 < k
      · rw [decide_eq_true h3] at e
        subst e
        clear hall
        go_wp2_with (fail)
        go_ret
        exact ⟨ret_bool (by simp; omega), rfl⟩
      · rw [decide_eq_false h3] at e
        subst e
        clear hall
        go_wp2_with (fail)
        go_ret
        exact ⟨ret_bool (by simp; omega), rfl⟩
end Go.Proofs.Ythgilipffdcddaa
