/-
  Many objects of faults beside each other. Conditions: each was made after the one ahead of it.
-/
import Derived.Test.YthgilipffdcddaaArgs
namespace Go.Proofs.Ythgilipffdcddaa
open Go.RowKit Kit
set_option linter.unusedVariables false
abbrev Ob := Nat × Value
/-- The second was made after the first one. -/
def After (x y : Ob) : Prop := x.1 < y.1 ∧ ∀ k, x.2.ownBlock = some k → k < y.1
structure AL (w wr : World) (hd : Ob) (gs : List Ob) (L0 Lx : List E) : Prop where
  head : FO wr hd.1 hd.1 hd.2 L0
  ord : (hd :: gs).Pairwise After
  rest : ∀ (i : Nat) (x : Ob), gs[i]? = some x → ∃ e, Lx[i]? = some e ∧ FO wr x.1 x.1 x.2 [e]
  below : Below w.heap.size w wr
  base : w.heap.size ≤ hd.1
theorem AL.first {w wr : World} {hd : Ob} {gs : List Ob} {L0 Lx : List E} (h : AL w wr hd gs L0 Lx) {i : Nat} {x : Ob} (hx : gs[i]? = some x) : After hd x := (List.pairwise_cons.1 h.ord).1 x (List.mem_of_getElem? hx)
theorem AL.pair {w wr : World} {hd : Ob} {gs : List Ob} {L0 Lx : List E} (h : AL w wr hd gs L0 Lx) {i j : Nat} {x y : Ob} (hx : gs[i]? = some x) (hy : gs[j]? = some y) (hij : i < j) : After x y := by
  obtain ⟨hi, rfl⟩ := List.getElem?_eq_some_iff.1 hx
  obtain ⟨hj, rfl⟩ := List.getElem?_eq_some_iff.1 hy
  exact List.pairwise_iff_getElem.1 (List.pairwise_cons.1 h.ord).2 i j hi hj hij
theorem AL.mod {S : Nat → Prop} {w wr w' : World} {hd : Ob} {gs : List Ob} {L0 Lx : List E} (h : AL w wr hd gs L0 Lx) (hm : Mod S wr w') (hb : Below w.heap.size w w') (h0 : ¬ S hd.1 ∧ ∀ k, hd.2.ownBlock = some k → ¬ S k) (h1 : ∀ (i : Nat) (x : Ob), gs[i]? = some x → ¬ S x.1 ∧ ∀ k, x.2.ownBlock = some k → ¬ S k) : AL w w' hd gs L0 Lx :=
  ⟨h.head.mod hm h0.1 h0.2, h.ord, fun i x hx => by obtain ⟨e, he, hF⟩ := h.rest i x hx; exact ⟨e, he, hF.mod hm (h1 i x hx).1 (h1 i x hx).2⟩, hb, h.base⟩
theorem AL.calm {w wr w' : World} {hd : Ob} {gs : List Ob} {L0 Lx : List E} (h : AL w wr hd gs L0 Lx) (hb : Below wr.heap.size wr w') : AL w w' hd gs L0 Lx :=
  ⟨h.head.below hb, h.ord, fun i x hx => by obtain ⟨e, he, hF⟩ := h.rest i x hx; exact ⟨e, he, hF.below hb⟩, bl_step h.below hb, h.base⟩
/-- Another row grows. -/
theorem AL.grow {w wr w' : World} {hd : Ob} {gs : List Ob} {L0 Lx : List E} {B e size n : Nat} {v : Value} {xs : List Value} (h : AL w wr hd gs L0 Lx) (ho : wr.ownsRow B e size v n xs) (hB : w.heap.size ≤ B) (he1 : e ≠ 64) (he2 : e ≠ 72) (hg : wr.grownBy w' v.ownBlock) : AL w w' hd gs L0 Lx := by
  have key : ∀ {f : Nat} {v' : Value} {L : List E}, FO wr f f v' L → ¬ v.ownBlock = some f ∧ ∀ k, v'.ownBlock = some k → ¬ v.ownBlock = some k := fun F =>
    ⟨fun e => own_ne_obj ho F.obj (Ne.symm he1) e, fun k hk e => by
      rcases own_apart F.row ho (Ne.symm he2) with h | h
      · rw [h] at hk; cases hk
      · exact h (by rw [hk, e])⟩
  exact h.mod (mod_of_grown hg) (h.below.grown hg h.below.size (fun k hk => Nat.le_trans hB (ho.lt k hk).1)) (key h.head) (fun i x hx => by obtain ⟨e, _, hF⟩ := h.rest i x hx; exact key hF)
theorem AL.push {w wr w' : World} {hd : Ob} {gs : List Ob} {L : List E} {v : Value} {e : E} (h : AL w wr hd gs L L) (hb : Below wr.heap.size wr w') (hF : FO w' wr.heap.size wr.heap.size v [e]) (he : L[gs.length]? = some e) : AL w w' hd (gs ++ [(wr.heap.size, v)]) L L := by
  have h' := h.calm hb
  refine ⟨h'.head, ?_, fun i x hx => ?_, h'.below, h.base⟩
  · rw [← List.cons_append, List.pairwise_append]
    refine ⟨h.ord, by simp, fun x hx y hy => ?_⟩
    obtain rfl := List.mem_singleton.1 hy
    rcases List.mem_cons.1 hx with rfl | hx
    · exact ⟨h.head.lt, fun k hk => (h.head.blk k hk).2.1⟩
    · obtain ⟨i, hi, rfl⟩ := List.getElem_of_mem hx
      obtain ⟨e', _, hF'⟩ := h.rest i _ (List.getElem?_eq_getElem hi)
      exact ⟨hF'.lt, fun k hk => (hF'.blk k hk).2.1⟩
  · rcases Nat.lt_or_ge i gs.length with hi | hi
    · rw [List.getElem?_append_left hi] at hx
      exact h'.rest i x hx
    · rcases Nat.eq_or_lt_of_le hi with rfl | hi'
      · rw [List.getElem?_append_right (Nat.le_refl _)] at hx
        simp at hx
        subst hx
        exact ⟨e, he, hF⟩
      · rw [List.getElem?_eq_none (by simp; omega)] at hx; cases hx
/-- The first one ticks. -/
theorem AL.tickHead {w wr w' : World} {hd : Ob} {gs : List Ob} {L0 L0' Lx : List E} (h : AL w wr hd gs L0 Lx) (hm : Mod (fun j => hd.2.ownBlock = some j) wr w') (hF : FO w' hd.1 hd.1 hd.2 L0') : AL w w' hd gs L0' Lx := by
  refine ⟨hF, h.ord, fun i x hx => ?_, h.below.trans (hm.below h.below.size (fun k hk => Nat.le_trans h.base (h.head.blk k hk).1)), h.base⟩
  obtain ⟨e, he, hF⟩ := h.rest i x hx
  have ha := h.first hx
  exact ⟨e, he, hF.mod hm (fun hs => by have := ha.2 _ hs; omega) (fun k hk hs => by have := ha.2 _ hs; have := (hF.blk k hk).1; omega)⟩
/-- One of the others ticks. -/
theorem AL.tickOne {w wr w' : World} {hd : Ob} {gs : List Ob} {L0 Lx Ly : List E} {i : Nat} {x : Ob} {e' : E} (h : AL w wr hd gs L0 Lx) (hx : gs[i]? = some x) (hm : Mod (fun j => x.2.ownBlock = some j) wr w') (hF : FO w' x.1 x.1 x.2 [e']) (hi : Ly[i]? = some e') (hj : ∀ j, j ≠ i → Ly[j]? = Lx[j]?) : AL w w' hd gs L0 Ly := by
  obtain ⟨e, he, hF0⟩ := h.rest i x hx
  have ha := h.first hx
  refine ⟨h.head.mod hm (fun hs => by have := (hF0.blk _ hs).1; have := ha.1; omega) (fun k hk hs => by have := ha.2 k hk; have := (hF0.blk _ hs).1; omega), h.ord, fun j y hy => ?_,
    h.below.trans (hm.below h.below.size (fun k hk => by have := (hF0.blk k hk).1; have := ha.1; have := h.base; omega)), h.base⟩
  by_cases hij : j = i
  · subst hij
    obtain rfl : x = y := Option.some.inj (hx.symm.trans hy)
    exact ⟨e', hi, hF⟩
  · obtain ⟨ey, hey, hFy⟩ := h.rest j y hy
    refine ⟨ey, by rw [hj j hij]; exact hey, ?_⟩
    rcases Nat.lt_or_ge j i with hlt | hge
    · have hb := h.pair hy hx hlt
      exact hFy.mod hm (fun hs => by have := (hF0.blk _ hs).1; have := hb.1; omega) (fun k hk hs => by have := hb.2 k hk; have := (hF0.blk _ hs).1; omega)
    · have hb := h.pair hx hy (by omega)
      exact hFy.mod hm (fun hs => by have := hb.2 _ hs; omega) (fun k hk hs => by have := hb.2 _ hs; have := (hFy.blk k hk).1; omega)
theorem far_args {w wr : World} {f : Nat} {v pv : Value} {L : List E} {P : List Int} (hF : FO wr f f v L) (hf : w.heap.size ≤ f) (hp : ∀ k, pv.ownBlock = some k → k < w.heap.size ∨ P = []) : P = [] ∨ pv.ownBlock = none ∨ pv.ownBlock ≠ v.ownBlock := by
  cases hk : pv.ownBlock with
  | none => exact .inr (.inl rfl)
  | some k =>
    rcases hp k hk with h | h
    · refine .inr (.inr (fun e => ?_))
      have := (hF.blk k e.symm).1
      omega
    · exact .inl h
end Go.Proofs.Ythgilipffdcddaa
