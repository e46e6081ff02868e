/-
  Arguments that are slices of slices of flat elements. Conditions: none.
-/
import Derived.Test.YthgilipffdcddaaKitc
namespace Go.Proofs.Ythgilipffdcddaa.Kit
open Go.ChangeShapes Go.WideShapes Go.ChangeAt Go.RowKit
set_option linter.unusedVariables false
section
variable {H : Type} {enc : TypeId × Value → H} {P : Program} {w : World} {base : Nat} {held : Bool}
/-- A slice of flat elements, by its one cell. -/
theorem open_flat_cells {t e : TypeId} {cs : List Value} {fuel : Nat} {x : DataW H × List MemPlace} {ks : List Sc} (hu : P.underlying t = some (.slice e)) (hk : flat P 9 e = some ks) (hce : P.cellsOf e = ks.length) (hpos : 0 < ks.length)
    (hf : DataW.trod enc P w base (fun _ => true) held fuel t cs = some x) : ∃ v, cs = [v] ∧ SlIn ks w v := by
  unfold SlIn
  rcases Go.Deep.open_slice hu hf with ⟨h1, _⟩ | ⟨a, len', cap', m, n, D, Pl, h1, _, hl, hm, hmm, _, hel⟩
  · exact ⟨_, h1, .inl rfl⟩
  · refine ⟨_, h1, .inr ?_⟩
    simp at hmm
    subst hmm
    by_cases h0 : m = 0
    · left; subst h0; obtain rfl : len' = 0 := by omega
      exact ⟨a, rfl⟩
    right
    have hex : ∀ i, ∃ cs' : List Value, i < m → w.cells? base (a.add (i * ks.length)) ks.length = some cs' ∧ DataW.trod enc P w base (fun _ => true) held n e cs' = some (D i, Pl i) := by
      intro i
      by_cases hi : i < m
      · obtain ⟨cs', h⟩ := hel i hi; rw [hce] at h; exact ⟨cs', fun _ => h⟩
      · exact ⟨[], fun h => (hi h).elim⟩
    have hC : ∃ C : Nat → List Value, ∀ i, i < m → w.cells? base (a.add (i * ks.length)) ks.length = some (C i) ∧ DataW.trod enc P w base (fun _ => true) held n e (C i) = some (D i, Pl i) :=
      ⟨fun i => Classical.choose (hex i), fun i hi => Classical.choose_spec (hex i) hi⟩
    obtain ⟨C, hC⟩ := hC
    have hcell : ∀ i j, i < m → j < ks.length → w.cell? (a.add (i * ks.length + j)) = (C i)[j]? := by
      intro i j hi hj
      obtain ⟨_, hlen, hget⟩ := World.cells?_some (hC i hi).1
      rw [← hget j hj, Addr.add_add]
    obtain ⟨b, off, spot⟩ := a
    have hc0 := hcell 0 0 (by omega) hpos
    have hs0 := scAll_length (flat_ok 9 n e ks _ _ hk (hC 0 (by omega)).2)
    rw [List.getElem?_eq_getElem (by omega)] at hc0
    have hspot : spot = none := by simpa [Addr.add] using World.cell?_spot hc0
    subst hspot
    refine ⟨b, off, len', m, C, rfl, by omega, hl, hm, ?_, fun i hi => flat_ok 9 n e ks _ _ hk (hC i hi).2, fun i j hi hj => by rw [← Go.WideShapes.add_plain]; exact hcell i j hi hj⟩
    have := World.cells?_block (hC 0 (by omega)).1 hpos
    simpa [Addr.add] using this
/-- What a walk is told of a slice of slices of flat elements. -/
def SlSl (ks : List Sc) (w : World) (v : Value) : Prop :=
  (v = .slice none 0 0) ∨ (∃ a, v = .slice (some a) 0 0) ∨ ∃ (b off len cap : Nat) (R : Nat → Value), v = .slice (some ⟨b, off, none⟩) len cap ∧ 0 < cap ∧ len ≤ cap ∧ cap ≤ maxLen ∧ b < w.heap.size ∧
      ∀ i, i < cap → SlIn ks w (R i) ∧ w.cell? ⟨b, off + i, none⟩ = some (R i)
theorem open_flat_slices {t e q : TypeId} {v : Value} {d : DataW H} {ps : List MemPlace} {ks : List Sc} {r : Reach} {b' : Nat} (hu : P.underlying t = some (.slice e)) (hue : P.underlying e = some (.slice q)) (hk : flat P 9 q = some ks) (hce : P.cellsOf e = 1) (hcq : P.cellsOf q = ks.length) (hpos : 0 < ks.length)
    (hv : Value.okWide P w r b' t v) (h : DataW.Trod enc P w base (fun _ => true) held t v d ps) : SlSl ks w v := by
  unfold SlSl
  obtain ⟨a0, len, cap, rfl⟩ := okWide_slice hu hv
  obtain ⟨fuel, hf⟩ := h
  rcases Go.Deep.open_slice hu hf with ⟨h1, _⟩ | ⟨a, len', cap', m, n, D, Pl, h1, _, hl, hm, hmm, _, hel⟩
  · left; simp [Value.cells] at h1; obtain ⟨rfl, rfl, rfl⟩ := h1; rfl
  · right
    simp [Value.cells] at h1
    obtain ⟨rfl, rfl, rfl⟩ := h1
    simp at hmm
    subst hmm
    by_cases h0 : m = 0
    · left; subst h0; obtain rfl : len = 0 := by omega
      exact ⟨a, rfl⟩
    right
    have hex : ∀ i, ∃ v' : Value, i < m → SlIn ks w v' ∧ w.cell? (a.add i) = some v' := by
      intro i
      by_cases hi : i < m
      · obtain ⟨cs', h1, h2⟩ := hel i hi
        rw [hce] at h1
        obtain ⟨v', rfl, hs⟩ := open_flat_cells hue hk hcq hpos h2
        refine ⟨v', fun _ => ⟨hs, ?_⟩⟩
        obtain ⟨_, hlen, hget⟩ := World.cells?_some h1
        have := hget 0 (by omega)
        rw [Addr.add_add, Nat.mul_one, Nat.add_zero] at this
        simpa using this
      · exact ⟨.bool false, fun h => (hi h).elim⟩
    have hC : ∃ C : Nat → Value, ∀ i, i < m → SlIn ks w (C i) ∧ w.cell? (a.add i) = some (C i) :=
      ⟨fun i => Classical.choose (hex i), fun i hi => Classical.choose_spec (hex i) hi⟩
    obtain ⟨C, hC⟩ := hC
    obtain ⟨b, off, spot⟩ := a
    have hc0 := (hC 0 (by omega)).2
    have hspot : spot = none := by simpa [Addr.add] using World.cell?_spot hc0
    subst hspot
    have hb := World.block_lt_of_cell? w _ hc0
    exact ⟨b, off, len, m, C, rfl, by omega, hl, hm, by simpa [Addr.add] using hb, fun i hi => ⟨(hC i hi).1, by rw [← Go.WideShapes.add_plain]; exact (hC i hi).2⟩⟩
end
end Go.Proofs.Ythgilipffdcddaa.Kit
