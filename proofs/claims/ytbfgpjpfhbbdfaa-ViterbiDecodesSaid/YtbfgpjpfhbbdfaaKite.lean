/-
  Plain lemmas of this seat: an argument that is a slice of flat elements, as a list of the elements' cells. Conditions: none.
-/
import Derived.Test.YtbfgpjpfhbbdfaaKitc
namespace Go.Proofs.Ytbfgpjpfhbbdfaa.Kit
open Go.RowKit
set_option linter.unusedVariables false
/-- A slice of elements of m cells, as a list of the elements' cells. -/
def SlL (m : Nat) (w : World) (v : Value) (X : List (List Value)) : Prop :=
  (∃ b off c, v = .slice (some ⟨b, off, none⟩) X.length c ∧ X.length ≤ c ∧ c ≤ maxLen ∧ b < w.heap.size ∧ ∀ i x, X[i]? = some x → ∀ j, j < m → w.cell? ⟨b, off + i * m + j, none⟩ = x[j]?) ∨ (X = [] ∧ ∃ a, v = .slice a 0 0)
theorem slIn_l {ks : List Sc} {w : World} {v : Value} (h : SlIn ks w v) : ∃ X, SlL ks.length w v X ∧ X.length ≤ maxLen ∧ ∀ x ∈ X, scAll ks x := by
  rcases h with rfl | ⟨a, rfl⟩ | ⟨b, off, len, cap, C, rfl, h1, h2, h3, h4, h5, h6⟩
  · exact ⟨[], .inr ⟨rfl, _, rfl⟩, by simp [maxLen], by simp⟩
  · exact ⟨[], .inr ⟨rfl, _, rfl⟩, by simp [maxLen], by simp⟩
  · refine ⟨(List.range len).map C, .inl ⟨b, off, cap, by simp, by simpa using h2, h3, h4, fun i x hi j hj => ?_⟩, by simp; omega, fun x hx => ?_⟩
    · have hlt : i < len := by
        rcases Nat.lt_or_ge i len with h | h
        · exact h
        · rw [List.getElem?_eq_none (by simp; omega)] at hi; cases hi
      have := h6 i j (by omega) hj
      rw [Nat.add_assoc, this]
      simp [hlt] at hi
      rw [hi]
    · simp at hx
      obtain ⟨i, hi, rfl⟩ := hx
      exact h5 i (by omega)
theorem SlL.shape {m : Nat} {w : World} {v : Value} {X : List (List Value)} (h : SlL m w v X) : ∃ a c, v = .slice a X.length c ∧ X.length ≤ c ∧ c ≤ maxLen := by
  rcases h with ⟨b, off, c, rfl, h1, h2, _⟩ | ⟨rfl, a, rfl⟩
  · exact ⟨_, _, rfl, h1, h2⟩
  · exact ⟨_, _, rfl, by simp, by simp⟩
theorem SlL.row {m : Nat} {w wr : World} {a : Option Addr} {n c : Nat} {X : List (List Value)} {k : Nat} {x : List Value} (h : SlL m w (.slice a n c) X) (hb : Below w.heap.size w wr) (hx : X[k]? = some x) :
    ∃ b off, a = some ⟨b, off, none⟩ ∧ b < w.heap.size ∧ b < wr.heap.size ∧ ∀ j, j < m → wr.cell? ⟨b, off + k * m + j, none⟩ = x[j]? := by
  rcases h with ⟨b, off, c', he, _, _, hl, hc⟩ | ⟨rfl, _⟩
  · simp only [Value.slice.injEq] at he
    refine ⟨b, off, he.1, hl, Nat.lt_of_lt_of_le hl hb.size, fun j hj => ?_⟩
    rw [hb.cell (p := ⟨b, off + k * m + j, none⟩) hl]
    exact hc k x hx j hj
  · simp at hx
theorem SlL.below {m : Nat} {w w' : World} {v : Value} {X : List (List Value)} (h : SlL m w v X) (hb : Below w.heap.size w w') : SlL m w' v X := by
  rcases h with ⟨b, off, c, rfl, h1, h2, hl, hc⟩ | h
  · left
    refine ⟨b, off, c, rfl, h1, h2, Nat.lt_of_lt_of_le hl hb.size, fun i x hx j hj => ?_⟩
    rw [hb.cell (p := ⟨b, off + i * m + j, none⟩) hl]
    exact hc i x hx j hj
  · exact .inr h
theorem some_of {α : Type} {X : List α} {k : Nat} (h : k < X.length) : ∃ x, X[k]? = some x ∧ x ∈ X := ⟨X[k], List.getElem?_eq_getElem h, List.getElem_mem h⟩
end Go.Proofs.Ytbfgpjpfhbbdfaa.Kit
