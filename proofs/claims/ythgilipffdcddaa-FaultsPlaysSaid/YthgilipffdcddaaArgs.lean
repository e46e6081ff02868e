/-
  What the laws' arguments are, as lists: monitors, ticks. Conditions: none.
-/
import Derived.Test.YthgilipffdcddaaShown
import Derived.Test.YthgilipffdcddaaKitd
namespace Go.Proofs.Ythgilipffdcddaa
open Go.RowKit Kit
set_option linter.unusedVariables false
theorem PS.slice {w : World} {v : Value} {P : List Int} (h : PS w v P) : ∃ a c, v = .slice a P.length c := by
  rcases h with ⟨b, off, c, rfl, _⟩ | ⟨rfl, a, c, rfl⟩
  · exact ⟨_, _, rfl⟩
  · exact ⟨_, _, rfl⟩
theorem slIn_ps {w : World} {v : Value} (h : SlIn [.inl .i64] w v) : ∃ P, PS w v P ∧ P.length ≤ maxLen ∧ (∀ x ∈ P, -9223372036854775808 ≤ x ∧ x ≤ 9223372036854775807) ∧ (∀ b, v.ownBlock = some b → P ≠ [] → b < w.heap.size) := by
  rcases h with rfl | ⟨a, rfl⟩ | ⟨b, off, len, cap, C, rfl, h1, h2, h3, h4, h5, h6⟩
  · exact ⟨[], .inr ⟨rfl, _, _, rfl⟩, by simp [maxLen], by simp, by simp⟩
  · exact ⟨[], .inr ⟨rfl, _, _, rfl⟩, by simp [maxLen], by simp, by simp⟩
  · have hx : ∀ i, i < cap → ∃ x, C i = [.int .i64 x] ∧ (Lit.int .i64 x).wf = true := fun i hi => by
      obtain ⟨x, cs', he, hw, h'⟩ := scAll_int (h5 i hi)
      rw [scAll_nil h'] at he; exact ⟨x, he, hw⟩
    refine ⟨(List.range len).map fun i => match C i with | [.int _ x] => x | _ => 0, .inl ⟨b, off, cap, by simp, fun i x hi => ?_⟩, by simp; omega, ?_, ?_⟩
    · have hlt : i < len := by
        rcases Nat.lt_or_ge i len with h | h
        · exact h
        · rw [List.getElem?_eq_none (by simp; omega)] at hi; cases hi
      obtain ⟨y, hy, _⟩ := hx i (by omega)
      simp [hlt, hy] at hi
      subst hi
      have := h6 i 0 (by omega) (by simp)
      simp [hy] at this
      exact this
    · intro x hx'
      obtain ⟨i, hi, rfl⟩ := List.mem_map.1 hx'
      obtain ⟨y, hy, hw⟩ := hx i (by simp at hi; omega)
      rw [hy]
      exact wf64 hw
    · intro b' hb' _
      have : b = b' := by simpa [Value.ownBlock] using hb'
      omega
theorem choose_to {α : Type} [Inhabited α] {n : Nat} {p : Nat → α → Prop} (h : ∀ i, i < n → ∃ x, p i x) : ∃ f : Nat → α, ∀ i, i < n → p i (f i) := by
  have : ∀ i, ∃ x, i < n → p i x := fun i => by
    by_cases hi : i < n
    · obtain ⟨x, hx⟩ := h i hi; exact ⟨x, fun _ => hx⟩
    · exact ⟨default, fun h => (hi h).elim⟩
  exact ⟨fun i => Classical.choose (this i), fun i hi => Classical.choose_spec (this i) hi⟩
instance : Inhabited E := ⟨⟨0, 0, 0, 0, 0, 0, false, 0, false⟩⟩
/-- Monitors as they were handed in: in v, in old memory. -/
theorem slIn_ms {w : World} {v : Value} (h : SlIn [.inl .i64, .inl .i64, .inl .i64, .inl .i64, .inl .i64, .inl .i64, .inr false] w v) : ∃ L, MS w v L ∧ L.length ≤ maxLen ∧ ∃ a c, v = .slice a L.length c ∧ L.length ≤ c ∧ c ≤ maxLen := by
  rcases h with rfl | ⟨a, rfl⟩ | ⟨b, off, len, cap, C, rfl, h1, h2, h3, h4, h5, h6⟩
  · exact ⟨[], ⟨by simp, .inr ⟨rfl, _, _, rfl⟩⟩, by simp [maxLen], _, _, rfl, by simp, by simp [maxLen]⟩
  · exact ⟨[], ⟨by simp, .inr ⟨rfl, _, _, rfl⟩⟩, by simp [maxLen], _, _, rfl, by simp, by simp [maxLen]⟩
  · have hx : ∀ i, i < len → ∃ e : E, fresh e ∧ C i = mc e := fun i hi => by
      have s := h5 i (by omega)
      obtain ⟨p, c1, e1, _, s1⟩ := scAll_int s
      obtain ⟨lo, c2, rfl, _, s2⟩ := scAll_int s1
      obtain ⟨hi', c3, rfl, _, s3⟩ := scAll_int s2
      obtain ⟨pe, c4, rfl, _, s4⟩ := scAll_int s3
      obtain ⟨ti, c5, rfl, _, s5⟩ := scAll_int s4
      obtain ⟨se, c6, rfl, _, s6⟩ := scAll_int s5
      obtain ⟨on, c7, rfl, s7⟩ := scAll_bool s6
      rw [scAll_nil s7] at e1
      exact ⟨⟨p, lo, hi', pe, ti, se, on, 0, false⟩, ⟨rfl, rfl⟩, e1⟩
    obtain ⟨F, hF⟩ := choose_to hx
    refine ⟨(List.range len).map F, ⟨fun e he => ?_, .inl ⟨b, off, cap, by simp, h4, fun i e he j hj => ?_⟩⟩, by simp; omega, some ⟨b, off, none⟩, cap, by simp, by simp; omega, h3⟩
    · obtain ⟨i, hi, rfl⟩ := List.mem_map.1 he
      exact (hF i (by simpa using hi)).1
    · have hlt : i < len := by
        rcases Nat.lt_or_ge i len with h | h
        · exact h
        · rw [List.getElem?_eq_none (by simp; omega)] at he; cases he
      simp [hlt] at he
      subst he
      have := h6 i j (by omega) (by simpa using hj)
      rw [(hF i hlt).2] at this
      exact this
theorem MS.slice {w : World} {v : Value} {L : List E} (h : MS w v L) : ∃ a c, v = .slice a L.length c := by
  rcases h.2 with ⟨b, off, c, rfl, _⟩ | ⟨rfl, a, c, rfl⟩
  · exact ⟨_, _, rfl⟩
  · exact ⟨_, _, rfl⟩
/-- One of the monitors, as a slice of its own. -/
theorem MS.one {w : World} {L : List E} {b off c : Nat} (h : MS w (.slice (some ⟨b, off, none⟩) L.length c) L) (i : Nat) (e : E) (he : L[i]? = some e) (c' : Nat) : MS w (.slice (some ⟨b, off + i * 7, none⟩) 1 c') [e] := by
  refine ⟨by simpa using h.1 e (List.mem_of_getElem? he), ?_⟩
  rcases h.2 with ⟨b', off', c'', heq, hb, hc⟩ | ⟨rfl, _⟩
  · simp only [Value.slice.injEq, Option.some.injEq, Addr.mk.injEq, and_true, true_and] at heq
    obtain ⟨⟨rfl, rfl⟩, rfl⟩ := heq
    refine .inl ⟨b, off + i * 7, c', rfl, hb, fun j x hx k hk => ?_⟩
    have hj : j = 0 := by
      rcases Nat.eq_zero_or_pos j with h | h
      · exact h
      · rw [List.getElem?_eq_none (by simp; omega)] at hx; cases hx
    subst hj
    simp at hx
    subst hx
    have := hc i e he k hk
    rw [show off + i * 7 + (0 * 7 + k) = off + (i * 7 + k) by omega]
    exact this
  · simp at he
/-- Ticks: a slice of slices of numbers. -/
def TS (w : World) (v : Value) (T : List (List Int)) : Prop :=
  (∃ b off c, v = .slice (some ⟨b, off, none⟩) T.length c ∧ ∀ i P, T[i]? = some P → ∃ pv, w.cell? ⟨b, off + i, none⟩ = some pv ∧ PS w pv P ∧ (∀ k, pv.ownBlock = some k → k < w.heap.size ∨ P = [])) ∨ (T = [] ∧ ∃ a c, v = .slice a 0 c)
theorem slSl_ts {w : World} {v : Value} (h : SlSl [.inl .i64] w v) : ∃ T, TS w v T ∧ T.length ≤ maxLen := by
  rcases h with rfl | ⟨a, rfl⟩ | ⟨b, off, len, cap, R, rfl, h1, h2, h3, h4, h5⟩
  · exact ⟨[], .inr ⟨rfl, _, _, rfl⟩, by simp [maxLen]⟩
  · exact ⟨[], .inr ⟨rfl, _, _, rfl⟩, by simp [maxLen]⟩
  · have hx : ∀ i, i < len → ∃ P : List Int, PS w (R i) P ∧ (∀ k, (R i).ownBlock = some k → k < w.heap.size ∨ P = []) := fun i hi => by
      obtain ⟨P, hP, _, _, hb⟩ := slIn_ps (h5 i (by omega)).1
      refine ⟨P, hP, fun k hk => ?_⟩
      by_cases h0 : P = []
      · exact .inr h0
      · exact .inl (hb k hk h0)
    obtain ⟨F, hF⟩ := choose_to hx
    refine ⟨(List.range len).map F, .inl ⟨b, off, cap, by simp, fun i P hP => ?_⟩, by simp; omega⟩
    have hlt : i < len := by
      rcases Nat.lt_or_ge i len with h | h
      · exact h
      · rw [List.getElem?_eq_none (by simp; omega)] at hP; cases hP
    simp [hlt] at hP
    subst hP
    exact ⟨R i, (h5 i (by omega)).2, hF i hlt⟩
end Go.Proofs.Ythgilipffdcddaa
