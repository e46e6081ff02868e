/-
  Different messages differ in at least ten symbols; and what that says of sums. Conditions: those that each names.
-/
import Derived.Test.YtbfgpjpfhbbdfaaLawp
namespace Go.Proofs.Ytbfgpjpfhbbdfaa
open Go.RowKit Kit
set_option linter.unusedVariables false
theorem nx_lin : ∀ s t : Fin 64, ∀ b c : Fin 2, nx (s.val ^^^ t.val) (b.val ^^^ c.val) = nx s.val b.val ^^^ nx t.val c.val := by decide +kernel
theorem xor_lt64 {x y : Nat} (hx : x < 64) (hy : y < 64) : x ^^^ y < 64 := Nat.xor_lt_two_pow (n := 6) hx hy
theorem xor_lt2 {x y : Nat} (hx : x < 2) (hy : y < 2) : x ^^^ y < 2 := Nat.xor_lt_two_pow (n := 1) hx hy
/-- In how many of the first k two strings differ. -/
def cnt (f g : Nat → Nat) : Nat → Nat
  | 0 => 0
  | k + 1 => cnt f g k + if f k = g k then 0 else 1
theorem cnt_le (f g : Nat → Nat) (k : Nat) : cnt f g k ≤ k := by
  induction k with
  | zero => exact Nat.le_refl _
  | succ k ih => unfold cnt; split <;> omega
theorem cnt_same (f : Nat → Nat) (k : Nat) : cnt f f k = 0 := by
  induction k with
  | zero => rfl
  | succ k ih => unfold cnt; rw [ih, if_pos rfl]
theorem cnt_congr {f g f' g' : Nat → Nat} (k : Nat) (h : ∀ i, i < k → f i = f' i ∧ g i = g' i) : cnt f g k = cnt f' g' k := by
  induction k with
  | zero => rfl
  | succ k ih => unfold cnt; rw [ih (fun i hi => h i (by omega)), (h k (by omega)).1, (h k (by omega)).2]
/-- The least number of differences with which a state is reached. -/
def fine : List Nat := [10, 8, 7, 7, 7, 5, 6, 6, 5, 7, 4, 8, 4, 6, 5, 7, 3, 7, 6, 6, 4, 4, 7, 7, 4, 6, 5, 7, 5, 7, 6, 6, 2, 8, 5, 7, 5, 5, 4, 6, 3, 7, 4, 8, 6, 6, 7, 7, 3, 5, 6, 4, 4, 6, 7, 7, 4, 4, 5, 7, 5, 5, 6, 6]
def fi (s : Nat) : Nat := fine.getD s 0
/-- In how many symbols two steps differ. -/
def dd (s t b c : Nat) : Nat := (if o1 s b = o1 t c then 0 else 1) + (if o2 s b = o2 t c then 0 else 1)
def dz (s b : Nat) : Nat := (if o1 s b = 0 then 0 else 1) + (if o2 s b = 1 then 0 else 1)
theorem dd_dz : ∀ s t : Fin 64, ∀ b c : Fin 2, dd s.val t.val b.val c.val = dz (s.val ^^^ t.val) (b.val ^^^ c.val) := by decide +kernel
theorem fi_step : ∀ s : Fin 64, ∀ b : Fin 2, fi (nx s.val b.val) ≤ fi s.val + dz s.val b.val := by decide +kernel
theorem fi_first : dz 0 0 = 0 ∧ nx 0 0 = 0 ∧ fi (nx 0 1) ≤ dz 0 1 := by decide +kernel
theorem cnt_two (f g : Nat → Nat) (k : Nat) : cnt (outF f) (outF g) (2 * (k + 1)) = cnt (outF f) (outF g) (2 * k) + dd (stS f k) (stS g k) (f k) (g k) := by
  rw [show 2 * (k + 1) = 2 * k + 1 + 1 by omega]
  have e1 : ∀ f, outF f (2 * k) = o1 (stS f k) (f k) := fun f => by
    unfold outF; rw [if_pos (by omega), show 2 * k / 2 = k by omega]
  have e2 : ∀ f, outF f (2 * k + 1) = o2 (stS f k) (f k) := fun f => by
    unfold outF; rw [if_neg (by omega), show (2 * k + 1) / 2 = k by omega]
  simp only [cnt, e1, e2, dd]
  omega
theorem dist_inv (f g : Nat → Nat) (hf : ∀ i, f i < 2) (hg : ∀ i, g i < 2) (k : Nat) :
    ((∀ i, i < k → f i = g i) ∧ stS f k ^^^ stS g k = 0) ∨ fi (stS f k ^^^ stS g k) ≤ cnt (outF f) (outF g) (2 * k) := by
  induction k with
  | zero => left; exact ⟨fun i hi => by omega, by simp [stS]⟩
  | succ k ih =>
    have a1 := stS_lt f hf k; have a2 := stS_lt g hg k
    rw [cnt_two]
    have e1 := dd_dz ⟨stS f k, a1⟩ ⟨stS g k, a2⟩ ⟨f k, hf k⟩ ⟨g k, hg k⟩
    have e2 := nx_lin ⟨stS f k, a1⟩ ⟨stS g k, a2⟩ ⟨f k, hf k⟩ ⟨g k, hg k⟩
    have e3 := fi_step ⟨stS f k ^^^ stS g k, xor_lt64 a1 a2⟩ ⟨f k ^^^ g k, xor_lt2 (hf k) (hg k)⟩
    simp only at e1 e2 e3
    have e4 : stS f (k + 1) ^^^ stS g (k + 1) = nx (stS f k ^^^ stS g k) (f k ^^^ g k) := by rw [e2]; rfl
    rw [e4, e1]
    rcases ih with ⟨h1, h2⟩ | h
    · rw [h2]
      obtain ⟨q1, q2, q3⟩ := fi_first
      by_cases hk : f k = g k
      · left
        rw [hk, Nat.xor_self]
        exact ⟨fun i hi => by rcases Nat.lt_or_ge i k with h | h; exact h1 i h; rw [show i = k by omega, hk], q2⟩
      · right
        have : f k ^^^ g k = 1 := by
          have key : ∀ x y : Fin 2, x ≠ y → x.val ^^^ y.val = 1 := by decide
          exact key ⟨f k, hf k⟩ ⟨g k, hg k⟩ (by simpa using hk)
        rw [this]
        omega
    · right; omega
theorem bits_eq {a b : ByteArray} {n : Nat} (ha : a.size = n) (hb : b.size = n) (h : ∀ i, i < 8 * n + 6 → bitAt a i = bitAt b i) : a = b := by
  apply ba_ext (by omega)
  intro i hi
  have la := byteAt_lt a i
  have lb := byteAt_lt b i
  have key : ∀ d : ByteArray, d.size = n → ∀ j, j < 8 → bitAt d (8 * i + j) = byteAt d i / 2 ^ (7 - j) % 2 := fun d hd j hj => by
    unfold bitAt byteAt
    rw [if_pos (by omega), show (8 * i + j) / 8 = i by omega, show (8 * i + j) % 8 = j by omega]
  have e : ∀ j, j < 8 → byteAt a i / 2 ^ (7 - j) % 2 = byteAt b i / 2 ^ (7 - j) % 2 := fun j hj => by
    rw [← key a ha j hj, ← key b hb j hj]; exact h _ (by omega)
  have h0 := e 0 (by omega); have h1 := e 1 (by omega); have h2 := e 2 (by omega); have h3 := e 3 (by omega)
  have h4 := e 4 (by omega); have h5 := e 5 (by omega); have h6 := e 6 (by omega); have h7 := e 7 (by omega)
  simp only [Nat.reduceSub, Nat.reducePow] at h0 h1 h2 h3 h4 h5 h6 h7
  omega
/-- The plain law. -/
theorem dist_plain (a b : ByteArray) (n : Nat) (ha : a.size = n) (hb : b.size = n) :
    (a = b → cnt (outF (bitAt a)) (outF (bitAt b)) (16 * n + 12) = 0) ∧ (a ≠ b → 10 ≤ cnt (outF (bitAt a)) (outF (bitAt b)) (16 * n + 12)) := by
  refine ⟨fun h => by rw [h]; exact cnt_same _ _, fun h => ?_⟩
  have t : ∀ d : ByteArray, d.size = n → stS (bitAt d) (8 * n + 6) = 0 := fun d hd => stS_tail _ (bitAt_lt d) _ (fun i hi => by unfold bitAt; rw [if_neg (by omega)])
  have := dist_inv (bitAt a) (bitAt b) (bitAt_lt a) (bitAt_lt b) (8 * n + 6)
  rw [t a ha, t b hb] at this
  rcases this with ⟨h1, _⟩ | h1
  · exact (h (bits_eq ha hb h1)).elim
  · rw [show 16 * n + 12 = 2 * (8 * n + 6) by omega]
    exact h1
theorem toList_ne {a b : ByteArray} (h : ¬ a = b) : (a.toList == b.toList) = false := by
  rw [beq_eq_false_iff_ne, ByteArray.toList_eq, ByteArray.toList_eq]
  exact fun e => h (Go.WideShapes.bytes_inj e)
/-- How many of the first k are 1. -/
def ones (r : Nat → Nat) : Nat → Nat
  | 0 => 0
  | k + 1 => ones r k + r k
theorem sc_cnt {X : List Int} {f r : Nat → Nat} (hf : ∀ i, f i < 2) : ∀ k, (∀ i, i < k → r i < 2 ∧ pv X i = 14 * (r i : Int) - 7) → sc f X k = 7 * ((ones r k : Int) - (cnt f r k : Int))
  | 0, _ => by simp [sc, ones, cnt]
  | k + 1, h => by
    have ih := sc_cnt hf k (fun i hi => h i (by omega))
    obtain ⟨h1, h2⟩ := h k (by omega)
    have h3 := hf k
    simp only [sc, ones, cnt, ih, h2]
    have e1 : f k = 0 ∨ f k = 1 := by omega
    have e2 : r k = 0 ∨ r k = 1 := by omega
    rcases e1 with e1 | e1 <;> rcases e2 with e2 | e2 <;> simp [e1, e2] <;> omega
theorem cnt_tri (f g r : Nat → Nat) : ∀ k, cnt f g k ≤ cnt f r k + cnt g r k
  | 0 => by simp [cnt]
  | k + 1 => by
    have := cnt_tri f g r k
    simp only [cnt]
    by_cases h1 : f k = r k
    · by_cases h2 : g k = r k
      · rw [if_pos (h1.trans h2.symm), if_pos h1, if_pos h2]; omega
      · rw [if_pos h1, if_neg h2]; split <;> omega
    · rw [if_neg h1]; split <;> omega
theorem cnt_flip (f r : Nat → Nat) (q : Nat) (v : Nat) : ∀ k, cnt f (fun j => if j = q then v else r j) k ≤ cnt f r k + if q < k then 1 else 0
  | 0 => by simp [cnt]
  | k + 1 => by
    have ih := cnt_flip f r q v k
    simp only [cnt]
    by_cases h : k = q
    · subst h
      rw [if_neg (show ¬ k < k by omega)] at ih
      rw [if_pos (show k < k + 1 by omega)]
      simp only [if_true]
      split <;> split <;> omega
    · simp only [if_neg h]
      by_cases h2 : q < k
      · rw [if_pos h2] at ih; rw [if_pos (show q < k + 1 by omega)]; omega
      · rw [if_neg h2] at ih; rw [if_neg (show ¬ q < k + 1 by omega)]; omega
/-- Four inverted symbols do not hide a message. -/
theorem four_law {X : List Int} {n : Nat} {v : Int} {M : Nat} (h : P X (8 * n) (8 * n + 6) 0 = some (v, M)) (d : ByteArray) (hd : d.size = n) (r : Nat → Nat)
    (hr : ∀ i, i < 16 * n + 12 → r i < 2 ∧ pv X i = 14 * (r i : Int) - 7) (hc : cnt (outF (bitAt d)) r (16 * n + 12) ≤ 4) : msg n M = d := by
  refine (dec_only h d hd fun d' hd' => ?_).1
  by_cases e : d' = d
  · subst e; right; exact ⟨rfl, Nat.le_refl _⟩
  · left
    rw [sc_cnt (f := outF (bitAt d')) (outF_lt _) _ hr, sc_cnt (f := outF (bitAt d)) (outF_lt _) _ hr]
    have h1 := (dist_plain d' d n hd' hd).2 e
    have h2 := cnt_tri (outF (bitAt d')) (outF (bitAt d)) r (16 * n + 12)
    omega
end Go.Proofs.Ytbfgpjpfhbbdfaa
