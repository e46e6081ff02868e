/-
  Plain laws on numbers of 17 digits to the base 65536. Conditions: those that each theorem names.
-/
import Derived.WalkKit
namespace Go.Proofs.Ytfjhlgmdkkdooaa
set_option linter.unusedVariables false
structure okB (L : List Nat) : Prop where
  len : L.length = 17
  lt : ∀ i, L.getD i 0 < 65536
/-- The number of the lowest k digits. -/
def pv (L : List Nat) : Nat → Nat
  | 0 => 0
  | k + 1 => pv L k + L.getD k 0 * 65536 ^ k
theorem pv0 (L : List Nat) : pv L 0 = 0 := rfl
def val (L : List Nat) : Nat := pv L 17
theorem set_get (L : List Nat) (i j x : Nat) (hi : i < L.length) : (L.set i x).getD j 0 = if j = i then x else L.getD j 0 := by
  rw [List.getD_eq_getElem?_getD, List.getElem?_set]
  by_cases e : j = i
  · subst e; simp [hi]
  · rw [if_neg (by omega), if_neg e, List.getD_eq_getElem?_getD]
theorem okB.set {L : List Nat} (h : okB L) (i x : Nat) (hx : x < 65536) : okB (L.set i x) := by
  refine ⟨by rw [List.length_set, h.len], fun j => ?_⟩
  by_cases hi : i < L.length
  · rw [set_get _ _ _ _ hi]; split
    · exact hx
    · exact h.lt j
  · rw [List.set_eq_of_length_le (by omega)]; exact h.lt j
theorem pv_congr {L M : List Nat} : ∀ k, (∀ i, i < k → L.getD i 0 = M.getD i 0) → pv L k = pv M k
  | 0, _ => rfl
  | k + 1, h => by rw [pv, pv, pv_congr k (fun i hi => h i (by omega)), h k (by omega)]
theorem pv_lt {L : List Nat} (h : ∀ i, L.getD i 0 < 65536) : ∀ k, pv L k < 65536 ^ k
  | 0 => by simp [pv]
  | k + 1 => by
    have h1 := pv_lt h k
    have h2 := h k
    rw [pv, Nat.pow_succ]
    have : L.getD k 0 * 65536 ^ k ≤ 65535 * 65536 ^ k := Nat.mul_le_mul_right _ (by omega)
    omega
theorem pv_set {L : List Nat} {i x : Nat} (k : Nat) (hk : k ≤ i) : pv (L.set i x) k = pv L k :=
  pv_congr k (fun j hj => by rw [List.getD_eq_getElem?_getD, List.getElem?_set_ne (by omega), List.getD_eq_getElem?_getD])
theorem pv_top {L M : List Nat} : ∀ n i, i ≤ n → (∀ j, i ≤ j → j < n → L.getD j 0 = M.getD j 0) → pv L n + pv M i = pv M n + pv L i
  | 0, i, hi, _ => by obtain rfl : i = 0 := by omega
                      omega
  | n + 1, i, hi, h => by
    by_cases e : i = n + 1
    · subst e; omega
    · have := pv_top n i (by omega) (fun j h1 h2 => h j h1 (by omega))
      rw [pv, pv, h n (by omega) (by omega)]
      omega
theorem pv_zero {L : List Nat} {n i : Nat} (hi : i ≤ n) (h : ∀ j, i ≤ j → j < n → L.getD j 0 = 0) : pv L n = pv L i := by
  induction n with
  | zero => obtain rfl : i = 0 := by omega
            rfl
  | succ n ih =>
    by_cases e : i = n + 1
    · subst e; rfl
    · rw [pv, h n (by omega) (by omega), ih (by omega) (fun j h1 h2 => h j h1 (by omega))]; omega
theorem less_of {A B : List Nat} (hA : okB A) (hB : okB B) {i : Nat} (hi : i < 17) (he : ∀ j, i < j → j < 17 → A.getD j 0 = B.getD j 0) (hl : A.getD i 0 < B.getD i 0) : val A < val B := by
  have h1 := pv_top 17 (i + 1) (by omega) (fun j h1 h2 => he j (by omega) h2)
  have h2 := pv_lt hA.lt i
  have h3 : pv A (i + 1) < pv B (i + 1) := by
    rw [pv, pv]
    have : (A.getD i 0 + 1) * 65536 ^ i ≤ B.getD i 0 * 65536 ^ i := Nat.mul_le_mul_right _ (by omega)
    rw [Nat.add_mul] at this
    omega
  unfold val; omega
theorem less_dec {A B : List Nat} (hA : okB A) (hB : okB B) {i : Nat} (hi : i < 17) (he : ∀ j, i < j → j < 17 → A.getD j 0 = B.getD j 0) (hn : A.getD i 0 ≠ B.getD i 0) : decide (val A < val B) = decide (A.getD i 0 < B.getD i 0) := by
  rw [decide_eq_decide]
  rcases Nat.lt_or_ge (A.getD i 0) (B.getD i 0) with h | h
  · exact ⟨fun _ => h, fun _ => less_of hA hB hi he h⟩
  · have := less_of hB hA hi (fun j h1 h2 => (he j h1 h2).symm) (by omega)
    exact ⟨fun h' => by omega, fun h' => by omega⟩
theorem less_eq {A B : List Nat} (he : ∀ j, j < 17 → A.getD j 0 = B.getD j 0) : decide (val A < val B) = false := by
  have := pv_congr (L := A) (M := B) 17 he
  unfold val; rw [this]; simp
theorem half_step {A D : List Nat} {k : Nat} (h : pv A k + (A.getD k 0 % 2) * 65536 ^ k = 2 * pv D k + A.getD 0 0 % 2) (hd : D.getD k 0 = (A.getD k 0 + A.getD (k + 1) 0 % 2 * 65536) / 2) :
    pv A (k + 1) + (A.getD (k + 1) 0 % 2) * 65536 ^ (k + 1) = 2 * pv D (k + 1) + A.getD 0 0 % 2 := by
  rw [pv, pv, hd, Nat.pow_succ]
  generalize A.getD k 0 = a at *
  generalize A.getD (k + 1) 0 % 2 = b at *
  generalize 65536 ^ k = p at *
  have e : a + b * 65536 = 2 * ((a + b * 65536) / 2) + a % 2 := by omega
  have e2 : (a + b * 65536) * p = 2 * ((a + b * 65536) / 2 * p) + a % 2 * p := by
    rw [← Nat.mul_assoc, ← Nat.add_mul, ← e]
  rw [Nat.add_mul] at e2
  have e3 : b * 65536 * p = b * (p * 65536) := by rw [Nat.mul_assoc, Nat.mul_comm 65536 p]
  omega
theorem half_end {A D : List Nat} (hA : A.length = 17) (h : pv A 17 + (A.getD 17 0 % 2) * 65536 ^ 17 = 2 * pv D 17 + A.getD 0 0 % 2) : val D = val A / 2 := by
  have : A.getD 17 0 = 0 := by rw [List.getD_eq_getElem?_getD, List.getElem?_eq_none (by omega)]; rfl
  rw [this] at h
  unfold val; omega
theorem add_step {A B D : List Nat} {k c : Nat} (h : pv D k + c * 65536 ^ k = pv A k + pv B k) (hd : D.getD k 0 = (c + A.getD k 0 + B.getD k 0) % 65536) :
    pv D (k + 1) + (c + A.getD k 0 + B.getD k 0) / 65536 * 65536 ^ (k + 1) = pv A (k + 1) + pv B (k + 1) := by
  rw [pv, pv, pv, hd, Nat.pow_succ]
  generalize A.getD k 0 = a at *
  generalize B.getD k 0 = b at *
  generalize 65536 ^ k = p at *
  have e := Nat.div_add_mod (c + a + b) 65536
  have e2 : (c + a + b) * p = (c + a + b) / 65536 * (p * 65536) + (c + a + b) % 65536 * p := by
    rw [Nat.mul_comm p 65536, ← Nat.mul_assoc, ← Nat.add_mul]
    congr 1
    omega
  rw [Nat.add_mul, Nat.add_mul] at e2
  omega
theorem add_end {A B D : List Nat} {c : Nat} (h : pv D 17 + c * 65536 ^ 17 = pv A 17 + pv B 17) (hs : val A + val B < 65536 ^ 17) : val D = val A + val B := by
  unfold val at *
  generalize 65536 ^ 17 = p at *
  rcases c with _ | n
  · omega
  · rw [Nat.add_mul] at h; omega
theorem mul_step {X X' : List Nat} {i k c a b V T : Nat} (hX : X.length = 17) (hik : i + k < 17) (h : pv X 17 + c * 65536 ^ (i + k) = V + a * T * 65536 ^ i) (hx : X' = X.set (i + k) ((c + X.getD (i + k) 0 + a * b) % 65536)) :
    pv X' 17 + (c + X.getD (i + k) 0 + a * b) / 65536 * 65536 ^ (i + (k + 1)) = V + a * (T + b * 65536 ^ k) * 65536 ^ i := by
  have key : ∀ n, i + k < n → n ≤ 17 → pv X' n + X.getD (i + k) 0 * 65536 ^ (i + k) = pv X n + (c + X.getD (i + k) 0 + a * b) % 65536 * 65536 ^ (i + k) := by
    intro n
    induction n with
    | zero => intro h; omega
    | succ n ih =>
      intro h1 h2
      rw [pv, pv]
      by_cases e : n = i + k
      · subst e
        rw [hx, pv_set _ (Nat.le_refl _), set_get _ _ _ _ (by omega), if_pos rfl]
        omega
      · have := ih (by omega) (by omega)
        rw [hx, set_get _ _ _ _ (by omega), if_neg e, ← hx]
        omega
  have h1 := key 17 (by omega) (by omega)
  generalize X.getD (i + k) 0 = x at *
  have e0 := Nat.div_add_mod (c + x + a * b) 65536
  rw [show i + (k + 1) = (i + k) + 1 by omega, Nat.pow_succ]
  have e1 : a * (T + b * 65536 ^ k) * 65536 ^ i = a * T * 65536 ^ i + a * b * 65536 ^ (i + k) := by
    rw [Nat.mul_add, Nat.add_mul, Nat.pow_add, ← Nat.mul_assoc a b]
    congr 1
    rw [Nat.mul_assoc, Nat.mul_assoc, Nat.mul_comm (65536 ^ k)]
    simp [Nat.mul_assoc]
  rw [e1]
  generalize 65536 ^ (i + k) = p at *
  generalize a * b = ab at *
  have e2 : (c + x + ab) * p = (c + x + ab) / 65536 * (p * 65536) + (c + x + ab) % 65536 * p := by
    rw [Nat.mul_comm p 65536, ← Nat.mul_assoc, ← Nat.add_mul]
    congr 1
    omega
  rw [Nat.add_mul, Nat.add_mul] at e2
  omega
theorem pv_mono (L : List Nat) : ∀ n i, i ≤ n → pv L i ≤ pv L n
  | 0, i, h => by obtain rfl : i = 0 := by omega
                  exact Nat.le_refl _
  | n + 1, i, h => by
    by_cases e : i = n + 1
    · rw [e]; exact Nat.le_refl _
    · rw [pv]; exact Nat.le_trans (pv_mono L n i (by omega)) (Nat.le_add_right _ _)
theorem times_arith {x c p t u : Nat} (h : x + c * p = t) (h1 : t < p) : x = t := by
  rcases c with _ | c
  · rw [Nat.zero_mul] at h; exact h
  · rw [Nat.add_mul, Nat.one_mul] at h
    generalize c * p = q at *
    omega
theorem times_end {X A B : List Nat} {c n : Nat} (hA : okB A) (hB : okB B) (h9 : val B < 65536 ^ 8) (h : pv X 17 + c * 65536 ^ (n + 9) = pv A n * pv B 9 + A.getD n 0 * pv B 9 * 65536 ^ n) : pv X 17 = pv A (n + 1) * pv B 9 := by
  have e : pv A (n + 1) * pv B 9 = pv A n * pv B 9 + A.getD n 0 * pv B 9 * 65536 ^ n := by
    rw [pv, Nat.add_mul, Nat.mul_right_comm]
  rw [← e] at h
  have h3 : pv A (n + 1) * pv B 9 < 65536 ^ (n + 1) * 65536 ^ 8 := Nat.mul_lt_mul'' (pv_lt hA.lt (n + 1)) (Nat.lt_of_le_of_lt (pv_mono B 17 9 (by decide)) h9)
  rw [← Nat.pow_add, show n + 1 + 8 = n + 9 from rfl] at h3
  exact times_arith (u := 0) h h3
theorem small_arith {a b c p q : Nat} (h : a < q) (h3 : b + (c + 1) * p ≤ a) (h4 : q ≤ p) : False := by
  rw [Nat.add_mul, Nat.one_mul] at h3
  generalize c * p = r at *
  omega
theorem pv_dig (L : List Nat) : ∀ n j, j < n → pv L j + L.getD j 0 * 65536 ^ j ≤ pv L n
  | 0, j, h => by omega
  | n + 1, j, h => by
    rw [pv]
    by_cases e : j = n
    · subst e; exact Nat.le_refl _
    · exact Nat.le_trans (pv_dig L n j (by omega)) (Nat.le_add_right _ _)
theorem pv_small {L : List Nat} {i : Nat} (hi : i ≤ 17) (h : val L < 65536 ^ i) : val L = pv L i :=
  pv_zero hi (fun j h1 h2 => by
    have h3 := pv_dig L 17 j h2
    rcases hg : L.getD j 0 with _ | g
    · rfl
    · rw [hg] at h3
      exact (small_arith h h3 (Nat.pow_le_pow_right (by decide) h1)).elim)
end Go.Proofs.Ytfjhlgmdkkdooaa
