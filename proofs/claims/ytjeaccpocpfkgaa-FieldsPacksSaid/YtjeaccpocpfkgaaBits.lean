/-
  Plain laws on bits of lists of bytes: reading and writing a bit, a field, and when two lists are equal. Conditions: those that each theorem names.
-/
import Derived.WalkKit
namespace Go.Proofs.Ytjeaccpocpfkgaa
set_option linter.unusedVariables false
def bitOf (L : List Nat) (i : Nat) : Nat := L.getD (i / 8) 0 / 2 ^ (7 - i % 8) % 2
theorem bitOf_lt (L : List Nat) (i : Nat) : bitOf L i < 2 := Nat.mod_lt _ (by omega)
def byteB (c m x : Nat) : Nat := c - (c / 2 ^ m % 2) * 2 ^ m + x * 2 ^ m
def setB (L : List Nat) (i x : Nat) : List Nat := L.set (i / 8) (byteB (L.getD (i / 8) 0) (7 - i % 8) x)
def okL (L : List Nat) : Prop := ∀ c ∈ L, c < 256
theorem byteB_fin : ∀ (c : Fin 256) (m : Fin 8) (x : Fin 2), byteB c m x < 256 ∧ ∀ j : Fin 8, byteB c m x / 2 ^ j.val % 2 = if j = m then x.val else c.val / 2 ^ j.val % 2 := by decide +kernel
theorem byteB_lt {c m x : Nat} (hc : c < 256) (hm : m < 8) (hx : x < 2) : byteB c m x < 256 := (byteB_fin ⟨c, hc⟩ ⟨m, hm⟩ ⟨x, hx⟩).1
theorem byteB_bit {c m x j : Nat} (hc : c < 256) (hm : m < 8) (hx : x < 2) (hj : j < 8) : byteB c m x / 2 ^ j % 2 = if j = m then x else c / 2 ^ j % 2 := by
  have := (byteB_fin ⟨c, hc⟩ ⟨m, hm⟩ ⟨x, hx⟩).2 ⟨j, hj⟩
  simpa [Fin.ext_iff] using this
theorem byte_sum : ∀ c : Fin 256, c.val = c.val / 2 ^ 0 % 2 * 1 + c.val / 2 ^ 1 % 2 * 2 + c.val / 2 ^ 2 % 2 * 4 + c.val / 2 ^ 3 % 2 * 8 + c.val / 2 ^ 4 % 2 * 16 + c.val / 2 ^ 5 % 2 * 32 + c.val / 2 ^ 6 % 2 * 64 + c.val / 2 ^ 7 % 2 * 128 := by decide +kernel
theorem byte_ext {c d : Nat} (hc : c < 256) (hd : d < 256) (h : ∀ j, j < 8 → c / 2 ^ j % 2 = d / 2 ^ j % 2) : c = d := by
  have e1 := byte_sum ⟨c, hc⟩
  have e2 := byte_sum ⟨d, hd⟩
  have h0 := h 0 (by omega)
  have h1 := h 1 (by omega)
  have h2 := h 2 (by omega)
  have h3 := h 3 (by omega)
  have h4 := h 4 (by omega)
  have h5 := h 5 (by omega)
  have h6 := h 6 (by omega)
  have h7 := h 7 (by omega)
  simp only at e1 e2
  omega
theorem okL_get {L : List Nat} (h : okL L) (i : Nat) : L.getD i 0 < 256 := by
  rw [List.getD_eq_getElem?_getD]
  rcases hx : L[i]? with _ | x
  · simp
  · exact h x (List.mem_of_getElem? hx)
theorem setB_len (L : List Nat) (i x : Nat) : (setB L i x).length = L.length := by simp [setB]
theorem setB_ok {L : List Nat} (h : okL L) (i x : Nat) (hx : x < 2) : okL (setB L i x) := by
  intro c hc
  unfold setB at hc
  rcases List.mem_or_eq_of_mem_set hc with h' | h'
  · exact h c h'
  · rw [h']; exact byteB_lt (okL_get h _) (by omega) hx
theorem setB_bit {L : List Nat} (h : okL L) (i x j : Nat) (hx : x < 2) (hi : i < 8 * L.length) : bitOf (setB L i x) j = if j = i then x else bitOf L j := by
  unfold bitOf setB
  by_cases e : j / 8 = i / 8
  · have e1 : (L.set (i / 8) (byteB (L.getD (i / 8) 0) (7 - i % 8) x)).getD (j / 8) 0 = byteB (L.getD (i / 8) 0) (7 - i % 8) x := by
      rw [e, List.getD_eq_getElem?_getD, List.getElem?_set_self (by omega)]; rfl
    rw [e1, byteB_bit (okL_get h _) (by omega) hx (by omega), e]
    by_cases e2 : j = i
    · subst e2; simp
    · rw [if_neg e2, if_neg (by omega)]
  · rw [List.getD_eq_getElem?_getD, List.getElem?_set_ne (by omega), if_neg (by rintro rfl; exact e rfl), List.getD_eq_getElem?_getD]
theorem bits_ext {L M : List Nat} (hl : L.length = M.length) (h1 : okL L) (h2 : okL M) (h : ∀ j, j < 8 * L.length → bitOf L j = bitOf M j) : L = M := by
  have e : ∀ i, i < L.length → L.getD i 0 = M.getD i 0 := fun i hi => by
    refine byte_ext (okL_get h1 _) (okL_get h2 _) (fun j hj => ?_)
    have := h (8 * i + (7 - j)) (by omega)
    unfold bitOf at this
    rw [show (8 * i + (7 - j)) / 8 = i by omega, show 7 - (8 * i + (7 - j)) % 8 = j by omega] at this
    exact this
  apply List.ext_getElem hl
  intro i hi hi'
  have := e i hi
  rw [List.getD_eq_getElem?_getD, List.getD_eq_getElem?_getD, List.getElem?_eq_getElem hi, List.getElem?_eq_getElem hi'] at this
  exact this
/-- k bits of v written into a field, the lowest first. -/
def wrB (L : List Nat) (a w v : Nat) : Nat → List Nat
  | 0 => L
  | k + 1 => setB (wrB L a w v k) (a + w - 1 - k) (v / 2 ^ k % 2)
/-- k bits of v written into a field, the highest first. -/
def sfB (L : List Nat) (a w v : Nat) : Nat → List Nat
  | 0 => L
  | k + 1 => setB (sfB L a w v k) (a + k) (v / 2 ^ (w - 1 - k) % 2)
/-- The list with a field replaced. -/
def put (L : List Nat) (a w v : Nat) : List Nat := wrB L a w v w
theorem wrB_len (L : List Nat) (a w v : Nat) : ∀ k, (wrB L a w v k).length = L.length
  | 0 => rfl
  | k + 1 => by rw [wrB, setB_len, wrB_len]
theorem wrB_ok {L : List Nat} (h : okL L) (a w v : Nat) : ∀ k, okL (wrB L a w v k)
  | 0 => h
  | k + 1 => setB_ok (wrB_ok h a w v k) _ _ (Nat.mod_lt _ (by omega))
theorem sfB_len (L : List Nat) (a w v : Nat) : ∀ k, (sfB L a w v k).length = L.length
  | 0 => rfl
  | k + 1 => by rw [sfB, setB_len, sfB_len]
theorem sfB_ok {L : List Nat} (h : okL L) (a w v : Nat) : ∀ k, okL (sfB L a w v k)
  | 0 => h
  | k + 1 => setB_ok (sfB_ok h a w v k) _ _ (Nat.mod_lt _ (by omega))
theorem wrB_bit {L : List Nat} (h : okL L) {a w : Nat} (v j : Nat) (ha : a + w ≤ 8 * L.length) : ∀ k, k ≤ w → bitOf (wrB L a w v k) j = if a + w - k ≤ j ∧ j < a + w then v / 2 ^ (a + w - 1 - j) % 2 else bitOf L j
  | 0, _ => by rw [wrB, if_neg (by omega)]
  | k + 1, hk => by
    rw [wrB, setB_bit (wrB_ok h a w v k) _ _ _ (Nat.mod_lt _ (by omega)) (by rw [wrB_len]; omega), wrB_bit h v j ha k (by omega)]
    by_cases e : j = a + w - 1 - k
    · rw [if_pos e, if_pos (by omega), show a + w - 1 - j = k by omega]
    · rw [if_neg e]
      by_cases c : a + w - k ≤ j ∧ j < a + w
      · rw [if_pos c, if_pos (by omega)]
      · rw [if_neg c, if_neg (by omega)]
theorem sfB_bit {L : List Nat} (h : okL L) {a w : Nat} (v j : Nat) (ha : a + w ≤ 8 * L.length) : ∀ k, k ≤ w → bitOf (sfB L a w v k) j = if a ≤ j ∧ j < a + k then v / 2 ^ (a + w - 1 - j) % 2 else bitOf L j
  | 0, _ => by rw [sfB, if_neg (by omega)]
  | k + 1, hk => by
    rw [sfB, setB_bit (sfB_ok h a w v k) _ _ _ (Nat.mod_lt _ (by omega)) (by rw [sfB_len]; omega), sfB_bit h v j ha k (by omega)]
    by_cases e : j = a + k
    · rw [if_pos e, if_pos (by omega), show a + w - 1 - j = w - 1 - k by omega]
    · rw [if_neg e]
      by_cases c : a ≤ j ∧ j < a + k
      · rw [if_pos c, if_pos (by omega)]
      · rw [if_neg c, if_neg (by omega)]
theorem put_len (L : List Nat) (a w v : Nat) : (put L a w v).length = L.length := wrB_len _ _ _ _ _
theorem put_ok {L : List Nat} (h : okL L) (a w v : Nat) : okL (put L a w v) := wrB_ok h _ _ _ _
theorem put_bit {L : List Nat} (h : okL L) {a w : Nat} (v j : Nat) (ha : a + w ≤ 8 * L.length) : bitOf (put L a w v) j = if a ≤ j ∧ j < a + w then v / 2 ^ (a + w - 1 - j) % 2 else bitOf L j := by
  unfold put
  rw [wrB_bit h v j ha w (Nat.le_refl _), Nat.add_sub_cancel]
theorem sf_put {L : List Nat} (h : okL L) {a w : Nat} (v : Nat) (ha : a + w ≤ 8 * L.length) : sfB L a w v w = put L a w v := by
  refine bits_ext (by rw [sfB_len, put_len]) (sfB_ok h _ _ _ _) (put_ok h _ _ _) (fun j _ => ?_)
  rw [sfB_bit h v j ha w (Nat.le_refl _), put_bit h v j ha]
/-- The number of k bits from a on. -/
def numB (L : List Nat) (a : Nat) : Nat → Nat
  | 0 => 0
  | k + 1 => 2 * numB L a k + bitOf L (a + k)
theorem numB_lt (L : List Nat) (a : Nat) : ∀ k, numB L a k < 2 ^ k
  | 0 => by simp [numB]
  | k + 1 => by have := numB_lt L a k; have := bitOf_lt L (a + k); rw [numB, Nat.pow_succ]; omega
theorem numB_bits (L : List Nat) (a : Nat) : ∀ k i, i < k → numB L a k / 2 ^ (k - 1 - i) % 2 = bitOf L (a + i)
  | 0, _, h => by omega
  | k + 1, i, h => by
    have hb := bitOf_lt L (a + k)
    by_cases e : i = k
    · subst e
      rw [show i + 1 - 1 - i = 0 by omega, numB]; simp; omega
    · rw [numB, show k + 1 - 1 - i = (k - 1 - i) + 1 by omega, Nat.pow_succ, Nat.mul_comm (2 ^ _) 2, ← Nat.div_div_eq_div_mul,
        show (2 * numB L a k + bitOf L (a + k)) / 2 = numB L a k by omega]
      exact numB_bits L a k i (by omega)
theorem numB_congr {L M : List Nat} {a b : Nat} : ∀ k, (∀ i, i < k → bitOf L (a + i) = bitOf M (b + i)) → numB L a k = numB M b k
  | 0, _ => rfl
  | k + 1, h => by rw [numB, numB, numB_congr k (fun i hi => h i (by omega)), h k (by omega)]
theorem numB_of {L : List Nat} {a v : Nat} : ∀ k w, k ≤ w → (∀ i, i < k → bitOf L (a + i) = v / 2 ^ (w - 1 - i) % 2) → numB L a k = v / 2 ^ (w - k) % 2 ^ k
  | 0, w, _, _ => by simp [numB]; omega
  | k + 1, w, hk, h => by
    rw [numB, numB_of k w (by omega) (fun i hi => h i (by omega)), h k (by omega), show w - k = (w - (k + 1)) + 1 by omega, show w - 1 - k = w - (k + 1) by omega]
    generalize w - (k + 1) = m
    rw [Nat.pow_succ, ← Nat.div_div_eq_div_mul]
    generalize v / 2 ^ m = x
    rw [show 2 ^ (k + 1) = 2 * 2 ^ k by rw [Nat.pow_succ]; omega, Nat.mod_mul]
    omega
theorem numB_put {L : List Nat} (h : okL L) {a w v : Nat} (ha : a + w ≤ 8 * L.length) (hv : v < 2 ^ w) : numB (put L a w v) a w = v := by
  rw [numB_of (v := v) w w (Nat.le_refl _) (fun i hi => by rw [put_bit h v _ ha, if_pos (by omega), show a + w - 1 - (a + i) = w - 1 - i by omega])]
  simp [Nat.mod_eq_of_lt hv]
/-- Writing what a field holds changes nothing. -/
theorem put_same {L : List Nat} (h : okL L) {a w : Nat} (ha : a + w ≤ 8 * L.length) : put L a w (numB L a w) = L := by
  refine bits_ext (put_len _ _ _ _) (put_ok h _ _ _) h (fun j hj => ?_)
  rw [put_bit h _ _ ha]
  split
  · rename_i c
    have := numB_bits L a w (j - a) (by omega)
    rw [show a + (j - a) = j by omega] at this
    rw [← this, show a + w - 1 - j = w - 1 - (j - a) by omega]
  · rfl
theorem put_comm {L : List Nat} (h : okL L) {a w v b x u : Nat} (ha : a + w ≤ 8 * L.length) (hb : b + x ≤ 8 * L.length) (hd : a + w ≤ b ∨ b + x ≤ a) : put (put L a w v) b x u = put (put L b x u) a w v := by
  refine bits_ext (by simp only [put_len]) (put_ok (put_ok h _ _ _) _ _ _) (put_ok (put_ok h _ _ _) _ _ _) (fun j hj => ?_)
  rw [put_bit (put_ok h _ _ _) _ _ (by rw [put_len]; exact hb), put_bit h _ _ ha, put_bit (put_ok h _ _ _) _ _ (by rw [put_len]; exact ha), put_bit h _ _ hb]
  by_cases c1 : b ≤ j ∧ j < b + x
  · rw [if_pos c1, if_neg (by omega), if_pos c1]
  · rw [if_neg c1]
    by_cases c2 : a ≤ j ∧ j < a + w
    · rw [if_pos c2, if_pos c2]
    · rw [if_neg c2, if_neg c2, if_neg c1]
end Go.Proofs.Ytjeaccpocpfkgaa
