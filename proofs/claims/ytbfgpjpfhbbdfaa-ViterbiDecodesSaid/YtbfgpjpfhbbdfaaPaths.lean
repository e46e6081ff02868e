/-
  The specification's paths in plain Lean: the strings of their bits, and the row of the next step behind k of 128 looks. Conditions: those that each names.
-/
import Derived.Test.YtbfgpjpfhbbdfaaLawp
namespace Go.Proofs.Ytbfgpjpfhbbdfaa
open Go.RowKit Kit
set_option linter.unusedVariables false
/-- The bits of a number, as a string of bytes 0 and 1. -/
def bstr (i M : Nat) : ByteArray := strF (fun j => M / 2 ^ (i - 1 - j) % 2) i
theorem bstr_size (i M : Nat) : (bstr i M).size = i := by unfold bstr; rw [strF_size]
theorem bstr_at (i M j : Nat) (hj : j < i) : byteAt (bstr i M) j = M / 2 ^ (i - 1 - j) % 2 := by
  unfold bstr; rw [strF_at _ _ _ (by omega), if_pos hj]
theorem byteAt_append (a b : ByteArray) (j : Nat) : byteAt (a ++ b) j = if j < a.size then byteAt a j else byteAt b (j - a.size) := by
  have e : a.data.toList.length = a.size := by simp
  unfold byteAt
  simp only [ByteArray.data_append, Array.toList_append, List.getD_eq_getElem?_getD]
  split
  · rw [List.getElem?_append_left (by omega)]
  · rw [List.getElem?_append_right (by omega), e]
theorem bstr_succ (i M b : Nat) (hb : b < 2) (B : ByteArray) (hB : B.size = 1) (hB0 : byteAt B 0 = b) : bstr i M ++ B = bstr (i + 1) (2 * M + b) := by
  refine ba_ext (by rw [ByteArray.size_append, bstr_size, bstr_size, hB]) fun j hj => ?_
  rw [ByteArray.size_append, bstr_size, hB] at hj
  rw [byteAt_append, bstr_size, bstr_at (i + 1) _ _ (by omega)]
  split
  · rename_i h
    rw [bstr_at _ _ _ h, show i + 1 - 1 - j = (i - 1 - j) + 1 by omega, Nat.pow_succ, Nat.mul_comm (2 ^ (i - 1 - j)) 2, ← Nat.div_div_eq_div_mul, show (2 * M + b) / 2 = M by omega]
  · rw [show j = i by omega, Nat.sub_self, hB0, show i + 1 - 1 - i = 0 by omega]; simp; omega
theorem top_digits (M M' i k : Nat) (h : ∀ j, j < k → M / 2 ^ (i - 1 - j) % 2 = M' / 2 ^ (i - 1 - j) % 2) (hM : M < 2 ^ i) (hM' : M' < 2 ^ i) : ∀ j, j ≤ k → j ≤ i → M / 2 ^ (i - j) = M' / 2 ^ (i - j)
  | 0, _, _ => by rw [Nat.sub_zero, Nat.div_eq_of_lt hM, Nat.div_eq_of_lt hM']
  | j + 1, hj, hi => by
    have ih := top_digits M M' i k h hM hM' j (by omega) (by omega)
    have hd := h j (by omega)
    rw [show i - 1 - j = i - (j + 1) by omega] at hd
    have e : ∀ x : Nat, x / 2 ^ (i - j) = x / 2 ^ (i - (j + 1)) / 2 := fun x => by
      rw [show i - j = i - (j + 1) + 1 by omega, Nat.pow_succ, Nat.div_div_eq_div_mul]
    rw [e M, e M'] at ih
    omega
theorem bstr_less_lt (i M M' : Nat) (hM : M < 2 ^ i) (hM' : M' < 2 ^ i) (h : Op.bytesLess (bstr i M).toList (bstr i M').toList = true) : M < M' := by
  rw [toList_data, toList_data] at h
  have e1 : (bstr i M).data.toList.length = i := by have := bstr_size i M; simpa using this
  have e2 : (bstr i M').data.toList.length = i := by have := bstr_size i M'; simpa using this
  obtain ⟨k, h1, h2, h3⟩ := less_at _ _ (by rw [e1, e2]) h
  rw [e1] at h1
  have hd : ∀ j, j < k → M / 2 ^ (i - 1 - j) % 2 = M' / 2 ^ (i - 1 - j) % 2 := fun j hj => by
    rw [← bstr_at i M j (by omega), ← bstr_at i M' j (by omega)]
    unfold byteAt
    rw [h2 j hj]
  have hk : M / 2 ^ (i - 1 - k) % 2 < M' / 2 ^ (i - 1 - k) % 2 := by
    rw [← bstr_at i M k h1, ← bstr_at i M' k h1]; exact h3
  have ht := top_digits M M' i k hd hM hM' k (Nat.le_refl _) (by omega)
  have e : ∀ x : Nat, x / 2 ^ (i - k) = x / 2 ^ (i - 1 - k) / 2 := fun x => by
    rw [show i - k = i - 1 - k + 1 by omega, Nat.pow_succ, Nat.div_div_eq_div_mul]
  rw [e M, e M'] at ht
  have hlt : M / 2 ^ (i - 1 - k) < M' / 2 ^ (i - 1 - k) := by omega
  rcases Nat.lt_or_ge M M' with h | h
  · exact h
  · have := Nat.div_le_div_right (c := 2 ^ (i - 1 - k)) h; omega
theorem less_total : ∀ (x y : List UInt8), x.length = y.length → Op.bytesLess x y = false → Op.bytesLess y x = false → x = y
  | [], [], _, _, _ => rfl
  | [], _ :: _, h, _, _ => by simp at h
  | _ :: _, [], h, _, _ => by simp at h
  | a :: x, b :: y, hl, h1, h2 => by
    simp only [Op.bytesLess, Bool.or_eq_false_iff, Bool.and_eq_false_imp, decide_eq_false_iff_not, beq_iff_eq] at h1 h2
    have e : a = b := by
      apply UInt8.toNat_inj.1
      have h3 := h1.1; have h4 := h2.1
      rw [UInt8.lt_iff_toNat_lt] at h3 h4
      omega
    subst e
    rw [less_total x y (by simpa using hl) (h1.2 rfl) (h2.2 rfl)]
theorem bstr_inj (i M M' : Nat) (hM : M < 2 ^ i) (hM' : M' < 2 ^ i) (h : bstr i M = bstr i M') : M = M' := by
  have := top_digits M M' i i (fun j hj => by rw [← bstr_at i M j hj, ← bstr_at i M' j hj, h]) hM hM' i (Nat.le_refl _) (Nat.le_refl _)
  simpa using this
theorem bstr_less (i M M' : Nat) (hM : M < 2 ^ i) (hM' : M' < 2 ^ i) : Op.bytesLess (bstr i M).toList (bstr i M').toList = decide (M < M') := by
  cases h : Op.bytesLess (bstr i M).toList (bstr i M').toList with
  | true => rw [decide_eq_true (bstr_less_lt i M M' hM hM' h)]
  | false =>
    rcases Nat.lt_trichotomy M M' with hl | rfl | hg
    · exfalso
      cases h2 : Op.bytesLess (bstr i M').toList (bstr i M).toList with
      | true => have := bstr_less_lt i M' M hM' hM h2; omega
      | false =>
        rw [toList_data, toList_data] at h h2
        have e1 : (bstr i M).data.toList.length = i := by have := bstr_size i M; simpa using this
        have e2 : (bstr i M').data.toList.length = i := by have := bstr_size i M'; simpa using this
        have e3 := less_total _ _ (by rw [e1, e2]) h h2
        have : bstr i M = bstr i M' := by
          cases hx : bstr i M; cases hy : bstr i M'
          rw [hx, hy] at e3
          congr 1
          exact Array.toList_inj.1 e3
        have := bstr_inj i M M' hM hM' this
        omega
    · simp
    · rw [decide_eq_false (by omega)]
theorem num_lt (f : Nat → Nat) (hf : ∀ i, f i < 2) : ∀ i, num f i < 2 ^ i
  | 0 => by simp [num]
  | i + 1 => by have := num_lt f hf i; have := hf i; simp only [num, Nat.pow_succ]; omega
theorem P_small {X : List Int} {T i s : Nat} {c : Int × Nat} (hs : s < 64) (h : P X T i s = some c) : c.2 < 2 ^ i := by
  obtain ⟨f, h1, _, _, _, h5⟩ := P_way X T i s c hs h
  rw [← h5]; exact num_lt f h1 i
/-- The best way to each state of the next step, behind k of 128 looks. -/
def Nx (X : List Int) (T i k t : Nat) : Option (Int × Nat) :=
  pick (if 4 * (t % 32) + t / 32 < k then cand X T i (P X T i (2 * (t % 32))) (2 * (t % 32)) (t / 32) else none)
    (if 4 * (t % 32) + 2 + t / 32 < k then cand X T i (P X T i (2 * (t % 32) + 1)) (2 * (t % 32) + 1) (t / 32) else none)
theorem pick_none (o : Option (Int × Nat)) : pick o none = o := by cases o <;> rfl
theorem Nx_zero (X : List Int) (T i t : Nat) : Nx X T i 0 t = none := by
  unfold Nx; rw [if_neg (by omega), if_neg (by omega)]; rfl
theorem Nx_end (X : List Int) (T i t : Nat) (ht : t < 64) : Nx X T i 128 t = P X T (i + 1) t := by
  unfold Nx; rw [if_pos (by omega), if_pos (by omega)]; rfl
theorem Nx_step (X : List Int) (T i s b : Nat) (hs : s < 64) (hb : b < 2) (t : Nat) (ht : t < 64) :
    Nx X T i (2 * s + b + 1) t = if t = nx s b then pick (Nx X T i (2 * s + b) t) (cand X T i (P X T i s) s b) else Nx X T i (2 * s + b) t := by
  have hn : nx s b = 32 * b + s / 2 := by unfold nx; omega
  rw [hn]
  split
  · rename_i h
    subst h
    have e1 : (32 * b + s / 2) % 32 = s / 2 := by omega
    have e2 : (32 * b + s / 2) / 32 = b := by omega
    unfold Nx
    rw [e1, e2]
    rcases Nat.mod_two_eq_zero_or_one s with h | h
    · rw [if_pos (by omega), if_neg (by omega), if_neg (by omega), if_neg (by omega), pick_none, show 2 * (s / 2) = s by omega]
      cases cand X T i (P X T i s) s b <;> rfl
    · rw [if_pos (by omega), if_pos (by omega), if_pos (by omega), if_neg (by omega), pick_none, show 2 * (s / 2) + 1 = s by omega]
  · rename_i h
    unfold Nx
    have a1 : (4 * (t % 32) + t / 32 < 2 * s + b + 1) ↔ (4 * (t % 32) + t / 32 < 2 * s + b) := by omega
    have a2 : (4 * (t % 32) + 2 + t / 32 < 2 * s + b + 1) ↔ (4 * (t % 32) + 2 + t / 32 < 2 * s + b) := by omega
    simp only [a1, a2]
theorem Nx_skip (X : List Int) (T i s b : Nat) (hs : s < 64) (hb : b < 2) (h : cand X T i (P X T i s) s b = none) (t : Nat) (ht : t < 64) : Nx X T i (2 * s + b + 1) t = Nx X T i (2 * s + b) t := by
  rw [Nx_step X T i s b hs hb t ht, h, pick_none]; split <;> rfl
theorem Nx_from {X : List Int} {T i k t : Nat} (ht : t < 64) {c : Int × Nat} (h : Nx X T i k t = some c) : ∃ s d, s < 64 ∧ P X T i s = some d ∧ c = (d.1 + eW X i s (t / 32), 2 * d.2 + t / 32) := by
  unfold Nx at h
  rcases pick_from h with h | h <;> split at h
  · obtain ⟨d, h1, _, h3⟩ := cand_some h; exact ⟨_, d, by omega, h1, h3⟩
  · cases h
  · obtain ⟨d, h1, _, h3⟩ := cand_some h; exact ⟨_, d, by omega, h1, h3⟩
  · cases h
theorem Nx_small {X : List Int} {T i k t : Nat} (ht : t < 64) {c : Int × Nat} (h : Nx X T i k t = some c) : c.2 < 2 ^ (i + 1) := by
  obtain ⟨s, d, hs, hP, rfl⟩ := Nx_from ht h
  have := P_small hs hP
  simp only [Nat.pow_succ]; omega
theorem Nx_bound {X : List Int} (hX : softL X = true) {T i k t : Nat} (ht : t < 64) (hi : 2 * i + 1 < X.length) {c : Int × Nat} (h : Nx X T i k t = some c) : -16 * ((i : Int) + 1) ≤ c.1 ∧ c.1 ≤ 16 * ((i : Int) + 1) := by
  obtain ⟨s, d, hs, hP, rfl⟩ := Nx_from ht h
  have := P_bound hX T i s d (by omega) hP
  have := eW_bound hX (i := i) (s := s) (b := t / 32) hi
  simp only
  omega
end Go.Proofs.Ytbfgpjpfhbbdfaa
