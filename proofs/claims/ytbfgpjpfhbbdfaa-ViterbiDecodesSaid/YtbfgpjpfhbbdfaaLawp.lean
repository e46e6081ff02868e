/-
  What Decode answers, in plain Lean: its message's sum is the greatest of all messages of its length, and it is the least of those that have it. Conditions: those that each names.
-/
import Derived.Test.YtbfgpjpfhbbdfaaDecb
namespace Go.Proofs.Ytbfgpjpfhbbdfaa
open Go.RowKit Kit
set_option linter.unusedVariables false
theorem bitAt_F (f : Nat → Nat) (n k : Nat) (hf : ∀ i, f i < 256) : bitAt (strF f n) k = if k / 8 < n then f (k / 8) / 2 ^ (7 - k % 8) % 2 else 0 := by
  unfold bitAt
  rw [strF_size]
  split
  · have := strF_at f n (k / 8) (hf _)
    unfold byteAt at this
    rw [this, if_pos (by assumption)]
  · rfl
theorem bitAt_far (d : ByteArray) (i : Nat) (h : 8 * d.size ≤ i) : bitAt d i = 0 := by unfold bitAt; rw [if_neg (by omega)]
theorem stS_tail (f : Nat → Nat) (hf : ∀ i, f i < 2) (k : Nat) (h : ∀ i, k ≤ i → f i = 0) : stS f (k + 6) = 0 := by
  have h0 := stS_lt f hf k
  have e : ∀ j, k ≤ j → stS f (j + 1) = stS f j / 2 := fun j hj => by
    simp only [stS, nx, h j hj]; omega
  rw [e (k + 5) (by omega), e (k + 4) (by omega), e (k + 3) (by omega), e (k + 2) (by omega), e (k + 1) (by omega), e k (by omega)]
  omega
theorem dec_ex (X : List Int) (n : Nat) : ∃ v M, P X (8 * n) (8 * n + 6) 0 = some (v, M) := by
  obtain ⟨c, h, _⟩ := P_opt X (8 * n) (fun _ => 0) (by simp) (by simp) (8 * n + 6)
  rw [stS_tail (fun _ => 0) (by simp) (8 * n) (by simp)] at h
  exact ⟨c.1, c.2, h⟩
theorem dec_best {X : List Int} {n : Nat} {v : Int} {M : Nat} (h : P X (8 * n) (8 * n + 6) 0 = some (v, M)) (d : ByteArray) (hd : d.size = n) : sc (outF (bitAt d)) X (16 * n + 12) < v ∨ (sc (outF (bitAt d)) X (16 * n + 12) = v ∧ M ≤ num (bitAt d) (8 * n + 6)) := by
  obtain ⟨c, h1, h2⟩ := P_opt X (8 * n) (bitAt d) (bitAt_lt d) (fun i hi => bitAt_far d i (by omega)) (8 * n + 6)
  rw [stS_tail (bitAt d) (bitAt_lt d) (8 * n) (fun i hi => bitAt_far d i (by omega)), h] at h1
  simp only [Option.some.injEq] at h1
  subst h1
  rw [show 2 * (8 * n + 6) = 16 * n + 12 by omega] at h2
  exact h2
theorem obv_bit (f : Nat → Nat) (hf : ∀ i, f i < 2) (j r : Nat) (hr : r < 8) : obv f 0 j / 2 ^ (7 - r) % 2 = f (8 * j + r) := by
  have := hf (8 * j); have := hf (8 * j + 1); have := hf (8 * j + 2); have := hf (8 * j + 3); have := hf (8 * j + 4); have := hf (8 * j + 5); have := hf (8 * j + 6); have := hf (8 * j + 7)
  unfold obv
  simp only [Nat.zero_le, if_true]
  have hc : r = 0 ∨ r = 1 ∨ r = 2 ∨ r = 3 ∨ r = 4 ∨ r = 5 ∨ r = 6 ∨ r = 7 := by omega
  rcases hc with rfl | rfl | rfl | rfl | rfl | rfl | rfl | rfl <;> simp <;> omega
theorem msg_size (n M : Nat) : (msg n M).size = n := by unfold msg; rw [strF_size]
theorem msg_bit (n M i : Nat) (hi : i < 8 * n) : bitAt (msg n M) i = fM n M i := by
  unfold msg
  rw [bitAt_F _ _ _ (fun j => obv_lt (fM n M) (fM_lt n M) 0 j), if_pos (by omega), obv_bit _ (fM_lt n M) _ _ (by omega), show 8 * (i / 8) + i % 8 = i by omega]
theorem dec_way {X : List Int} {n : Nat} {v : Int} {M : Nat} (h : P X (8 * n) (8 * n + 6) 0 = some (v, M)) : sc (outF (bitAt (msg n M))) X (16 * n + 12) = v ∧ num (bitAt (msg n M)) (8 * n + 6) = M := by
  obtain ⟨f, h1, h2, h3, h4, h5⟩ := P_way X (8 * n) (8 * n + 6) 0 (v, M) (by omega) h
  have e : ∀ j, j < 8 * n + 6 → bitAt (msg n M) j = f j := fun j hj => by
    rcases Nat.lt_or_ge j (8 * n) with hl | hl
    · rw [msg_bit n M j hl]
      have := num_bit f h1 (8 * n + 6) j hj
      rw [h5] at this
      unfold fM
      rw [← this]; rfl
    · rw [bitAt_far _ _ (by rw [msg_size]; exact hl), h2 j hl]
  simp only at h4 h5
  exact ⟨by rw [show 16 * n + 12 = 2 * (8 * n + 6) by omega, scf_congr X (8 * n + 6) e, h4], by rw [num_congr (8 * n + 6) e, h5]⟩
theorem num_byte (d : ByteArray) (k : Nat) (hk : k < d.size) : num (bitAt d) (8 * (k + 1)) = 256 * num (bitAt d) (8 * k) + byteAt d k := by
  have hb : ∀ r, r < 8 → bitAt d (8 * k + r) = byteAt d k / 2 ^ (7 - r) % 2 := fun r hr => by
    unfold bitAt byteAt
    rw [if_pos (by omega), show (8 * k + r) / 8 = k by omega, show (8 * k + r) % 8 = r by omega]
  have h256 := byteAt_lt d k
  have e : 8 * (k + 1) = 8 * k + 1 + 1 + 1 + 1 + 1 + 1 + 1 + 1 := by omega
  rw [e]
  simp only [num]
  rw [show 8 * k + 1 + 1 + 1 + 1 + 1 + 1 + 1 = 8 * k + 7 by omega, show 8 * k + 1 + 1 + 1 + 1 + 1 + 1 = 8 * k + 6 by omega, show 8 * k + 1 + 1 + 1 + 1 + 1 = 8 * k + 5 by omega, show 8 * k + 1 + 1 + 1 + 1 = 8 * k + 4 by omega, show 8 * k + 1 + 1 + 1 = 8 * k + 3 by omega, show 8 * k + 1 + 1 = 8 * k + 2 by omega]
  have h0 := hb 0 (by omega)
  rw [Nat.add_zero] at h0
  rw [h0, hb 1 (by omega), hb 2 (by omega), hb 3 (by omega), hb 4 (by omega), hb 5 (by omega), hb 6 (by omega), hb 7 (by omega)]
  generalize byteAt d k = b at *
  generalize num (bitAt d) (8 * k) = q
  simp only [Nat.reducePow, Nat.reduceSub, Nat.div_one]
  omega
theorem num_end (d : ByteArray) (n : Nat) (hd : d.size = n) : num (bitAt d) (8 * n + 6) = 64 * num (bitAt d) (8 * n) := by
  have e : ∀ j, 8 * n ≤ j → num (bitAt d) (j + 1) = 2 * num (bitAt d) j := fun j hj => by
    simp only [num]; rw [bitAt_far d j (by omega)]; omega
  rw [e (8 * n + 5) (by omega), e (8 * n + 4) (by omega), e (8 * n + 3) (by omega), e (8 * n + 2) (by omega), e (8 * n + 1) (by omega), e (8 * n) (by omega)]
  omega
theorem num_less (d d' : ByteArray) (n : Nat) (hd : d.size = n) (hd' : d'.size = n) (k : Nat) (hk : k < n) (he : ∀ j, j < k → byteAt d j = byteAt d' j) (hl : byteAt d k < byteAt d' k) : num (bitAt d) (8 * n + 6) < num (bitAt d') (8 * n + 6) := by
  have h1 : ∀ j, j ≤ k → num (bitAt d) (8 * j) = num (bitAt d') (8 * j) := by
    intro j
    induction j with
    | zero => intro _; rfl
    | succ j ih => intro hj; rw [num_byte d j (by omega), num_byte d' j (by omega), ih (by omega), he j (by omega)]
  have h2 : ∀ j, k < j → j ≤ n → num (bitAt d) (8 * j) < num (bitAt d') (8 * j) := by
    intro j
    induction j with
    | zero => intro h; omega
    | succ j ih =>
      intro hj hn
      rw [num_byte d j (by omega), num_byte d' j (by omega)]
      have b1 := byteAt_lt d j
      have b2 := byteAt_lt d' j
      rcases Nat.lt_succ_iff_lt_or_eq.1 hj with h | rfl
      · have := ih h (by omega); omega
      · rw [h1 k (Nat.le_refl _)]; omega
  have := h2 n hk (Nat.le_refl _)
  rw [num_end d n hd, num_end d' n hd']; omega
theorem toList_data (d : ByteArray) : d.toList = d.data.toList := by rw [ByteArray.toList_eq]
theorem less_at : ∀ (x y : List UInt8), x.length = y.length → Op.bytesLess x y = true → ∃ k, k < x.length ∧ (∀ j, j < k → x.getD j 0 = y.getD j 0) ∧ (x.getD k 0).toNat < (y.getD k 0).toNat
  | [], [], _, h => by simp [Op.bytesLess] at h
  | [], _ :: _, h, _ => by simp at h
  | _ :: _, [], h, _ => by simp at h
  | a :: x, b :: y, hl, h => by
    simp only [Op.bytesLess, Bool.or_eq_true, Bool.and_eq_true, decide_eq_true_eq, beq_iff_eq] at h
    rcases h with h | ⟨rfl, h⟩
    · exact ⟨0, by simp, fun j hj => by omega, by simpa using UInt8.lt_iff_toNat_lt.1 h⟩
    · obtain ⟨k, h1, h2, h3⟩ := less_at x y (by simpa using hl) h
      refine ⟨k + 1, by simp; omega, fun j hj => ?_, by simpa using h3⟩
      cases j with
      | zero => rfl
      | succ j => simpa using h2 j (by omega)
theorem less_num (d d' : ByteArray) (n : Nat) (hd : d.size = n) (hd' : d'.size = n) (h : Op.bytesLess d.toList d'.toList = true) : num (bitAt d) (8 * n + 6) < num (bitAt d') (8 * n + 6) := by
  rw [toList_data, toList_data] at h
  have e1 : d.data.toList.length = n := by simpa using hd
  have e2 : d'.data.toList.length = n := by simpa using hd'
  obtain ⟨k, h1, h2, h3⟩ := less_at _ _ (by rw [e1, e2]) h
  exact num_less d d' n hd hd' k (by omega) (fun j hj => by unfold byteAt; rw [h2 j hj]) h3
theorem ba_ext {a b : ByteArray} (h1 : a.size = b.size) (h2 : ∀ i, i < a.size → byteAt a i = byteAt b i) : a = b := by
  have h1' : a.data.toList.length = b.data.toList.length := by simpa using h1
  have : a.data.toList = b.data.toList := by
    apply List.ext_getElem h1'
    intro i h3 h4
    have := h2 i (by simpa using h3)
    unfold byteAt at this
    rw [List.getD_eq_getElem?_getD, List.getD_eq_getElem?_getD, List.getElem?_eq_getElem h3, List.getElem?_eq_getElem h4] at this
    exact UInt8.toNat_inj.1 this
  cases a; cases b
  congr 1
  exact Array.toList_inj.1 this
theorem num_eq (d d' : ByteArray) (n : Nat) (hd : d.size = n) (hd' : d'.size = n) (h : num (bitAt d) (8 * n + 6) = num (bitAt d') (8 * n + 6)) : d = d' := by
  refine ba_ext (by rw [hd, hd']) fun i hi => ?_
  have hb : ∀ r, r < 8 → bitAt d (8 * i + r) = bitAt d' (8 * i + r) := fun r hr => by
    have h1 := num_bit (bitAt d) (bitAt_lt d) (8 * n + 6) (8 * i + r) (by omega)
    have h2 := num_bit (bitAt d') (bitAt_lt d') (8 * n + 6) (8 * i + r) (by omega)
    rw [← h1, ← h2, h]
  have h0 := hb 0 (by omega)
  have h1 := hb 1 (by omega)
  have h2 := hb 2 (by omega)
  have h3 := hb 3 (by omega)
  have h4 := hb 4 (by omega)
  have h5 := hb 5 (by omega)
  have h6 := hb 6 (by omega)
  have h7 := hb 7 (by omega)
  have g : ∀ (x : ByteArray), i < x.size → ∀ r, r < 8 → bitAt x (8 * i + r) = byteAt x i / 2 ^ (7 - r) % 2 := fun x hx r hr => by
    unfold bitAt byteAt
    rw [if_pos (by omega), show (8 * i + r) / 8 = i by omega, show (8 * i + r) % 8 = r by omega]
  rw [g d hi _ (by omega), g d' (by omega) _ (by omega)] at h0 h1 h2 h3 h4 h5 h6 h7
  have b1 := byteAt_lt d i
  have b2 := byteAt_lt d' i
  generalize byteAt d i = x at *
  generalize byteAt d' i = y at *
  simp only [Nat.reducePow, Nat.reduceSub, Nat.div_one] at h0 h1 h2 h3 h4 h5 h6 h7
  omega
/-- No message is better than the one that Decode returns. -/
theorem dec_law {X : List Int} {n : Nat} {v : Int} {M : Nat} (h : P X (8 * n) (8 * n + 6) 0 = some (v, M)) (d : ByteArray) (hd : d.size = n) :
    sc (outF (bitAt d)) X (16 * n + 12) ≤ v ∧ (sc (outF (bitAt d)) X (16 * n + 12) = v → Op.bytesLess d.toList (msg n M).toList = false) := by
  have hb := dec_best h d hd
  obtain ⟨h1, h2⟩ := dec_way h
  refine ⟨by omega, fun e => ?_⟩
  cases hl : Op.bytesLess d.toList (msg n M).toList with
  | false => rfl
  | true =>
    have := less_num d (msg n M) n hd (msg_size n M) hl
    omega
/-- The one that Decode returns is the only one that is the best. -/
theorem dec_only {X : List Int} {n : Nat} {v : Int} {M : Nat} (h : P X (8 * n) (8 * n + 6) 0 = some (v, M)) (d : ByteArray) (hd : d.size = n)
    (hbest : ∀ d' : ByteArray, d'.size = n → sc (outF (bitAt d')) X (16 * n + 12) < sc (outF (bitAt d)) X (16 * n + 12) ∨ (sc (outF (bitAt d')) X (16 * n + 12) = sc (outF (bitAt d)) X (16 * n + 12) ∧ num (bitAt d) (8 * n + 6) ≤ num (bitAt d') (8 * n + 6))) :
    msg n M = d ∧ v = sc (outF (bitAt d)) X (16 * n + 12) := by
  have hb := dec_best h d hd
  obtain ⟨h1, h2⟩ := dec_way h
  have h3 := hbest (msg n M) (msg_size n M)
  rw [h1, h2] at h3
  refine ⟨num_eq _ _ n (msg_size n M) hd (by rw [h2]; omega), by omega⟩
end Go.Proofs.Ytbfgpjpfhbbdfaa
