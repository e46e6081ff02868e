/-
  Plain laws of packing: what is packed is unpacked, and the other way round. Conditions: those that each theorem names.
-/
import Derived.Test.YtjeaccpocpfkgaaUnGood
namespace Go.Proofs.Ytjeaccpocpfkgaa
open Go.RowKit Kit
theorem packK_hi {Z : List Nat} (h : okL Z) (W V : Nat → Nat) : ∀ k, offs W k ≤ 8 * Z.length → ∀ j, offs W k ≤ j → bitOf (packK Z W V k) j = bitOf Z j
  | 0, _, _, _ => rfl
  | k + 1, hk, j, hj => by
    rw [offs] at hk hj
    rw [packK, put_bit (packK_ok h W V k) _ _ (by rw [packK_len]; exact hk), if_neg (by omega)]
    exact packK_hi h W V k (by omega) j (by omega)
theorem packK_num {Z : List Nat} (h : okL Z) (W V : Nat → Nat) : ∀ k, offs W k ≤ 8 * Z.length → ∀ i, i < k → V i < 2 ^ W i → numB (packK Z W V k) (offs W i) (W i) = V i
  | 0, _, i, hi, _ => by omega
  | k + 1, hk, i, hi, hv => by
    rw [offs] at hk
    by_cases e : i = k
    · subst e
      exact numB_put (packK_ok h W V i) (by rw [packK_len]; exact hk) hv
    · rw [← packK_num h W V k (by omega) i (by omega) hv, packK]
      refine numB_congr _ fun o ho => ?_
      have := offs_mono W (i + 1) k (by omega)
      rw [offs] at this
      rw [put_bit (packK_ok h W V k) _ _ (by rw [packK_len]; exact hk), if_neg (by omega)]
theorem offs_find (W : Nat → Nat) (j : Nat) : ∀ k, j < offs W k → ∃ i, i < k ∧ offs W i ≤ j ∧ j < offs W i + W i
  | 0, h => by simp [offs] at h
  | k + 1, h => by
    rw [offs] at h
    rcases Nat.lt_or_ge j (offs W k) with h' | h'
    · obtain ⟨i, h1, h2⟩ := offs_find W j k h'
      exact ⟨i, by omega, h2⟩
    · exact ⟨k, by omega, h', h⟩
theorem bitOf_zers (m j : Nat) : bitOf (zers m) j = 0 := by
  have : (zers m).getD (j / 8) 0 = 0 := by
    rw [List.getD_eq_getElem?_getD, zers, List.getElem?_replicate]
    split <;> rfl
  rw [bitOf, this]; simp
theorem zers_len (m : Nat) : (zers m).length = m := by simp [zers]
theorem unK_at (X : List Int) (d : ByteArray) (n i : Nat) (hi : i < n) : (unK X d n).getD i 0 = ((numB (lst d) (offs (wid X) i) (wid X i) : Nat) : Int) := by
  simp [unK, List.getD_eq_getElem?_getD, hi]
theorem packB_size (X V : List Int) : (packB X V).size = (offs (wid X) X.length + 7) / 8 := by
  rw [packB, strB_size, packK_len, zers_len]
theorem lst_packB (X V : List Int) : lst (packB X V) = packK (zers ((offs (wid X) X.length + 7) / 8)) (wid X) (wid V) X.length := lst_strB (packK_ok (zers_ok _) _ _ _)
theorem pack_un (X V : List Int) (hl : X.length = V.length) (h0 : ∀ x ∈ V, 0 ≤ x) (hf : fitsA X V) : unK X (packB X V) X.length = V := by
  refine list_eq_of (by rw [unK_len, hl]) fun i hi => ?_
  rw [unK_len] at hi
  rw [unK_at _ _ _ _ hi, lst_packB, packK_num (zers_ok _) _ _ _ (by rw [zers_len]; omega) i hi (hf i hi), wid]
  have : 0 ≤ V.getD i 0 := by
    rw [List.getD_eq_getElem?_getD, List.getElem?_eq_getElem (by omega)]
    exact h0 _ (List.getElem_mem _)
  omega
theorem pack_upE (X V : List Int) (hok : okW X) (hs : offs (wid X) X.length ≤ 524288) : upE X (packB X V) = 0 := by
  unfold upE
  rw [packB_size, if_neg (by omega), if_neg (fun h => h hok), if_neg (fun h => h rfl), if_pos]
  intro i _ h2
  rw [lst_packB, packK_hi (zers_ok _) _ _ _ (by rw [zers_len]; omega) i h2, bitOf_zers]
theorem upE_ok {X : List Int} {d : ByteArray} (h : upE X d = 0) : d.size ≤ 65536 ∧ okW X ∧ d.size = (offs (wid X) X.length + 7) / 8 ∧ restZ d (offs (wid X) X.length) := by
  unfold upE at h
  split at h
  · omega
  · split at h
    · omega
    · split at h
      · omega
      · split at h
        · rename_i h1 h2 h3 h4
          exact ⟨by omega, Decidable.not_not.1 h2, Decidable.not_not.1 h3, h4⟩
        · omega
theorem un_pack (X : List Int) (d : ByteArray) (h : upE X d = 0) : packR X (unK X d X.length) = .tuple #[.string d, .int .i64 0] := by
  obtain ⟨h1, h2, h3, h4⟩ := upE_ok h
  have hw : ∀ i, i < X.length → wid (unK X d X.length) i = numB (lst d) (offs (wid X) i) (wid X i) := fun i hi => by rw [wid, unK_at _ _ _ _ hi]; omega
  have hf : fitsA X (unK X d X.length) := fun i hi => by rw [hw i hi]; exact numB_lt _ _ _
  unfold packR
  rw [if_neg (by rw [unK_len]; simp [h2]), if_neg (by omega), if_pos hf]
  have : packB X (unK X d X.length) = d := by
    have hsz := lst_len d
    rw [← strB_lst d, packB]
    congr 1
    have hL : (packK (zers ((offs (wid X) X.length + 7) / 8)) (wid X) (wid (unK X d X.length)) X.length).length = (offs (wid X) X.length + 7) / 8 := by rw [packK_len, zers_len]
    rw [strB_lst]
    refine bits_ext (by rw [hL, hsz, h3]) (packK_ok (zers_ok _) _ _ _) (lst_ok d) fun j hj => ?_
    rw [hL] at hj
    rcases Nat.lt_or_ge j (offs (wid X) X.length) with h' | h'
    · obtain ⟨i, k1, k2, k3⟩ := offs_find _ _ _ h'
      have e := packK_num (zers_ok ((offs (wid X) X.length + 7) / 8)) (wid X) (wid (unK X d X.length)) X.length (by rw [zers_len]; omega) i k1 (hf i k1)
      rw [hw i k1] at e
      have b1 := numB_bits (packK (zers ((offs (wid X) X.length + 7) / 8)) (wid X) (wid (unK X d X.length)) X.length) (offs (wid X) i) (wid X i) (j - offs (wid X) i) (by omega)
      have b2 := numB_bits (lst d) (offs (wid X) i) (wid X i) (j - offs (wid X) i) (by omega)
      rw [e, b2, show offs (wid X) i + (j - offs (wid X) i) = j by omega] at b1
      exact b1.symm
    · rw [packK_hi (zers_ok _) _ _ _ (by rw [zers_len]; omega) j h', bitOf_zers, h4 j (by omega) h']
  rw [this]
end Go.Proofs.Ytjeaccpocpfkgaa
