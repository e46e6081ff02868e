/-
  The walks of filled and combined, and what Encode's result is, index by index. Conditions: sizes as each names them.
-/
import Derived.Test.YtaifnonamkidiaaAwk
import Derived.Laws.OwnMore
namespace Go.Proofs.Ytaifnonamkidiaa
open Go.RowKit Kit
set_option linter.unusedVariables false
def byteAt (d : ByteArray) (i : Nat) : Nat := (d.data.toList.getD i 0).toNat
theorem byteAt_lt (d : ByteArray) (i : Nat) : byteAt d i < 256 := UInt8.toNat_lt _
/-- A string of n bytes. -/
def strF (f : Nat → Nat) (n : Nat) : ByteArray := strOfNums ((List.range n).map fun i => ((f i : Nat) : Int))
theorem strF_size (f : Nat → Nat) (n : Nat) : (strF f n).size = n := by simp [strF, strOfNums_size]
theorem strF_at (f : Nat → Nat) (n i : Nat) (h : f i < 256) : byteAt (strF f n) i = if i < n then f i else 0 := by
  unfold byteAt strF
  rw [strOfNums_data]
  by_cases hi : i < n
  · simp [List.getD_eq_getElem?_getD, hi, Nat.mod_eq_of_lt h]
  · simp [List.getD_eq_getElem?_getD, hi]
theorem ba_ext {a b : ByteArray} (h1 : a.size = b.size) (h2 : ∀ i, i < a.size → byteAt a i = byteAt b i) : a = b := by
  have : a.data.toList = b.data.toList := by
    apply List.ext_getElem
    · simpa using h1
    · intro i hi hj
      have := h2 i (by simpa using hi)
      unfold byteAt at this
      rw [List.getD_eq_getElem?_getD, List.getD_eq_getElem?_getD, List.getElem?_eq_getElem hi, List.getElem?_eq_getElem hj] at this
      exact UInt8.toNat_inj.1 this
  have : a.data = b.data := Array.toList_inj.1 this
  cases a; cases b; simp_all
theorem strF_congr {f g : Nat → Nat} {n : Nat} (h : ∀ i, i < n → f i = g i) : strF f n = strF g n := by
  unfold strF
  congr 1
  apply List.map_congr_left
  intro i hi
  rw [h i (by simpa using hi)]
/-- The string filled, or cut. -/
def fillB (s : ByteArray) (n : Nat) : ByteArray := strF (byteAt s) n
theorem fill_cut (s : ByteArray) (n : Nat) (h : n ≤ s.size) : s.extract 0 n = fillB s n := by
  apply ba_ext
  · simp [fillB, strF_size]; omega
  · intro i hi
    have hin : i < n := by simp at hi; omega
    unfold fillB
    rw [strF_at _ _ _ (byteAt_lt _ _), if_pos hin]
    unfold byteAt
    simp [ByteArray.data_extract, List.getD_eq_getElem?_getD, hin]
theorem fill_more (s : ByteArray) (n : Nat) (h : s.size ≤ n) : s ++ strOfNums (List.replicate (n - s.size) 0) = fillB s n := by
  apply ba_ext
  · simp [fillB, strF_size, ByteArray.size_append, strOfNums_size]; omega
  · intro i hi
    have hin : i < n := by simp [ByteArray.size_append, strOfNums_size] at hi; omega
    unfold fillB
    rw [strF_at _ _ _ (byteAt_lt _ _), if_pos hin]
    unfold byteAt
    rw [ByteArray.data_append, Array.toList_append, strOfNums_data]
    simp only [List.getD_eq_getElem?_getD]
    by_cases h2 : i < s.data.toList.length
    · rw [List.getElem?_append_left h2]
    · rw [List.getElem?_append_right (by omega), List.getElem?_eq_none (l := s.data.toList) (by omega)]
      simp only [List.map_replicate, List.getElem?_replicate]
      split <;> rfl
set_option maxHeartbeats 800000 in
theorem filled_any (s : ByteArray) (n : Nat) (hn : n ≤ 1000) (hs : s.size ≤ maxLen) (w : World) :
    Calls Try.prog 16 #[.string s, .int .i64 n] w fun e w' => e = .returned (.string (fillB s n)) ∧ Below w.heap.size w w' := by
  unfold maxLen at hs
  obtain ⟨i0, hi, hz0, hz1, hz2⟩ := info_parts info5
  by_cases h : n < s.size
  · have R := Lib.hid (fill_cut s n (by omega))
    go_enter Try.func16, Try.ntmps16
    go_wp2_with (fail)
    go_ret
    exact ⟨by rw [R.out]; rfl, Below.refl _ _⟩
  · obtain ⟨m, hm⟩ : ∃ m, m = n - s.size := ⟨_, rfl⟩
    have R := Lib.hid (fill_more s n (by omega))
    rw [← hm] at R
    have M := Lib.hid hm
    have em : ((n : Int) - (s.size : Int)) = (m : Int) := by omega
    have EM := Lib.hid em
    have hm1000 : m ≤ 1000 := by omega
    have hs8 : (s.size : Int) ≤ 8388608 := by omega
    obtain ⟨Z, hZ⟩ : ∃ Z, Z = strOfNums (List.replicate m 0) := ⟨_, rfl⟩
    have hZs : (Z.size : Int) ≤ 8388608 := by rw [hZ, strOfNums_size]; simp; omega
    have hadd := fun w => run_string_add (P := Try.prog) (w := w) s Z hs8 hZs
    have HZ := Lib.hid hZ
    clear hm em hZ
    go_enter Try.func16, Try.ntmps16
    go_wp2_with (at_make; refine wpList_make_full _ rfl _ _ 44 rfl w.heap.size 5 i0 (.int .u8 0) 1 Try.underlying44 hi hz0 hz1 _ _ _ _ m rfl rfl EM.out EM.out (by rw [hz2]; omega) (by unfold maxLen; omega) (Nat.le_refl _) ?_; intro w3 hown hgrow; have hcv := run_convert_bytes_arg w3 44 5 Try.underlying44 Try.underlying5 w.heap.size 0 m m (List.replicate m 0) (by simp) (fun i hi => by (rw [Nat.zero_add, hown.cellAt i (by omega)]; rw [show (Value.int IntKind.u8 0).cells = #[.int .u8 0] from rfl, toList_madeCells_one]; simp [List.getD_eq_getElem?_getD, hi])) 9 Try.underlying9; rw [← HZ.out] at hcv; replace hown := Lib.hid hown)
    go_ret
    refine ⟨?_, (Below.refl _ _).grown hgrow (Nat.le_refl _) (fun k e => by cases e)⟩
    rw [← R.out, ← HZ.out]
    rfl

/-! combined -/
def xor3 (a b c : ByteArray) (i : Nat) : Nat := byteAt a i ^^^ byteAt b i ^^^ byteAt c i
theorem xor_lt256 {x y : Nat} (hx : x < 256) (hy : y < 256) : x ^^^ y < 256 := Nat.xor_lt_two_pow (n := 8) hx hy
theorem xor3_lt (a b c : ByteArray) (i : Nat) : xor3 a b c i < 256 := xor_lt256 (xor_lt256 (byteAt_lt _ _) (byteAt_lt _ _)) (byteAt_lt _ _)
def cmb (a b c : ByteArray) (n k : Nat) : List Int := (List.range n).map fun i => if i < k then ((xor3 a b c i : Nat) : Int) else 0
theorem cmb_length (a b c : ByteArray) (n k : Nat) : (cmb a b c n k).length = n := by simp [cmb]
def u8c (l : List Int) : Array Value := (l.map (Value.int .u8)).toArray
theorem u8c_get (l : List Int) (i : Nat) (h : i < l.length) : (u8c l)[i]? = some (.int .u8 (l.getD i 0)) := by simp [u8c, h]
theorem cmb_set (a b c : ByteArray) (n k : Nat) (h : k < n) : (u8c (cmb a b c n k)).setIfInBounds k (.int .u8 ((xor3 a b c k : Nat) : Int)) = u8c (cmb a b c n (k + 1)) := by
  unfold u8c
  simp only [List.setIfInBounds_toArray, ← List.map_set]
  congr 2
  apply List.ext_getElem
  · simp [cmb]
  · intro i h1 h2
    simp [cmb, List.getElem_set]
    by_cases e : k = i
    · subst e; simp
    · simp only [e, if_false]
      by_cases e2 : i < k
      · simp [e2]; intro h3; omega
      · have : ¬ i < k + 1 := by omega
        simp [e2, this]
theorem cmb_zero (a b c : ByteArray) (n : Nat) : cmb a b c n 0 = List.replicate n 0 := by
  apply List.ext_getElem
  · simp [cmb]
  · intro i h1 h2; simp [cmb]
theorem byte_get (d : ByteArray) (i : Nat) (h : i < d.size) : ((d[i]'h).toNat : Int) = ((byteAt d i : Nat) : Int) := by
  unfold byteAt
  have : d.data.toList.getD i 0 = d[i]'h := by
    rw [List.getD_eq_getElem?_getD, List.getElem?_eq_getElem (by simpa using h)]; rfl
  rw [this]
def CM (w : World) (a b c : ByteArray) (n k : Nat) (wr : World) : Prop := wr.heap[w.heap.size]? = some (.cells (u8c (cmb a b c n k)) 5) ∧ Below w.heap.size w wr
set_option maxHeartbeats 1600000 in
theorem combined_any (a b c : ByteArray) (n : Nat) (ha : a.size = n) (hb : b.size = n) (hc : c.size = n) (hn : n ≤ 100000) (w : World) :
    Calls Try.prog 17 #[.string a, .string b, .string c] w fun e w' => e = .returned (.string (strF (xor3 a b c) n)) ∧ Below w.heap.size w w' := by
  obtain ⟨i0, hi, hz0, hz1, hz2⟩ := info_parts info5
  have la : a.size ≤ n := by omega
  have la' : n ≤ a.size := by omega
  have lb : n ≤ b.size := by omega
  have lc : n ≤ c.size := by omega
  have HA := Lib.hid ha
  clear ha hb hc
  go_enter Try.func17, Try.ntmps17
  go_wp2_with (at_make; refine wpList_make_full _ rfl _ _ 44 rfl w.heap.size 5 i0 (.int .u8 0) 1 Try.underlying44 hi hz0 hz1 _ _ _ _ n rfl rfl (by rw [HA.out]) (by rw [HA.out]) (by rw [hz2]; omega) (by unfold maxLen; omega) (Nat.le_refl _) ?_; intro w3 hown hgrow; replace hown := Lib.hid hown; replace hgrow := Lib.hid hgrow)
  have C0 : Hid (CM w a b c n 0 w3) := by
    refine Lib.hid ⟨?_, (Below.refl _ _).grown hgrow.out (Nat.le_refl _) (fun k e => by cases e)⟩
    have h := hown.out
    rcases h.2 with ⟨h', _⟩ | ⟨g', cap', cur, h', _, hg, _, _, hsz, htake⟩
    · simp at h'
    · simp only [Value.slice.injEq, Option.some.injEq, Addr.mk.injEq, and_true, true_and] at h'
      obtain ⟨rfl, rfl⟩ := h'
      rw [hg]
      rw [show (Value.int IntKind.u8 0).cells = #[.int .u8 0] from rfl, toList_madeCells_one, List.take_of_length_le (by simp [hsz])] at htake
      have : cur = u8c (cmb a b c n 0) := by
        rw [cmb_zero]; unfold u8c
        apply Array.toList_inj.1
        simp [htake]
      rw [this]
  clear hown hgrow
  go_loopw [8] (fun i wr => ∃ k : Nat, k ≤ n ∧ i = .int .i64 k ∧ CM w a b c n k wr) (fun i _ => n - (intOf i).toNat)
  case atStart => exact ⟨0, by omega, rfl, C0.out⟩
  case round =>
    clear C0
    obtain ⟨k, hk, rfl, hC⟩ := hrel
    have HC := Lib.hid hC; clear hC
    by_cases hlt : k < n
    · have g1 : k < a.size := by omega
      have g2 : k < b.size := by omega
      have g3 : k < c.size := by omega
      have ca := byte_get a k g1
      have cb := byte_get b k g2
      have cc := byte_get c k g3
      have CA := Lib.hid ca; have CB := Lib.hid cb; have CC := Lib.hid cc
      clear ca cb cc
      have cell := cell_of HC.out.1 (u8c_get _ k (by rw [cmb_length]; exact hlt))
      have free := free_of (i := k) HC.out.1
      go_wp2_with (fail)
      refine region_still_tail 14 (by kernel_rfl) (by kernel_rfl) ?_
      simp only [List.take_succ_cons, List.take_zero, List.drop_succ_cons, List.drop_zero]
      (repeat still_step)
      refine wpStill_nil ?_
      go_wp2_with (fail)
      refine ⟨⟨k + 1, by omega, by go_num, ?_⟩, by simp [intOf]; omega⟩
      rw [CA.out, CB.out, CC.out, u8_xor_nat _ _ (byteAt_lt _ _) (byteAt_lt _ _), u8_xor_nat _ _ (xor_lt256 (byteAt_lt _ _) (byteAt_lt _ _)) (byteAt_lt _ _)]
      refine ⟨?_, (bl_set HC.out.2 (Nat.le_refl _) _).drew⟩
      have := hp_set (i := k) HC.out.1 (.int .u8 ((xor3 a b c k : Nat) : Int))
      rw [cmb_set _ _ _ _ _ hlt] at this
      exact hp_drew this
    · have he : k = n := by omega
      subst he
      have hcv := run_convert_bytes_arg wr 44 5 Try.underlying44 Try.underlying5 w.heap.size 0 k k (cmb a b c k k) (cmb_length _ _ _ _ _) (fun i hi => by
        rw [Nat.zero_add]; exact cell_of HC.out.1 (u8c_get _ i (by rw [cmb_length]; exact hi))) 9 Try.underlying9
      have R : Hid (strOfNums (cmb a b c k k) = strF (xor3 a b c) k) := Lib.hid (by
        unfold strF cmb; congr 1; apply List.map_congr_left; intro i hi; rw [if_pos (by simpa using hi)])
      go_wp2_with (fail)
      go_ret
      refine ⟨?_, HC.out.2⟩
      rw [← R.out]
      rfl

/-! What Encode returns, index by index -/
def stS (f : Nat → Nat) : Nat → Nat
  | 0 => 0
  | k + 1 => nx (stS f k) (f k)
def outF (f : Nat → Nat) (i : Nat) : Nat := if i % 2 = 0 then o1 (stS f (i / 2)) (f (i / 2)) else o2 (stS f (i / 2)) (f (i / 2))
theorem outF_lt (f : Nat → Nat) (i : Nat) : outF f i < 2 := by
  unfold outF; split
  · exact par_lt _
  · unfold o2; omega
theorem encS_idx (d : ByteArray) (k : Nat) : (encS (bitL d k)).1 = stS (bitAt d) k ∧ (encS (bitL d k)).2 = (List.range (2 * k)).map fun i => ((outF (bitAt d) i : Nat) : Int) := by
  induction k with
  | zero => exact ⟨rfl, rfl⟩
  | succ k ih =>
    rw [bitL_succ, encS_snoc]
    refine ⟨by simp only [stS, ih.1], ?_⟩
    rw [show 2 * (k + 1) = 2 * k + 1 + 1 by omega, List.range_succ, List.range_succ, ih.1]
    simp only [List.map_append, List.map_cons, List.map_nil, ih.2, List.append_assoc, List.cons_append, List.nil_append]
    have e1 : outF (bitAt d) (2 * k) = o1 (stS (bitAt d) k) (bitAt d k) := by
      unfold outF; rw [if_pos (by omega), show 2 * k / 2 = k by omega]
    have e2 : outF (bitAt d) (2 * k + 1) = o2 (stS (bitAt d) k) (bitAt d k) := by
      unfold outF; rw [if_neg (by omega), show (2 * k + 1) / 2 = k by omega]
    rw [e1, e2]
/-- Encode at a filled string. -/
theorem encode_idx (d : ByteArray) (n : Nat) (hd : d.size = n) (hn : n ≤ 1000) (w : World) :
    Calls Try.prog 14 #[.string d] w fun e w' => e = .returned (.tuple #[.string (strF (outF (bitAt d)) (16 * n + 12)), .int .i64 0]) ∧ Below w.heap.size w w' := by
  have := encode_any d (by omega) w
  rw [(encS_idx d _).2, hd, show 2 * (8 * n + 6) = 16 * n + 12 by omega] at this
  exact this
theorem bitAt_F (f : Nat → Nat) (n k : Nat) (hf : ∀ i, f i < 256) : bitAt (strF f n) k = if k / 8 < n then f (k / 8) / 2 ^ (7 - k % 8) % 2 else 0 := by
  unfold bitAt
  rw [strF_size]
  split
  · have := strF_at f n (k / 8) (hf _)
    unfold byteAt at this
    rw [this, if_pos (by assumption)]
  · rfl
theorem bit_xor (x y j : Nat) : (x ^^^ y) / 2 ^ j % 2 = (x / 2 ^ j % 2) ^^^ (y / 2 ^ j % 2) := by
  rw [Nat.xor_div_two_pow]
  exact Nat.xor_mod_two_pow (n := 1)
theorem bit2 (f : Nat → Nat) (n k : Nat) (hf : ∀ i, f i < 256) : bitAt (strF f n) k < 2 := bitAt_lt _ _
theorem nx_lin : ∀ s t : Fin 64, ∀ b c : Fin 2, nx (s.val ^^^ t.val) (b.val ^^^ c.val) = nx s.val b.val ^^^ nx t.val c.val := by decide +kernel
theorem o1_lin : ∀ s t : Fin 64, ∀ b c : Fin 2, o1 (s.val ^^^ t.val) (b.val ^^^ c.val) = o1 s.val b.val ^^^ o1 t.val c.val := by decide +kernel
theorem o2_lin : ∀ s t : Fin 64, ∀ b c : Fin 2, o2 (s.val ^^^ t.val) (b.val ^^^ c.val) = 1 ^^^ o2 s.val b.val ^^^ o2 t.val c.val := by decide +kernel
end Go.Proofs.Ytaifnonamkidiaa
