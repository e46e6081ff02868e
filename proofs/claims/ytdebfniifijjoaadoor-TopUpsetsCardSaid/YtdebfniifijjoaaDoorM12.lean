/-
  What a store says when a prefix of a load's words is stored: what it said, or the whole new patch. In plain Lean. Conditions: those that each names.
-/
import Derived.Test.YtdebfniifijjoaaDoorM11
namespace Go.Proofs.YtdebfniifijjoaaDoor
open Go.RowKit Kit Go.Shelf
set_option linter.unusedVariables false
theorem putL_out (i : Nat) : ∀ (M : List (Nat × Nat)) (v : Nat → Nat), (∀ q ∈ M, q.1 ≠ i) → putL v M i = v i
  | [], v, _ => rfl
  | (j, x) :: M, v, h => by
    rw [putL, putL_out i M _ (fun q hq => h q (List.mem_cons_of_mem _ hq)), if_neg (fun e => h (j, x) (by simp) e.symm)]
/-- The words of a load: its first, those between, its last. -/
def ldM (a : Nat) (S : ByteArray) (h : Nat → Nat) : List (Nat × Nat) := wrL (a + 5) S ((S.size + 3) / 4) ++ [(a + 1, h 1), (a + 2, h 2), (a + 3, h 3), (a + 4, h 4)]
def ldL (a : Nat) (S : ByteArray) (h : Nat → Nat) : List (Nat × Nat) := (a, 0) :: (ldM a S h ++ [(a, h 0)])
theorem ldM_in {a size : Nat} {S : ByteArray} {h : Nat → Nat} (hS : S.size ≤ size) : ∀ q ∈ ldM a S h, a < q.1 ∧ q.1 < a + half size := by
  intro q hq
  unfold ldM at hq
  have hh : half size = 5 + (size + 3) / 4 := rfl
  rcases List.mem_append.1 hq with hq | hq
  · unfold wrL at hq
    obtain ⟨j, hj, rfl⟩ := List.mem_map.1 hq
    have := List.mem_range.1 hj
    have : (S.size + 3) / 4 ≤ (size + 3) / 4 := by omega
    show a < a + 5 + j ∧ a + 5 + j < a + half size
    omega
  · simp at hq
    rcases hq with rfl | rfl | rfl | rfl <;> (show a < _ ∧ _ < a + half size; simp; omega)
/-- A proper prefix, but not nothing. -/
theorem ld_pre {a size : Nat} {S : ByteArray} {h : Nat → Nat} (hS : S.size ≤ size) (v : Nat → Nat) (p : Nat) (h0 : 0 < p) (h1 : p < (ldL a S h).length) :
    putL v ((ldL a S h).take p) a = 0 ∧ ∀ i, (i < a ∨ a + half size ≤ i) → putL v ((ldL a S h).take p) i = v i := by
  obtain ⟨q, rfl⟩ : ∃ q, p = q + 1 := ⟨p - 1, by omega⟩
  have hq : q ≤ (ldM a S h).length := by unfold ldL at h1; simp at h1; omega
  have e : (ldL a S h).take (q + 1) = (a, 0) :: (ldM a S h).take q := by
    unfold ldL; rw [List.take_succ_cons, List.take_append_of_le_length hq]
  rw [e]
  have hin := ldM_in (h := h) (a := a) hS
  refine ⟨?_, fun i hi => ?_⟩
  · rw [putL, putL_out a _ _ (fun q' hq' => by have := hin q' (List.mem_of_mem_take hq'); omega), if_pos rfl]
  · have hne : i ≠ a := by have : 5 ≤ half size := Nat.le_add_right _ _; omega
    rw [putL, putL_out i _ _ (fun q' hq' => by have := hin q' (List.mem_of_mem_take hq'); omega), if_neg hne]
theorem ld_out {a size : Nat} {S : ByteArray} {h : Nat → Nat} (hS : S.size ≤ size) (v : Nat → Nat) (p : Nat) (i : Nat) (hi : i < a ∨ a + half size ≤ i) : putL v ((ldL a S h).take p) i = v i := by
  refine putL_out i _ _ (fun q hq => ?_)
  have hm := List.mem_of_mem_take hq
  have h5 : 5 ≤ half size := Nat.le_add_right _ _
  unfold ldL at hm
  rcases List.mem_cons.1 hm with rfl | hm
  · show a ≠ i; omega
  · rcases List.mem_append.1 hm with hm | hm
    · have := ldM_in hS q hm; omega
    · simp at hm; subst hm; show a ≠ i; omega
/-- What the words of a whole load are. -/
theorem wrL_at (a : Nat) (S : ByteArray) (j : Nat) : ∀ (k : Nat) (v : Nat → Nat), putL v (wrL a S k) (a + j) = if j < k then wordAt S j else v (a + j)
  | 0, v => by simp [wrL, putL]
  | k + 1, v => by
    have e : wrL a S (k + 1) = wrL a S k ++ [(a + k, wordAt S k)] := by simp [wrL, List.range_succ]
    rw [e, putL_append]
    simp only [putL]
    by_cases hj : j = k
    · subst hj; simp
    · rw [if_neg (by omega), wrL_at a S j k v]
      by_cases h : j < k
      · rw [if_pos h, if_pos (by omega)]
      · rw [if_neg h, if_neg (by omega)]
theorem ld_full {a size : Nat} {S : ByteArray} {h : Nat → Nat} (hS : S.size ≤ size) (v : Nat → Nat) :
    (∀ i, i < 5 → putL v (ldL a S h) (a + i) = h i) ∧ (∀ k, k < (S.size + 3) / 4 → putL v (ldL a S h) (a + 5 + k) = wordAt S k) := by
  have e : putL v (ldL a S h) = putL (putL (putL (fun j => if j = a then 0 else v j) (wrL (a + 5) S ((S.size + 3) / 4))) [(a + 1, h 1), (a + 2, h 2), (a + 3, h 3), (a + 4, h 4)]) [(a, h 0)] := by
    unfold ldL ldM
    simp only [putL, putL_append]
  rw [e]
  refine ⟨fun i hi => ?_, fun k hk => ?_⟩
  · simp only [putL]
    rcases (by omega : i = 0 ∨ i = 1 ∨ i = 2 ∨ i = 3 ∨ i = 4) with rfl | rfl | rfl | rfl | rfl <;> simp
  · simp only [putL]
    rw [if_neg (by omega), if_neg (by omega), if_neg (by omega), if_neg (by omega), if_neg (by omega), wrL_at, if_pos hk]
/-- The bytes of the words of a string are the string's. -/
theorem word_byte (S : ByteArray) (k r : Nat) (hr : r < 4) : wordAt S k / 256 ^ (3 - r) % 256 = ch S (4 * k + r) := by
  have h0 := ch_lt S (4 * k + 0); have h1 := ch_lt S (4 * k + 1); have h2 := ch_lt S (4 * k + 2); have h3 := ch_lt S (4 * k + 3)
  unfold wordAt
  simp only [pkF, Nat.mul_zero, Nat.zero_add]
  rcases (by omega : r = 0 ∨ r = 1 ∨ r = 2 ∨ r = 3) with rfl | rfl | rfl | rfl
  · simp only [Nat.add_zero] at h0 ⊢; generalize ch S (4 * k) = x0 at *; generalize ch S (4 * k + 1) = x1 at *; generalize ch S (4 * k + 2) = x2 at *; generalize ch S (4 * k + 3) = x3 at *; simp; omega
  · simp only [Nat.add_zero] at h0 ⊢; generalize ch S (4 * k) = x0 at *; generalize ch S (4 * k + 1) = x1 at *; generalize ch S (4 * k + 2) = x2 at *; generalize ch S (4 * k + 3) = x3 at *; simp; omega
  · simp only [Nat.add_zero] at h0 ⊢; generalize ch S (4 * k) = x0 at *; generalize ch S (4 * k + 1) = x1 at *; generalize ch S (4 * k + 2) = x2 at *; generalize ch S (4 * k + 3) = x3 at *; simp; omega
  · simp only [Nat.add_zero] at h0 ⊢; generalize ch S (4 * k) = x0 at *; generalize ch S (4 * k + 1) = x1 at *; generalize ch S (4 * k + 2) = x2 at *; generalize ch S (4 * k + 3) = x3 at *; simp; omega
theorem rS_words (v : Nat → Nat) (a : Nat) (S : ByteArray) (h : ∀ k, k < (S.size + 3) / 4 → v (a + k) = wordAt S k) : rS (msF v) a S.size = S := by
  apply ByteArray.ext
  apply Array.toList_inj.1
  unfold rS
  rw [strOfNums_data]
  have hsz : S.data.toList.length = S.size := by simp
  apply List.ext_getElem?
  intro j
  rw [List.getElem?_map, List.getElem?_map]
  rcases Nat.lt_or_ge j S.size with hj | hj
  · rw [List.getElem?_range hj, List.getElem?_eq_getElem (by omega)]
    simp only [Option.map_some, Int.toNat_natCast, Option.some.injEq]
    have e1 : rB (msF v) a j = ch S j := by
      unfold rB
      rw [show (msF v).v (a + j / 4) = v (a + j / 4) from rfl, h _ (by omega), word_byte S _ _ (Nat.mod_lt _ (by omega))]
      congr 1
      omega
    rw [e1]
    unfold ch bAt
    rw [List.getD_eq_getElem?_getD, List.getElem?_eq_getElem (by omega)]
    simp
  · rw [List.getElem?_eq_none (by simp; omega), List.getElem?_eq_none (by omega)]
    rfl
theorem rS_congr {v v' : Nat → Nat} (a n : Nat) (h : ∀ i, i < (n + 3) / 4 → v (a + i) = v' (a + i)) : rS (msF v) a n = rS (msF v') a n := by
  unfold rS
  congr 1
  apply List.map_congr_left
  intro j hj
  have := List.mem_range.1 hj
  unfold rB
  rw [show (msF v).v (a + j / 4) = v (a + j / 4) from rfl, show (msF v').v (a + j / 4) = v' (a + j / 4) from rfl, h _ (by omega)]
theorem seal_congr {f g : Nat → Nat} (h : ∀ i, i < 4 → f i = g i) : sealS f = sealS g := by
  unfold sealS
  rw [rS_congr (v := f) (v' := g) 0 16 (fun i hi => by rw [Nat.zero_add]; exact h i (by omega))]
/-- A bank says what it said if its words are what they were. -/
theorem bank_congr {v v' : Nat → Nat} {a size : Nat} (h : ∀ i, a ≤ i → i < a + half size → v' i = v i) :
    goodB v' a size = goodB v a size ∧ (∀ i, i < 5 → hdF v' a i = hdF v a i) ∧ (goodB v a size = true → dataB v' a = dataB v a) := by
  have hh : half size = 5 + (size + 3) / 4 := rfl
  have hd : ∀ i, i < 5 → hdF v' a i = hdF v a i := fun i hi => h (a + i) (by omega) (by omega)
  have hdat : hdF v a 2 ≤ size → dataB v' a = dataB v a := fun hle => by
    unfold dataB
    rw [hd 2 (by omega)]
    exact rS_congr _ _ (fun i hi => h _ (by omega) (by omega))
  have hs : sealS (hdF v' a) = sealS (hdF v a) := seal_congr (fun i hi => hd i (by omega))
  refine ⟨?_, hd, fun hg => hdat ?_⟩
  · unfold goodB
    rw [hd 0 (by omega), hd 2 (by omega), hd 3 (by omega), hd 4 (by omega), hs]
    by_cases hle : hdF v a 2 ≤ size
    · rw [hdat hle]
    · simp [hle]
  · unfold goodB at hg
    simp at hg
    exact hg.1.1.2
/-- What a store says: its patch; and its generation. -/
def viewB (v : Nat → Nat) (base size : Nat) : Option (Nat × ByteArray) := match actB v base size with | none => none | some k => some (hdF v (bkAt base size k) 1, dataB v (bkAt base size k))
def genV (v : Nat → Nat) (base size : Nat) : Nat := match actB v base size with | none => 0 | some k => hdF v (bkAt base size k) 0
theorem actB_good {v : Nat → Nat} {base size k : Nat} (h : actB v base size = some k) : goodB v (bkAt base size k) size = true := by
  unfold actB at h
  cases h0 : goodB v (bkAt base size 0) size <;> cases h1 : goodB v (bkAt base size 1) size <;> rw [h0, h1] at h <;> simp at h
  · subst h; exact h1
  · subst h; exact h0
  · split at h
    · simp at h; subst h; exact h0
    · simp at h; subst h; exact h1
theorem bk_apart (base size : Nat) : bkAt base size 0 + half size = bkAt base size 1 := by unfold bkAt; omega
/-- The bank beside the active one is spoilt: the store says what it said. -/
theorem spoil {v v' : Nat → Nat} {base size : Nat} (h0 : v' (bkAt base size (othB v base size)) = 0) (h1 : ∀ i, (i < bkAt base size (othB v base size) ∨ bkAt base size (othB v base size) + half size ≤ i) → v' i = v i) :
    actB v' base size = actB v base size ∧ viewB v' base size = viewB v base size ∧ genV v' base size = genV v base size := by
  have hap := bk_apart base size
  have gb : ∀ a, v' a = 0 → goodB v' a size = false := fun a ha => by unfold goodB hdF; rw [Nat.add_zero, ha]; rfl
  cases ha : actB v base size with
  | none =>
    have ho : othB v base size = 0 := by unfold othB; rw [ha]
    rw [ho] at h0 h1
    have c1 := (bank_congr (v := v) (v' := v') (a := bkAt base size 1) (size := size) (fun i h2 h3 => h1 i (by omega))).1
    have g1 : goodB v (bkAt base size 1) size = false := by
      unfold actB at ha
      cases h1' : goodB v (bkAt base size 1) size with
      | false => rfl
      | true => rw [h1'] at ha; cases h0' : goodB v (bkAt base size 0) size <;> rw [h0'] at ha <;> simp at ha; split at ha <;> cases ha
    have ha' : actB v' base size = none := by unfold actB; rw [gb _ h0, c1, g1]; rfl
    exact ⟨ha', by unfold viewB; rw [ha, ha'], by unfold genV; rw [ha, ha']⟩
  | some k =>
    have hk := actB_lt ha
    have hg := actB_good ha
    have ho : othB v base size = 1 - k := by unfold othB; rw [ha]
    rw [ho] at h0 h1
    have ck := bank_congr (v := v) (v' := v') (a := bkAt base size k) (size := size) (fun i h2 h3 => h1 i (by rcases (by omega : k = 0 ∨ k = 1) with rfl | rfl <;> simp <;> omega))
    have g' := gb _ h0
    have ha' : actB v' base size = some k := by
      unfold actB
      rcases (by omega : k = 0 ∨ k = 1) with rfl | rfl
      · rw [ck.1, hg, g']; simp
      · rw [ck.1, hg, g']; simp
    exact ⟨ha', by unfold viewB; rw [ha, ha']; dsimp only; rw [ck.2.1 1 (by omega), ck.2.2 hg], by unfold genV; rw [ha, ha']; dsimp only; rw [ck.2.1 0 (by omega)]⟩
/-- The bank beside the active one is filled: the store says the new patch. -/
theorem fill {v v' : Nat → Nat} {base size id : Nat} {S : ByteArray} (hS : S.size ≤ size) (h1 : ∀ i, (i < bkAt base size (othB v base size) ∨ bkAt base size (othB v base size) + half size ≤ i) → v' i = v i)
    (h2 : ∀ i, i < 5 → v' (bkAt base size (othB v base size) + i) = hdW (genV v base size + 1) id S.size (crc S) i) (h3 : ∀ k, k < (S.size + 3) / 4 → v' (bkAt base size (othB v base size) + 5 + k) = wordAt S k) :
    viewB v' base size = some (id, S) ∧ genV v' base size = genV v base size + 1 := by
  have hap := bk_apart base size
  obtain ⟨a, hae⟩ : ∃ a, a = bkAt base size (othB v base size) := ⟨_, rfl⟩
  rw [← hae] at h1 h2 h3
  have hd : ∀ i, i < 5 → hdF v' a i = hdW (genV v base size + 1) id S.size (crc S) i := h2
  have hlen : hdF v' a 2 = S.size := hd 2 (by omega)
  have hdat : dataB v' a = S := by unfold dataB; rw [hlen]; exact rS_words _ _ _ h3
  have hsl : sealS (hdF v' a) = sealS (hdN (genV v base size + 1) id S.size (crc S)) := seal_congr (fun i hi => by rw [hd i (by omega)]; unfold hdW; rw [if_neg (by omega)])
  have hgood : goodB v' a size = true := by
    unfold goodB
    rw [hlen, hdat, hsl, hd 0 (by omega), hd 3 (by omega), hd 4 (by omega)]
    simp [hdW, hdN, hS]
  have hgen : hdF v' a 0 = genV v base size + 1 := hd 0 (by omega)
  have hid : hdF v' a 1 = id := hd 1 (by omega)
  have fin : actB v' base size = some (othB v base size) → viewB v' base size = some (id, S) ∧ genV v' base size = genV v base size + 1 := fun ha' => by
    unfold viewB
    rw [show genV v' base size = hdF v' a 0 by unfold genV; rw [ha', hae], ha']
    dsimp only
    rw [← hae, hid, hdat, hgen]
    exact ⟨rfl, rfl⟩
  refine fin ?_
  cases ha : actB v base size with
  | none =>
    have ho : othB v base size = 0 := by unfold othB; rw [ha]
    rw [ho] at hae ⊢
    have c1 := (bank_congr (v := v) (v' := v') (a := bkAt base size 1) (size := size) (fun i h2 h3 => h1 i (by omega))).1
    have g1 : goodB v (bkAt base size 1) size = false := by
      unfold actB at ha
      cases h1' : goodB v (bkAt base size 1) size with
      | false => rfl
      | true => rw [h1'] at ha; cases h0' : goodB v (bkAt base size 0) size <;> rw [h0'] at ha <;> simp at ha; split at ha <;> cases ha
    unfold actB
    rw [← hae, hgood, c1, g1]
    rfl
  | some k =>
    have hk := actB_lt ha
    have hg := actB_good ha
    have ho : othB v base size = 1 - k := by unfold othB; rw [ha]
    have hgv : genV v base size = hdF v (bkAt base size k) 0 := by unfold genV; rw [ha]
    rw [ho] at hae ⊢
    have ck := bank_congr (v := v) (v' := v') (a := bkAt base size k) (size := size) (fun i h2 h3 => h1 i (by rcases (by omega : k = 0 ∨ k = 1) with rfl | rfl <;> simp at hae <;> omega))
    have gk := ck.2.1 0 (by omega)
    unfold actB
    rcases (by omega : k = 0 ∨ k = 1) with rfl | rfl
    · simp at hae
      rw [ck.1, hg, ← hae, hgood, hgen, gk, ← hgv, if_pos rfl, if_pos rfl, if_neg (by omega)]
    · simp at hae
      rw [ck.1, hg, ← hae, hgood, hgen, gk, ← hgv, if_pos rfl, if_pos rfl, if_pos (by omega)]
end Go.Proofs.YtdebfniifijjoaaDoor
/-
  The walks of tables' number and appended. Conditions: at most 8 bytes.
-/
namespace Go.Proofs.YtdebfniifijjoaaDoor
open Go.RowKit Kit Go.Shelf
set_option linter.unusedVariables false
theorem or_u64 (a b : Nat) (ha : a < 18446744073709551616) (hb : b < 18446744073709551616) : bits .or .u64 (a : Int) (b : Int) = ((a ||| b : Nat) : Int) := by
  have hx : a ||| b < 2 ^ 64 := Nat.or_lt_two_pow (by omega) (by omega)
  show IntKind.u64.wrap ((BitVec.ofInt 64 (a : Int) ||| BitVec.ofInt 64 (b : Int)).toNat : Int) = _
  rw [BitVec.toNat_or, ofInt64 a ha, ofInt64 b hb, IntKind.wrap_u64]
  omega
theorem pk_or64 (x c : Nat) (hx : x < 72057594037927936) (hc : c < 256) : bits BinOp.or IntKind.u64 ((x : Int) * 256) (c : Int) = ((256 * x + c : Nat) : Int) := by
  rw [show (x : Int) * 256 = ((256 * x : Nat) : Int) by omega, or_u64 _ _ (by omega) (by omega)]
  congr 1
  exact (Nat.two_pow_add_eq_or_of_lt (i := 8) hc x).symm
theorem pk_lt56 (b : Nat → Nat) (hb : ∀ i, b i < 256) (k : Nat) (hk : k < 8) : pkF b k < 72057594037927936 := by
  have h := pkF_lt b hb k
  exact Nat.lt_of_lt_of_le h (by
    rcases (by omega : k = 0 ∨ k = 1 ∨ k = 2 ∨ k = 3 ∨ k = 4 ∨ k = 5 ∨ k = 6 ∨ k = 7) with rfl | rfl | rfl | rfl | rfl | rfl | rfl | rfl <;> decide)
set_option maxHeartbeats 800000 in
theorem number_any (f : Nat → Nat) (hf : ∀ i, f i < 256) (B off n c : Nat) (hn : n ≤ 8) (w : World) (hB : B < w.heap.size) (h : ∀ i, i < n → w.cell? ⟨B, off + i, none⟩ = some (.int .u8 (f i))) (hc : n ≤ c ∧ c ≤ maxLen) :
    Calls Tryd.prog 78 #[.slice (some ⟨B, off, none⟩) n c] w fun e w' => e = .returned (.int .u64 (pkF f n)) ∧ w = w' := by
  have PR := Lib.hid (fun k hk => pk_or64 (pkF f k) (f k) (pk_lt56 f hf k hk) (hf k))
  have PL := Lib.hid (fun k hk => pk_lt56 f hf k hk)
  have HB := Lib.hid hf
  have HC := Lib.hid h
  have hc2 := hc.2
  unfold maxLen at hc2
  clear hf h
  go_enter Tryd.func78, Tryd.ntmps78
  go_wp2_with (fail)
  go_loopw [3, 8] (fun v i wr => ∃ k : Nat, k ≤ n ∧ i = .int .i64 k ∧ v = .int .u64 (pkF f k) ∧ w = wr) (fun _ i _ => n - (intOf i).toNat)
  case atStart => exact ⟨0, by omega, rfl, rfl, rfl⟩
  case round =>
    obtain ⟨k, hk, rfl, rfl, rfl⟩ := hrel
    by_cases hlt : k < n
    · have dk : decide ((k : Int) < (n : Int)) = true := by simp; omega
      have p1 := PL.out k (by omega)
      have p2 := PR.out k (by omega)
      have cc := HC.out k hlt
      have hbk := HB.out k
      have NX := Lib.hid (show pkF f (k + 1) = 256 * pkF f k + f k from rfl)
      generalize pkF f k = y at *
      generalize f k = x at *
      have W1 : IntKind.u64.wrap ((y : Int) * 256) = (y : Int) * 256 := by rw [IntKind.wrap_u64]; omega
      have W2 : IntKind.u64.wrap (x : Int) = (x : Int) := by rw [IntKind.wrap_u64]; omega
      go_wp2_with (fail)
      refine ⟨⟨k + 1, by omega, by go_num, ?_, trivial⟩, by simp [intOf]; omega⟩
      rw [NX.out]
      congr 1
    · have e : k = n := by omega
      subst e
      have dk : decide ((k : Int) < (k : Int)) = false := by simp
      go_wp2_with (fail)
      go_ret
      exact ⟨rfl, rfl⟩
/-- Blocks that hold no bytes lie as they lay. -/
def K5 (w w' : World) : Prop := ∀ (k : Nat) (cs : Array Value) (t : TypeId), w.heap[k]? = some (.cells cs t) → t ≠ 5 → w'.heap[k]? = some (.cells cs t)
theorem K5.refl (w : World) : K5 w w := fun _ _ _ h _ => h
theorem K5.trans {a b c : World} (h : K5 a b) (h' : K5 b c) : K5 a c := fun k cs t hk ht => h' k cs t (h k cs t hk ht) ht
theorem K5.below {a b : World} (h : Below a.heap.size a b) : K5 a b := fun k cs t hk ht => below_keeps h hk (lt_of_obj hk)
theorem K5.grown {a b : World} {base N : Nat} {v : Value} {xs : List Value} (h : a.grownBy b v.ownBlock) (ho : a.ownsRow base 5 1 v N xs) : K5 a b := fun k cs t hk ht => (mod_of_grown h).keeps hk (own_ne_obj ho hk ht)
/-- The lowest bytes of a number, the highest one first: the first j of m. -/
def beL (x m j : Nat) : List Value := (List.range j).map fun i => Value.int .u8 ((x / 2 ^ (8 * (m - 1 - i)) % 256 : Nat) : Int)
theorem beL_next (x m j : Nat) : beL x m (j + 1) = beL x m j ++ [Value.int .u8 ((x / 2 ^ (8 * (m - 1 - j)) % 256 : Nat) : Int)] := by simp [beL, List.range_succ]
theorem beL_len (x m j : Nat) : (beL x m j).length = j := by simp [beL]
def AppQ (base N : Nat) (xs : List Value) (x m : Nat) (w : World) (e : Ending) (w' : World) : Prop := ∃ v', e = .returned v' ∧ w'.ownsRow base 5 1 v' (N + m) (xs ++ beL x m m) ∧ Below base w w' ∧ K5 w w'
structure APL (w : World) (base N : Nat) (xs : List Value) (x m j : Nat) (v : Value) (wr : World) : Prop where
  own : wr.ownsRow base 5 1 v (N + j) (xs ++ beL x m j)
  below : Below base w wr
  keep : K5 w wr
  size : w.heap.size ≤ wr.heap.size
set_option maxRecDepth 100000 in
set_option maxHeartbeats 1600000 in
theorem appended_any {base N : Nat} {xs : List Value} {v : Value} {w : World} (ho : w.ownsRow base 5 1 v N xs) (hb : base ≤ w.heap.size) (hN : N ≤ 100000) (x m : Nat) (hm : m ≤ 8) (hx : x < 18446744073709551616) :
    Calls Tryd.prog 72 #[v, .int .u64 x, .int .i64 m] w fun e w' => AppQ base N xs x m w e w' := by
  have H0 : Hid (APL w base N xs x m 0 v w) := Lib.hid ⟨by simpa [beL] using ho, Below.refl _ _, K5.refl _, Nat.le_refl _⟩
  obtain ⟨i0, hi0, hz0, hz1, hz2⟩ := info_parts inf5
  have W0 : IntKind.i64.wrap ((m : Int) - 1) = (m : Int) - 1 := IntWalk.i64_in _ (by omega)
  clear ho
  go_enter Tryd.func72, Tryd.ntmps72
  go_wp2_with (fail)
  go_loopw [0, 7] (fun u i wr => ∃ j : Nat, j ≤ m ∧ i = .int .i64 ((m : Int) - 1 - j) ∧ APL w base N xs x m j u wr) (fun _ i _ => (match i with | .int _ z => z + 1 | _ => 0).toNat)
  case atStart => exact ⟨0, by omega, by simp, H0.out⟩
  case round =>
    clear H0
    obtain ⟨j, hj, rfl, hR⟩ := hrel
    have HR := Lib.hid hR
    clear hR
    by_cases hlt : j < m
    · obtain ⟨q, hq⟩ : ∃ q, q = m - 1 - j := ⟨_, rfl⟩
      have hq' : (m : Int) - 1 - (j : Int) = (q : Int) := by omega
      rw [hq']
      have dk : decide ((0 : Int) ≤ (q : Int)) = true := by simp
      have LN := Lib.hid (beL_next x m j)
      rw [← hq] at LN
      have OW := Lib.hid HR.out.own
      have hws : base ≤ wr.heap.size := by have := HR.out.size; omega
      have hq8 : q < 8 := by omega
      have VE : Hid ((x : Int) / 2 ^ (8 * q) % 256 = ((x / 2 ^ (8 * q) % 256 : Nat) : Int)) := Lib.hid (by simp)
      have HQ := Lib.hid hq
      have HQ' := Lib.hid hq'
      clear hq hq'
      go_wp2_with (at_builtin; refine wpList_append_own _ rfl _ _ 137 rfl base 5 i0 _ 1 1 Tryd.underlying137 hi0 hz0 hz1 hz2 rfl (by decide) _ (N + j) _ rfl (OW.out.alloc _) ⟨wr.heap.size, 0, none⟩ 1 1 [_] rfl rfl (cells_new wr [_] 5) (by simp [Value.oneCell']) (by unfold maxLen; omega) (by omega) (by simp; omega) ?_; intro v6 w6 hown6 hg6 _; have OWN6 := Lib.hid hown6; have GR6 := Lib.hid hg6; clear hown6 hg6)
      have own7 := OWN6.out
      rw [VE.out, List.append_assoc, ← LN.out] at own7
      refine ⟨⟨j + 1, by omega, by congr 1; have := HQ'.out; omega, ?_⟩, by simp⟩
      have hk5 : K5 wr w6 := (K5.below (bl_alloc (Below.refl _ _) _)).trans (K5.grown GR6.out (OW.out.alloc _))
      exact ⟨own7, (HR.out.below.trans ((bl_alloc (Below.refl wr.heap.size wr) _).mono hws)).grown GR6.out (by simp; omega) (fun k e => (OW.out.lt k e).1), HR.out.keep.trans hk5, Nat.le_trans HR.out.size (Nat.le_trans (bl_alloc (Below.refl _ _) _).size GR6.out.size)⟩
    · have e : j = m := by omega
      subst e
      have dk : decide ((0 : Int) ≤ (j : Int) - 1 - (j : Int)) = false := by simp; omega
      have dk' : ((j : Int) - 1 - (j : Int)) = -1 := by omega
      rw [dk']
      go_wp2_with (fail)
      go_ret
      exact ⟨_, rfl, HR.out.own, HR.out.below, HR.out.keep⟩
end Go.Proofs.YtdebfniifijjoaaDoor
