/-
  More that Decode's walk leans on: the copy, the bytes, the steps of its loops. Conditions: those that each names.
-/
import Derived.Test.YtbfgpjpfhbbdfaaDeca
import Derived.Laws.CopyRow
import Derived.Laws.BytesArg
namespace Go.Proofs.Ytbfgpjpfhbbdfaa
open Go.RowKit Kit
set_option linter.unusedVariables false
theorem nwF_step (X : List Int) (T i : Nat) (A : Nat → Int) (R : Nat → Nat) (nw : Nat → Int) (t j : Nat) (bs br : Int) (h : bstJ X T i A R t 2 = (bs, br)) :
    (if j = t * 2 + 1 then br else if j = t * 2 then bs else nwF X T i A R nw t j) = nwF X T i A R nw (t + 1) j := by
  have e1 : bs = yS X T i A t (frm X T i A R t) := (congrArg Prod.fst h).symm
  have e2 : br = (R (frm X T i A R t) : Nat) := (congrArg Prod.snd h).symm
  unfold nwF
  by_cases c1 : j = t * 2 + 1
  · rw [if_pos c1, if_pos (by omega)]
    unfold svC
    rw [if_neg (by omega), show j / 2 = t by omega]; exact e2
  · rw [if_neg c1]
    by_cases c2 : j = t * 2
    · rw [if_pos c2, if_pos (by omega)]
      unfold svC
      rw [if_pos (by omega), show j / 2 = t by omega]; exact e1
    · rw [if_neg c2]
      by_cases c3 : j / 2 < t
      · rw [if_pos c3, if_pos (show j / 2 < t + 1 by omega)]
      · rw [if_neg c3, if_neg (show ¬ j / 2 < t + 1 by omega)]
theorem wyF_step (X : List Int) (T i : Nat) (A : Nat → Int) (R : Nat → Nat) (wy : Nat → Int) (t q : Nat) : wyJ X T i A R wy t 2 q = wyF X T i A R wy (t + 1) q := by
  unfold wyJ
  by_cases e : q = i * 64 + t
  · rw [if_pos ⟨e, by omega⟩, if_neg (by omega)]
    unfold wyF
    rw [if_pos (by omega), show q - i * 64 = t by omega]
  · rw [if_neg (fun h => e h.1)]
    unfold wyF
    by_cases c : i * 64 ≤ q ∧ q < i * 64 + t
    · rw [if_pos c, if_pos (by omega)]
    · rw [if_neg c, if_neg (by omega)]
theorem Mem.mod {w0 wr w6 : World} {E N : Nat} {was now now' wy : Nat → Int} (h : Mem w0 E N was now wy wr) (hm : Mod (fun k => k = E + 1 + 1) wr w6) (hb : w6.heap[E + 1 + 1]? = some (.cells (afn 128 now') 58)) : Mem w0 E N was now' wy w6 :=
  ⟨hm.keeps h.hE (by omega), hm.keeps h.hW (by omega), hb, hm.keeps h.hY (by omega), below_mod h.below hm h.below.size (by have := h.ge; omega), h.ge⟩
theorem Mem.setRow {w0 wr : World} {E N : Nat} {was now wy : Nat → Int} (h : Mem w0 E N was now wy wr) : Mem w0 E N now now wy (wr.setRow (E + 1) (afn 128 now)) :=
  ⟨(setRow_other _ _ _ _ (by omega)).trans h.hE, setRow_heap _ _ _ _ _ _ h.hW, (setRow_other _ _ _ _ (by omega)).trans h.hN, (setRow_other _ _ _ _ (by omega)).trans h.hY, below_setRow h.below (by have := h.ge; omega) _, h.ge⟩
theorem inf57 : (Try.prog.info? 57).map (fun i => (i.zero, i.size, i.bytes)) = some (some (.agg #[.int .i64 0, .int .i64 0]), 2, 16) := by kernel_rfl
/-- All survivors are copied. -/
theorem copy58 (w : World) (b1 b2 ty : Nat) (C1 C2 : Nat → Int) (h1 : w.heap[b1]? = some (.cells (afn 128 C1) 58)) (h2 : w.heap[b2]? = some (.cells (afn 128 C2) 58)) :
    (Builtin.copy_ #[64, 64] ty #[.slice (some ⟨b1, 0, none⟩) 64 64, .slice (some ⟨b2, 0, none⟩) 64 64]).run Try.prog w = .ok (goInt 64) (w.setRow b1 (afn 128 C2)) := by
  have hsrc : ∀ j v, (afn 128 C2).toList[j]? = some v → w.cell? ((⟨b2, 0, none⟩ : Addr).add j) = some v := by
    intro j v hj
    have : (afn 128 C2)[j]? = some v := by simpa using hj
    rw [Addr.add_lit, Nat.zero_add]
    exact cell_of h2 this
  have hl := run_loadCells_list (P := Try.prog) w ⟨b2, 0, none⟩ (afn 128 C2).toList hsrc
  have hst := run_storeCells_at Try.prog b1 0 58 (afn 128 C2).toList 0 (afn 128 C1) w h1 (by simp [afn_size]) (by
    intro v hv
    simp only [afn, Array.toList_ofFn, List.mem_ofFn] at hv
    obtain ⟨i, rfl⟩ := hv
    rfl)
  have hlen : (afn 128 C2).toList.length = 128 := by simp [afn_size]
  have hC : ((afn 128 C1).toList.take (0 + 0) ++ (afn 128 C2).toList ++ (afn 128 C1).toList.drop (0 + 0 + (afn 128 C2).toList.length)).toArray = afn 128 C2 := by
    rw [hlen, List.drop_eq_nil_of_le (by simp [afn_size])]; simp
  rw [hC] at hst
  rw [hlen] at hl
  obtain ⟨i, hi, hz0, hz1, hz2⟩ := info_parts (inf57)
  simp [Builtin.copy_, run_underlying Try.underlying64, Builtin.lenOf, Builtin.firstCells, sizeOf, typeInfo, hi, hz1, hl, hst]
/-- Bytes' cells. -/
def bfn (n : Nat) (g : Nat → Nat) : Array Value := Array.ofFn (n := n) fun i => .int .u8 (g i.val)
theorem bfn_size (n : Nat) (g : Nat → Nat) : (bfn n g).size = n := by simp [bfn]
theorem bfn_get (n : Nat) (g : Nat → Nat) (i : Nat) (h : i < n) : (bfn n g)[i]? = some (.int .u8 (g i)) := by simp [bfn, h]
theorem bfn_none (n : Nat) (g : Nat → Nat) (i : Nat) (h : n ≤ i) : (bfn n g)[i]? = none := Array.getElem?_eq_none (by simp [bfn_size]; omega)
theorem bfn_congr {n : Nat} {g g' : Nat → Nat} (h : ∀ j, j < n → g j = g' j) : bfn n g = bfn n g' := by
  apply Array.ext_getElem?
  intro i
  rcases Nat.lt_or_ge i n with hi | hi
  · rw [bfn_get _ _ _ hi, bfn_get _ _ _ hi, h i hi]
  · rw [bfn_none _ _ _ hi, bfn_none _ _ _ hi]
theorem bfn_set (n : Nat) (g : Nat → Nat) (i : Nat) (v : Nat) : (bfn n g).setIfInBounds i (.int .u8 v) = bfn n (fun j => if j = i then v else g j) := by
  apply Array.ext_getElem?
  intro j
  rcases Nat.lt_or_ge j n with hj | hj
  · rw [Array.getElem?_setIfInBounds, bfn_get _ _ _ hj, bfn_size]
    by_cases e : i = j
    · subst e; rw [if_pos rfl, if_pos hj, bfn_get _ _ _ hj, if_pos rfl]
    · rw [if_neg e, bfn_get _ _ _ hj, if_neg (fun h => e h.symm)]
  · rw [bfn_none _ _ _ hj, Array.getElem?_setIfInBounds, bfn_size]
    by_cases e : i = j
    · subst e; rw [if_pos rfl, if_neg (by omega)]
    · rw [if_neg e, bfn_none _ _ _ hj]
theorem make37 (w : World) (n : Nat) (h : n ≤ 10000) : (Instr.makeSlice 37 (.int .i64 n) (.int .i64 n)).run Try.prog w = .ok (.slice (some ⟨w.heap.size, 0, none⟩) n n) (w.alloc (.cells (bfn n fun _ => 0) 5)) := by
  obtain ⟨i, hi, hz0, hz1, hz2⟩ := info_parts info5
  have := run_make (P := Try.prog) w 37 5 i _ Try.underlying37 hi hz0 .i64 .i64 n n (by omega) (by omega) (by rw [hz2]; omega) (by omega)
  rw [this]
  have e : madeCells (Value.int .u8 0).cells ((n : Int).toNat * i.size) = bfn n fun _ => 0 := by
    rw [hz1]
    apply Array.ext_getElem?
    intro j
    rcases Nat.lt_or_ge j n with hj | hj
    · rw [bfn_get _ _ _ hj]
      unfold madeCells
      have : j < (n : Int).toNat * 1 := by omega
      simp only [Array.getElem?_map, Option.map_eq_some_iff]
      exact ⟨j, by rw [Array.getElem?_eq_getElem (by simpa using this)]; simp, by simp [Value.cells, Nat.mod_one]⟩
    · rw [bfn_none _ _ _ hj]
      exact Array.getElem?_eq_none (by simp [madeCells]; omega)
  rw [e]
  simp
/-- A byte of bits, of those from q on. -/
def obv (f : Nat → Nat) (q j : Nat) : Nat :=
  (if q ≤ 8 * j then f (8 * j) * 128 else 0) + (if q ≤ 8 * j + 1 then f (8 * j + 1) * 64 else 0) + (if q ≤ 8 * j + 2 then f (8 * j + 2) * 32 else 0) + (if q ≤ 8 * j + 3 then f (8 * j + 3) * 16 else 0) +
  (if q ≤ 8 * j + 4 then f (8 * j + 4) * 8 else 0) + (if q ≤ 8 * j + 5 then f (8 * j + 5) * 4 else 0) + (if q ≤ 8 * j + 6 then f (8 * j + 6) * 2 else 0) + (if q ≤ 8 * j + 7 then f (8 * j + 7) else 0)
theorem obv_lt (f : Nat → Nat) (hf : ∀ i, f i < 2) (q j : Nat) : obv f q j < 256 := by
  unfold obv
  have := hf (8 * j); have := hf (8 * j + 1); have := hf (8 * j + 2); have := hf (8 * j + 3); have := hf (8 * j + 4); have := hf (8 * j + 5); have := hf (8 * j + 6); have := hf (8 * j + 7)
  repeat' split
  all_goals omega
theorem obv_far (f : Nat → Nat) (q j : Nat) (h : j ≠ q / 8) : obv f q j = obv f (q + 1) j := by
  unfold obv
  have e : ∀ b, b < 8 → (q ≤ 8 * j + b ↔ q + 1 ≤ 8 * j + b) := fun b hb => by omega
  have e0 := e 0 (by omega)
  simp only [Nat.add_zero] at e0
  simp only [e0, e 1 (by omega), e 2 (by omega), e 3 (by omega), e 4 (by omega), e 5 (by omega), e 6 (by omega), e 7 (by omega)]
theorem obv_near (f : Nat → Nat) (hf : ∀ i, f i < 2) (q : Nat) : obv f (q + 1) (q / 8) < 2 ^ (7 - q % 8) ∧ obv f q (q / 8) = obv f (q + 1) (q / 8) + f q * 2 ^ (7 - q % 8) := by
  obtain ⟨j, r, hr, rfl⟩ : ∃ j r, r < 8 ∧ q = 8 * j + r := ⟨q / 8, q % 8, by omega, by omega⟩
  have e1 : (8 * j + r) / 8 = j := by omega
  have e2 : (8 * j + r) % 8 = r := by omega
  rw [e1, e2]
  have := hf (8 * j); have := hf (8 * j + 1); have := hf (8 * j + 2); have := hf (8 * j + 3); have := hf (8 * j + 4); have := hf (8 * j + 5); have := hf (8 * j + 6); have := hf (8 * j + 7)
  unfold obv
  have hc : r = 0 ∨ r = 1 ∨ r = 2 ∨ r = 3 ∨ r = 4 ∨ r = 5 ∨ r = 6 ∨ r = 7 := by omega
  rcases hc with rfl | rfl | rfl | rfl | rfl | rfl | rfl | rfl <;> refine ⟨?_, ?_⟩ <;> (repeat (first | rw [if_pos (by omega)] | rw [if_neg (by omega)])) <;> simp <;> omega
theorem or_bit : ∀ r : Fin 8, ∀ a : Fin 256, a.val < 2 ^ (7 - r.val) → bits BinOp.or IntKind.u8 (a.val : Int) ((128 : Int) / 2 ^ r.val) = ((a.val + 2 ^ (7 - r.val) : Nat) : Int) := by decide +kernel
/-- The message of a number of bits. -/
def fM (k M x : Nat) : Nat := M / 2 ^ (8 * k + 5 - x) % 2
theorem fM_lt (k M x : Nat) : fM k M x < 2 := by unfold fM; omega
def msg (k M : Nat) : ByteArray := strF (obv (fM k M) 0) k
theorem back_step {X : List Int} {T m : Nat} {A : Nat → Int} {R : Nat → Nat} {wy : Nat → Int} (h : TBack X T wy m) (hI : Inv X T m A R) (hX : softL X = true) (hi : 2 * m + 1 < X.length) (hm : X.length ≤ 20000) : TBack X T (wyF X T m A R wy 64) (m + 1) := by
  intro j hj t ht
  rcases Nat.lt_succ_iff_lt_or_eq.1 hj with h1 | rfl
  · obtain ⟨p, hp, hp2, hp3⟩ := h j h1 t ht
    refine ⟨p, ?_, hp2, hp3⟩
    unfold wyF
    rw [if_neg (by omega)]; exact hp
  · refine ⟨frm X T j A R t, ?_, frm_lt _ _ _ _ _ _, fun c hc => ?_⟩
    · unfold wyF
      rw [if_pos (by omega), show j * 64 + t - j * 64 = t by omega]
    · obtain ⟨d, h1, h2, rfl⟩ := hI.from hX hi hm t ht c hc
      exact ⟨d, h1, h2, rfl⟩
theorem sv_next (X : List Int) (T m : Nat) (A : Nat → Int) (R : Nat → Nat) (nw : Nat → Int) (k : Nat → Nat) (o : List Nat) (h : Ord k o) : afn 128 (rnkC (nwF X T m A R nw 64) o 64) = afn 128 (svC (fun t => yS X T m A t (frm X T m A R t)) (fun s => o.idxOf s)) := by
  refine afn_congr fun j hj => ?_
  have := h.rank.1 (j / 2) (by omega)
  unfold rnkC
  by_cases e : j % 2 = 1
  · rw [if_pos ⟨e, this⟩]; unfold svC; rw [if_neg (by omega)]
  · rw [if_neg (fun h => e h.1)]
    unfold nwF
    rw [if_pos (by omega)]
    unfold svC
    rw [if_pos (by omega), if_pos (by omega)]
theorem inv_next {X : List Int} {T m : Nat} {A : Nat → Int} {R : Nat → Nat} (hI : Inv X T m A R) (hX : softL X = true) (hi : 2 * m + 1 < X.length) (hm : X.length ≤ 20000) (o : List Nat) (h : Ord (key R (frm X T m A R)) o) :
    Inv X T (m + 1) (fun t => yS X T m A t (frm X T m A R t)) (fun s => o.idxOf s) :=
  hI.step hX hi hm h.rank.1 h.rank.2.1 (fun s t hs ht => h.rank.2.2 s t hs ht)
theorem obv_top (f : Nat → Nat) (q j : Nat) (h : 8 * j + 7 < q) : obv f q j = 0 := by
  unfold obv
  rw [if_neg (by omega), if_neg (by omega), if_neg (by omega), if_neg (by omega), if_neg (by omega), if_neg (by omega), if_neg (by omega), if_neg (by omega)]
/-- A step back along the ways. -/
theorem way_back {X : List Int} {k x s : Nat} {wy : Nat → Int} {m M : Nat} {v : Int} (h : TBack X (8 * k) wy m) (hx : x < m) (hs : s < 64) (hxN : x < 8 * k + 6) (hP : P X (8 * k) (x + 1) s = some (v, M / 2 ^ (8 * k + 6 - (x + 1)))) :
    ∃ p : Nat, wy (x * 64 + s) = p ∧ p < 64 ∧ (∃ v, P X (8 * k) x p = some (v, M / 2 ^ (8 * k + 6 - x))) ∧ ¬ (8 * k ≤ x ∧ 32 ≤ s) ∧ fM k M x = s / 32 := by
  obtain ⟨p, h1, h2, h3⟩ := h x hx s hs
  obtain ⟨⟨d1, d2⟩, hd, hn, e⟩ := h3 _ hP
  simp only at e
  refine ⟨p, h1, h2, ⟨d1, ?_⟩, hn, ?_⟩
  · rw [hd]
    have e2 : 8 * k + 6 - x = (8 * k + 6 - (x + 1)) + 1 := by omega
    rw [e2, Nat.pow_succ, ← Nat.div_div_eq_div_mul, e]
    congr 2; omega
  · unfold fM
    rw [show 8 * k + 5 - x = 8 * k + 6 - (x + 1) by omega, e]; omega
theorem byte_keep (k M x s j : Nat) (hj : j < k) (hb : fM k M x = s / 32) (h : ¬ (x < 8 * k ∧ 32 ≤ s)) (hs : s < 64) : obv (fM k M) (x + 1) j = obv (fM k M) x j := by
  by_cases e : j = x / 8
  · subst e
    have h1 := (obv_near (fM k M) (fM_lt k M) x).2
    have h2 : fM k M x = 0 := by omega
    rw [h1, h2]; omega
  · exact (obv_far _ _ _ e).symm
theorem byte_set (k M x s j : Nat) (hb : fM k M x = s / 32) (h : x < 8 * k ∧ 32 ≤ s) (hs : s < 64) : (if j = x / 8 then obv (fM k M) (x + 1) (x / 8) + 2 ^ (7 - x % 8) else obv (fM k M) (x + 1) j) = obv (fM k M) x j := by
  by_cases e : j = x / 8
  · subst e
    have h1 := (obv_near (fM k M) (fM_lt k M) x).2
    have h2 : fM k M x = 1 := by omega
    rw [if_pos rfl, h1, h2]; omega
  · rw [if_neg e]; exact (obv_far _ _ _ e).symm
theorem bfn_str (w : World) (B k : Nat) (g : Nat → Nat) (h : w.heap[B]? = some (.cells (bfn k g) 5)) : (convert 37 9 (.slice (some ⟨B, 0, none⟩) k k)).run Try.prog w = .ok (.string (strF g k)) w := by
  have := run_convert_bytes_arg w 37 5 Try.underlying37 Try.underlying5 B 0 k k ((List.range k).map fun i => ((g i : Nat) : Int)) (by simp) (fun i hi => by
    rw [Nat.zero_add, cell_of h (bfn_get _ _ _ hi)]
    simp [List.getD_eq_getElem?_getD, hi]) 9 Try.underlying9
  exact this
end Go.Proofs.Ytbfgpjpfhbbdfaa
