/-
  The walk of a memory's WriteBytes. Conditions: bytes that stand in the memory.
-/
import Derived.Test.YtdebfniifijjoaaDoorM06
import Derived.Lib.LazyBuf
import Derived.Test.YtdebfniifijjoaaDoorM01
import Derived.Laws.AppendOwn
import Derived.Laws.OwnMore
import Derived.Maps.AppendAt
import Derived.OwnWalk
import Derived.RangeFuncBox
import Derived.IntWalk
import Derived.BigQuiet
import Derived.Deep.QuietTactic
namespace Go.Proofs.YtdebfniifijjoaaDoor
open Go.RowKit Kit Go.Shelf
set_option linter.unusedVariables false
/-- A byte of a string; 0 behind its end. -/
def ch (S : ByteArray) (i : Nat) : Nat := bAt S i
theorem ch_far (S : ByteArray) (i : Nat) (h : S.size ≤ i) : ch S i = 0 := by
  have : S.data.toList.length ≤ i := by simpa using h
  unfold ch bAt
  rw [List.getD_eq_getElem?_getD, List.getElem?_eq_none this]; rfl
theorem inf5 : (Tryd.prog.info? 5).map (fun i => (i.zero, i.size, i.bytes)) = some (some (.int .u8 0), 1, 1) := by kernel_rfl
theorem size5 (w : World) : (Go.sizeOf 5).run Tryd.prog w = .ok 1 w := by kernel_rfl
theorem copy_four (w : World) (B : Nat) (S : ByteArray) (h0 : 0 < S.size) (hB : w.heap[B]? = some (.cells #[.int .u8 0, .int .u8 0, .int .u8 0, .int .u8 0] 139)) :
    ∃ w', (∀ ty, (Builtin.copy_ #[137, 9] ty #[.slice (some ⟨B, 0, none⟩) 4 4, .string S]).run Tryd.prog w = .ok (goInt (min S.size 4)) w') ∧ w'.heap[B]? = some (.cells #[.int .u8 (ch S 0), .int .u8 (ch S 1), .int .u8 (ch S 2), .int .u8 (ch S 3)] 139) ∧ Mod (fun k => k = B) w w' := by
  have hl : S.data.toList.length = S.size := by simp
  have gen : ∀ (L : List Value), L = (S.data.toList.map fun x => Value.int .u8 (x.toNat : Int)).take (min S.size 4) → L.length ≤ 4 → (∀ v ∈ L, v.oneCell' = true) →
      ∀ ty, (Builtin.copy_ #[137, 9] ty #[.slice (some ⟨B, 0, none⟩) 4 4, .string S]).run Tryd.prog w = .ok (goInt (min S.size 4)) (w.setCells B 0 L) := by
    intro L hL h4 h1 ty
    have hst := run_storeCells_cells (P := Tryd.prog) B 0 L 0 w (fun j hj => by
      have hj4 : j < 4 := by omega
      have : w.cell? ⟨B, 0 + 0 + j, none⟩ = some (.int .u8 0) := by
        rw [show 0 + 0 + j = j by omega]
        rcases (by omega : j = 0 ∨ j = 1 ∨ j = 2 ∨ j = 3) with rfl | rfl | rfl | rfl <;> exact cell_of hB rfl
      simpa using congrArg Option.isSome this) (fun j hj => free_of hB) h1
    have hm : Nat.min S.size 4 = min S.size 4 := rfl
    simp [Builtin.copy_, run_underlying Tryd.underlying137, Builtin.lenOf, Builtin.firstCells]
    rw [hm, ← hL, hst]
    have e : ((min S.size 4 : Nat) : Int) = min (S.size : Int) 4 := by omega
    rw [e]; rfl
  have fin : ∀ (L : List Value), L = (S.data.toList.map fun x => Value.int .u8 (x.toNat : Int)).take (min S.size 4) → L.length ≤ 4 → (∀ v ∈ L, v.oneCell' = true) →
      (w.setCells B 0 L).heap[B]? = some (.cells #[.int .u8 (ch S 0), .int .u8 (ch S 1), .int .u8 (ch S 2), .int .u8 (ch S 3)] 139) →
      Mod (fun k => k = B) w (w.setCells B 0 L) →
      ∃ w', (∀ ty, (Builtin.copy_ #[137, 9] ty #[.slice (some ⟨B, 0, none⟩) 4 4, .string S]).run Tryd.prog w = .ok (goInt (min S.size 4)) w') ∧ w'.heap[B]? = some (.cells #[.int .u8 (ch S 0), .int .u8 (ch S 1), .int .u8 (ch S 2), .int .u8 (ch S 3)] 139) ∧ Mod (fun k => k = B) w w' :=
    fun L a b c d e => ⟨_, gen L a b c, d, e⟩
  have bS : ∀ i, bAt S i = (S.data.toList.getD i 0).toNat := fun i => rfl
  have M0 := Mod.refl (fun k => k = B) w
  cases hL : S.data.toList with
  | nil => rw [hL] at hl; simp at hl; omega
  | cons a r1 =>
    cases r1 with
    | nil =>
      have hs : S.size = 1 := by rw [← hl, hL]; rfl
      refine fin [.int .u8 (a.toNat : Int)] (by rw [hs, hL]; rfl) (by simp) (by simp [Value.oneCell']) ?_ (mod_at M0 _)
      have := hp_set (i := 0) hB (.int .u8 (a.toNat : Int))
      simp only [ch, bS, hL]
      exact this
    | cons b r2 =>
      cases r2 with
      | nil =>
        have hs : S.size = 2 := by rw [← hl, hL]; rfl
        refine fin [.int .u8 (a.toNat : Int), .int .u8 (b.toNat : Int)] (by rw [hs, hL]; rfl) (by simp) (by simp [Value.oneCell']) ?_ (mod_at (mod_at M0 _) _)
        have := hp_set (i := 1) (hp_set (i := 0) hB (.int .u8 (a.toNat : Int))) (.int .u8 (b.toNat : Int))
        simp only [ch, bS, hL]
        exact this
      | cons c r3 =>
        cases r3 with
        | nil =>
          have hs : S.size = 3 := by rw [← hl, hL]; rfl
          refine fin [.int .u8 (a.toNat : Int), .int .u8 (b.toNat : Int), .int .u8 (c.toNat : Int)] (by rw [hs, hL]; rfl) (by simp) (by simp [Value.oneCell']) ?_ (mod_at (mod_at (mod_at M0 _) _) _)
          have := hp_set (i := 2) (hp_set (i := 1) (hp_set (i := 0) hB (.int .u8 (a.toNat : Int))) (.int .u8 (b.toNat : Int))) (.int .u8 (c.toNat : Int))
          simp only [ch, bS, hL]
          exact this
        | cons d r4 =>
          have hs : min S.size 4 = 4 := by rw [← hl, hL]; simp
          refine fin [.int .u8 (a.toNat : Int), .int .u8 (b.toNat : Int), .int .u8 (c.toNat : Int), .int .u8 (d.toNat : Int)] (by rw [hs, hL]; rfl) (by simp) (by simp [Value.oneCell']) ?_ (mod_at (mod_at (mod_at (mod_at M0 _) _) _) _)
          have := hp_set (i := 3) (hp_set (i := 2) (hp_set (i := 1) (hp_set (i := 0) hB (.int .u8 (a.toNat : Int))) (.int .u8 (b.toNat : Int))) (.int .u8 (c.toNat : Int))) (.int .u8 (d.toNat : Int))
          simp only [ch, bS, hL]
          exact this
/-- The k-th word of a string. -/
def wordAt (S : ByteArray) (k : Nat) : Nat := pkF (fun i => ch S (4 * k + i)) 4
theorem ch_lt (S : ByteArray) (i : Nat) : ch S i < 256 := bAt_lt S i
theorem wordAt_lt (S : ByteArray) (k : Nat) : wordAt S k < 4294967296 := pkF_lt _ (fun i => ch_lt S _) 4
/-- The first k words of a string are stored. -/
def MS.wr (s : MS) (at_ : Nat) (S : ByteArray) : Nat → MS
  | 0 => s
  | k + 1 => (s.wr at_ S k).store (at_ + k) (wordAt S k)
/-- What is left of a string. -/
def cutS (S : ByteArray) (k : Nat) : ByteArray := ⟨(S.data.toList.drop (4 * k)).toArray⟩
theorem cutS_size (S : ByteArray) (k : Nat) : (cutS S k).size = S.size - 4 * k := by
  show (S.data.toList.drop (4 * k)).toArray.size = _
  rw [List.size_toArray, List.length_drop, Array.length_toList]; rfl
theorem cutS_at (S : ByteArray) (k i : Nat) : ch (cutS S k) i = ch S (4 * k + i) := by
  unfold ch bAt cutS
  simp [List.getD_eq_getElem?_getD, List.getElem?_drop]
theorem cutS_zero (S : ByteArray) : cutS S 0 = S := by
  cases S with
  | mk d => simp [cutS]
theorem cutS_next (S : ByteArray) (k n : Nat) (hn : n = min (S.size - 4 * k) 4) : (cutS S k).extract n (cutS S k).size = cutS S (k + 1) := by
  apply ByteArray.ext
  apply Array.toList_inj.1
  rw [ByteArray.data_extract]
  simp only [cutS, Array.toList_extract, ByteArray.size, List.size_toArray, List.length_drop, Array.length_toList]
  have hsz : S.data.size = S.size := rfl
  rw [List.extract_eq_take_drop]
  rw [List.take_of_length_le (by simp; omega), List.drop_drop]
  rcases Nat.lt_or_ge (S.size - 4 * k) 4 with h | h
  · rw [List.drop_eq_nil_of_le (by simp; omega), List.drop_eq_nil_of_le (by simp; omega)]
  · congr 1; omega
theorem zero139 (w : World) : Sem.run Tryd.prog (zeroValue 139) w = .ok (.agg #[.int .u8 0, .int .u8 0, .int .u8 0, .int .u8 0]) w := by kernel_rfl
/-- In the loop. -/
structure WL (w : World) (bm bw n safe : Nat) (s : MS) (at_ : Nat) (S : ByteArray) (k : Nat) (wr : World) : Prop where
  me : ME wr bm bw n safe (s.wr at_ S k)
  kp : MK bm bw w wr
theorem mk_of_new {bm bw B : Nat} {a b c : World} (h : MK bm bw a b) (hB : a.heap.size ≤ B) (h' : Mod (fun k => k = B) b c) : MK bm bw a c := Mod.trans h h' (fun k hk e => by omega)
theorem ME.modN {w w' : World} {bm bw n safe B : Nat} {s : MS} (h : ME w bm bw n safe s) (hm : Mod (fun k => k = B) w w') (h1 : bm ≠ B) (h2 : bw ≠ B) : ME w' bm bw n safe s := by
  obtain ⟨fx, st, ho⟩ := h.obj
  exact ⟨⟨fx, st, hm.keeps ho h1⟩, hm.keeps h.words h2, h.ok, h.ne, h.pos, h.size⟩
theorem toList_emp (d : ByteArray) : (d.toList == []) = decide (d.size = 0) := by
  rw [ByteArray.toList_eq]
  cases h : d.data.toList with
  | nil =>
    have : d.size = 0 := by have : d.data.toList.length = 0 := by rw [h]; rfl
                            simpa using this
    simp [this]
  | cons a l =>
    have : d.size ≠ 0 := by have : d.data.toList.length ≠ 0 := by rw [h]; simp
                            simpa using this
    simp [this]
set_option maxRecDepth 100000 in
set_option maxHeartbeats 3200000 in
theorem wrb_any {w : World} {bm bw n safe : Nat} {s : MS} (h : ME w bm bw n safe s) (hT : Tab w) (at_ : Nat) (S : ByteArray) (hl : S.size ≤ 4 * (n - at_)) (hi : at_ ≤ n) :
    Calls Tryd.prog 56 #[.pointer (some ⟨bm, 0, none⟩), .int .i64 at_, .string S] w fun e w' => OkQ bm bw n safe (s.wr at_ S ((S.size + 3) / 4)) w e w' := by
  have RO := Lib.hid (room_any h at_ S.size hl hi)
  have H0 : Hid (WL w bm bw n safe s at_ S 0 w) := Lib.hid ⟨h, MK.refl _ _ _⟩
  have HT := Lib.hid hT
  have POS := Lib.hid h.pos
  have hn := h.size
  have Z0 := Lib.hid (cutS_zero S)
  clear h hT
  go_enter Tryd.func56, Tryd.ntmps56
  go_wp2_with (fail)
  refine RO.out.mono ?_
  rintro e _ ⟨rfl, rfl⟩
  go_wp2_with (fail)
  go_loopw [1, 2] (fun i v wr => ∃ k : Nat, 4 * k ≤ S.size + 3 ∧ i = .int .i64 ((at_ + k : Nat) : Int) ∧ v = .string (cutS S k) ∧ WL w bm bw n safe s at_ S k wr) (fun i _ _ => at_ + S.size + 3 - (intOf i).toNat)
  case atStart => exact ⟨0, by omega, rfl, by rw [Z0.out], H0.out⟩
  case round =>
    clear H0
    obtain ⟨k, hk, rfl, rfl, hW⟩ := hrel
    have HW := Lib.hid hW
    clear hW
    obtain ⟨D, hD⟩ : ∃ D, cutS S k = D := ⟨_, rfl⟩
    rw [hD]
    have hDs : D.size = S.size - 4 * k := by rw [← hD, cutS_size]
    by_cases hlt : 4 * k < S.size
    · have t1 : (D.toList == []) = false := by rw [toList_emp]; exact decide_eq_false (by omega)
      have t2 : (D.toList != []) = true := by rw [bne, t1]; rfl
      obtain ⟨q, hq⟩ : ∃ q, q = min D.size 4 := ⟨_, rfl⟩
      have CN := Lib.hid (cutS_next S k q (by rw [hq, hDs]))
      rw [hD] at CN
      have WD : Hid (pkF (fun i => ch D i) 4 = wordAt S k) := Lib.hid (by unfold wordAt; congr 1; funext i; rw [← hD, cutS_at])
      obtain ⟨w5, cp, row5, m5⟩ := copy_four (wr.alloc (.cells #[.int .u8 0, .int .u8 0, .int .u8 0, .int .u8 0] 139)) wr.heap.size D (by omega) (hp_new _ _)
      have eq : goInt (min (D.size : Int) 4) = .int .i64 (q : Int) := by
        have : min (D.size : Int) 4 = (q : Int) := by omega
        rw [this]; rfl
      rw [eq] at cp
      have hq2 : q ≤ D.size := by omega
      have c0 : w5.cell? ⟨wr.heap.size, 0, none⟩ = some (.int .u8 (ch D 0)) := cell_of row5 rfl
      have c1 : w5.cell? ⟨wr.heap.size, 1, none⟩ = some (.int .u8 (ch D 1)) := cell_of row5 rfl
      have c2 : w5.cell? ⟨wr.heap.size, 2, none⟩ = some (.int .u8 (ch D 2)) := cell_of row5 rfl
      have c3 : w5.cell? ⟨wr.heap.size, 3, none⟩ = some (.int .u8 (ch D 3)) := cell_of row5 rfl
      obtain ⟨fx, st, ho⟩ := HW.out.me.obj
      have hb1 : bm < wr.heap.size := lt_of_obj ho
      have hb2 : bw < wr.heap.size := lt_of_obj HW.out.me.words
      have M5 := Lib.hid ((HW.out.me.below (bl_alloc (Below.refl _ _) (.cells #[.int .u8 0, .int .u8 0, .int .u8 0, .int .u8 0] 139))).modN m5 (by omega) (by omega))
      have K5 : Hid (MK bm bw w w5) := Lib.hid (mk_of_new (B := wr.heap.size) (HW.out.kp.trans (MK.below (bl_alloc (Below.refl _ _) _))) HW.out.kp.size m5)
      have PK := Lib.hid (packed_any (fun i => ch D i) (fun i => ch_lt D i) w5)
      rw [WD.out] at PK
      have hin : at_ + k < n := by omega
      have ST := Lib.hid (fun (w6 : World) (h6 : Below w5.heap.size w5 w6) => store_any (M5.out.below h6) ((HT.out.mk POS.out K5.out).below h6) (at_ + k) (wordAt S k) hin (wordAt_lt S k))
      have NW : Hid ((s.wr at_ S k).store (at_ + k) (wordAt S k) = s.wr at_ S (k + 1)) := Lib.hid rfl
      rw [NW.out] at ST
      generalize wordAt S k = x at *
      have HL := Lib.hid hlt
      clear row5 m5 ho eq hD WD hq hDs hlt
      go_wp2_with (fail)
      refine PK.out.mono ?_
      rintro e w6 ⟨rfl, b6⟩
      have S6 := Lib.hid (ST.out w6 b6)
      have B6 := Lib.hid b6
      clear b6 c0 c1 c2 c3 cp
      go_wp2_with (fail)
      refine S6.out.mono ?_
      rintro e w7 ⟨rfl, m7, k7⟩
      have M7 := Lib.hid m7; have K7 := Lib.hid k7
      clear m7 k7
      go_wp2_with (fail)
      have hlt' := HL.out
      refine ⟨⟨k + 1, by omega, by go_num, by rw [← CN.out], ⟨M7.out, K5.out.trans ((MK.below B6.out).trans K7.out)⟩⟩, by simp [intOf]; omega⟩
    · have t1 : (D.toList == []) = true := by rw [toList_emp]; exact decide_eq_true (by omega)
      have t2 : (D.toList != []) = false := by rw [bne, t1]; rfl
      have ek : k = (S.size + 3) / 4 := by omega
      clear hD
      go_wp2_with (fail)
      go_ret
      exact ⟨rfl, by rw [← ek]; exact HW.out.me, HW.out.kp⟩
end Go.Proofs.YtdebfniifijjoaaDoor
/-
  Plain lemmas of this seat on rows of structs: how a row's cells are read and set, and how a list of structs lies in it. Conditions: none.
-/
namespace Go.Proofs.YtdebfniifijjoaaDoor.Kit
open Go.RowKit
set_option linter.unusedVariables false
def mn (x y : Int) : Int := min x y
def mx (x y : Int) : Int := max x y
theorem run_max_mx (P : Program) (w : World) (ts : Array TypeId) (t : TypeId) (k k' : IntKind) (x y : Int) : (Builtin.max_ ts t #[.int k x, .int k' y]).run P w = .ok (.int k (mx x y)) w := by
  simp [Builtin.max_, Builtin.max2, mx]; omega
theorem run_min_mn (P : Program) (w : World) (ts : Array TypeId) (t : TypeId) (k k' : IntKind) (x y : Int) : (Builtin.min_ ts t #[.int k x, .int k' y]).run P w = .ok (.int k (mn x y)) w := by
  simp [Builtin.min_, Builtin.min2, mn]; omega
theorem wf64 {a : Int} (h : (Lit.int .i64 a).wf = true) : -9223372036854775808 ≤ a ∧ a ≤ 9223372036854775807 := by
  simpa [Lit.wf, IntKind.min, IntKind.max, IntKind.signed, IntKind.bits] using h
theorem wf8 {a : Int} (h : (Lit.int .u8 a).wf = true) : 0 ≤ a ∧ a ≤ 255 := by
  simpa [Lit.wf, IntKind.min, IntKind.max, IntKind.signed, IntKind.bits] using h
theorem wfu64 {a : Int} (h : (Lit.int .u64 a).wf = true) : 0 ≤ a ∧ a ≤ 18446744073709551615 := by
  simpa [Lit.wf, IntKind.min, IntKind.max, IntKind.signed, IntKind.bits] using h
theorem toList_ne {a b : ByteArray} (h : ¬ a = b) : (a.toList == b.toList) = false := by
  rw [beq_eq_false_iff_ne, ByteArray.toList_eq, ByteArray.toList_eq]
  exact fun e => h (Go.WideShapes.bytes_inj e)

/-! ### Lists of structs as cells -/
section
variable {α : Type} {c : α → List Value} {m : Nat}
theorem flat_len (hc : ∀ a, (c a).length = m) (L : List α) : (L.flatMap c).length = L.length * m := by
  induction L with
  | nil => simp
  | cons a L ih => simp [List.flatMap_cons, ih, hc, Nat.add_mul, Nat.add_comm]
theorem flat_get (hc : ∀ a, (c a).length = m) : ∀ (L : List α) (i k : Nat) (a : α), L[i]? = some a → k < m → (L.flatMap c)[i * m + k]? = (c a)[k]?
  | [], i, k, a, h, _ => by simp at h
  | b :: L, 0, k, a, h, hk => by
    simp at h; subst h
    rw [List.flatMap_cons, Nat.zero_mul, Nat.zero_add, List.getElem?_append_left (by rw [hc]; exact hk)]
  | b :: L, i + 1, k, a, h, hk => by
    rw [List.flatMap_cons, List.getElem?_append_right (by rw [hc, Nat.add_mul]; omega), hc, show (i + 1) * m + k - m = i * m + k by rw [Nat.add_mul]; omega]
    exact flat_get hc L i k a (by simpa using h) hk
theorem flat_set (hc : ∀ a, (c a).length = m) : ∀ (L : List α) (i k : Nat) (a a' : α) (u : Value), L[i]? = some a → k < m → (c a).set k u = c a' → (L.flatMap c).set (i * m + k) u = (L.set i a').flatMap c
  | [], i, k, a, a', u, h, _, _ => by simp at h
  | b :: L, 0, k, a, a', u, h, hk, e => by
    simp at h; subst h
    rw [List.flatMap_cons, Nat.zero_mul, Nat.zero_add, List.set_append_left _ _ (by rw [hc]; exact hk), e]
    simp
  | b :: L, i + 1, k, a, a', u, h, hk, e => by
    rw [List.flatMap_cons, List.set_append_right _ _ (by rw [hc, Nat.add_mul]; omega), hc, show (i + 1) * m + k - m = i * m + k by rw [Nat.add_mul]; omega,
      flat_set hc L i k a a' u (by simpa using h) hk e]
    simp
end

/-! ### Rows that are owned -/
section
variable {w w' : World} {base : Nat} {e : TypeId} {size : Nat} {v : Value} {n : Nat} {xs : List Value}
theorem own_block {g cap : Nat} (h : w.ownsRow base e size (.slice (some ⟨g, 0, none⟩) n cap) n xs) : ∃ cur, w.heap[g]? = some (.cells cur e (0, 0)) ∧ base ≤ g ∧ n ≤ cap ∧ cap ≤ maxLen ∧ cur.size = cap * size ∧ cur.toList.take (n * size) = xs := by
  rcases h.2 with ⟨h', _⟩ | ⟨g', cap', cur, h', h1, hg, h2, h3, hs, ht⟩
  · simp at h'
  · simp only [Value.slice.injEq, Option.some.injEq, Addr.mk.injEq, and_true, true_and] at h'
    obtain ⟨rfl, rfl⟩ := h'
    exact ⟨cur, hg, h1, h2, h3, hs, ht⟩
theorem own_free {g cap : Nat} (h : w.ownsRow base e size (.slice (some ⟨g, 0, none⟩) n cap) n xs) (j : Nat) : w.frozen? ⟨g, j, none⟩ = false := by
  obtain ⟨cur, hg, _⟩ := own_block h
  exact free_of hg
theorem own_lt {g cap : Nat} (h : w.ownsRow base e size (.slice (some ⟨g, 0, none⟩) n cap) n xs) : base ≤ g ∧ g < w.heap.size := by
  obtain ⟨cur, hg, h1, _⟩ := own_block h
  exact ⟨h1, lt_of_obj hg⟩
theorem own_cell {g cap : Nat} (h : w.ownsRow base e size (.slice (some ⟨g, 0, none⟩) n cap) n xs) {j : Nat} {u : Value} (hu : xs[j]? = some u) : w.cell? ⟨g, j, none⟩ = some u := by
  have hj : j < n * size := by
    have := h.1
    rcases Nat.lt_or_ge j xs.length with h' | h'
    · omega
    · rw [List.getElem?_eq_none h'] at hu; cases hu
  rw [h.cellAt j hj, hu]
theorem own_set {g cap : Nat} (h : w.ownsRow base e size (.slice (some ⟨g, 0, none⟩) n cap) n xs) {j : Nat} (hj : j < n * size) (u : Value) :
    (w.setCell ⟨g, j, none⟩ u).ownsRow base e size (.slice (some ⟨g, 0, none⟩) n cap) n (xs.set j u) := by
  obtain ⟨cur, hg, h1, h2, h3, hs, ht⟩ := own_block h
  refine ⟨by rw [List.length_set, h.1], .inr ⟨g, cap, cur.setIfInBounds j u, rfl, h1, hp_set hg u, h2, h3, by rw [Array.size_setIfInBounds, hs], ?_⟩⟩
  rw [Array.toList_setIfInBounds, ← ht]
  apply List.ext_getElem?
  intro i
  simp only [List.getElem?_take, List.getElem?_set, List.length_take]
  by_cases h1 : i < n * size
  · by_cases h2 : j = i
    · have e0 : (i < min (n * size) cur.size) = (i < cur.size) := propext (by omega)
      simp only [h1, h2, if_true, Array.length_toList, e0]
    · simp [h1, h2]
  · have h2 : j ≠ i := by omega
    simp [h1, h2]
theorem own_mod {S : Nat → Prop} (h : w.ownsRow base e size v n xs) (hm : Mod S w w') (hs : ∀ k, v.ownBlock = some k → ¬ S k) : w'.ownsRow base e size v n xs := by
  refine ⟨h.1, ?_⟩
  rcases h.2 with hn | ⟨g, cap, cur, rfl, hb, hg, rest⟩
  · exact .inl hn
  · exact .inr ⟨g, cap, cur, rfl, hb, hm.keeps hg (hs g rfl), rest⟩
theorem own_below {B : Nat} (h : w.ownsRow base e size v n xs) (hm : Below B w w') (hs : ∀ k, v.ownBlock = some k → k < B) : w'.ownsRow base e size v n xs := by
  refine ⟨h.1, ?_⟩
  rcases h.2 with hn | ⟨g, cap, cur, rfl, hb, hg, rest⟩
  · exact .inl hn
  · exact .inr ⟨g, cap, cur, rfl, hb, by rw [hm.block g (hs g rfl)]; exact hg, rest⟩
theorem own_calm (h : w.ownsRow base e size v n xs) (hm : Below w.heap.size w w') : w'.ownsRow base e size v n xs := own_below h hm (fun k hk => (h.lt k hk).2)
theorem own_drewN (h : w.ownsRow base e size v n xs) (q : Nat) : (w.drewN q).ownsRow base e size v n xs := own_calm h (below_drewN (Below.refl _ _) q)
theorem own_rebase {base' : Nat} (h : w.ownsRow base e size v n xs) (hb : base' ≤ base) : w.ownsRow base' e size v n xs := by
  refine ⟨h.1, ?_⟩
  rcases h.2 with hn | ⟨g, cap, cur, rfl, h1, rest⟩
  · exact .inl hn
  · exact .inr ⟨g, cap, cur, rfl, by omega, rest⟩
theorem own_ne_obj {k : Nat} {cs : Array Value} {t : TypeId} {fr : Nat × Nat} (h : w.ownsRow base e size v n xs) (hk : w.heap[k]? = some (.cells cs t fr)) (ht : t ≠ e) : v.ownBlock ≠ some k := by
  rcases h.2 with ⟨rfl, _⟩ | ⟨g, cap, cur, rfl, _, hg, _⟩
  · simp [Value.ownBlock]
  · intro e0
    obtain rfl : g = k := by simpa [Value.ownBlock] using e0
    have := hk.symm.trans hg
    simp at this
    exact ht this.2.1
theorem own_apart {base' e' size' n' : Nat} {v' : Value} {xs' : List Value} (h : w.ownsRow base e size v n xs) (h' : w.ownsRow base' e' size' v' n' xs') (hne : e ≠ e') : v.ownBlock = none ∨ v.ownBlock ≠ v'.ownBlock := by
  rcases h'.2 with ⟨rfl, _⟩ | ⟨g, cap, cur, rfl, _, hg, _⟩
  · rcases h.2 with ⟨rfl, _⟩ | ⟨g, cap, cur, rfl, _, hg, _⟩
    · left; rfl
    · right; simp [Value.ownBlock]
  · right; exact own_ne_obj h hg (Ne.symm hne)
theorem own_nil_len (h : w.ownsRow base e size (.slice none 0 0) n xs) : n = 0 := by
  rcases h.2 with ⟨_, h⟩ | ⟨g, cap, cur, h', _⟩
  · exact h
  · simp at h'
end
theorem cells_new (w : World) (l : List Value) (t : TypeId) : ∀ j u, l[j]? = some u → (w.alloc (.cells l.toArray t)).cell? ((⟨w.heap.size, 0, none⟩ : Addr).add j) = some u := by
  intro j u h
  have hp : (⟨w.heap.size, 0, none⟩ : Addr).add j = ⟨w.heap.size, 0 + j, none⟩ := by unfold Addr.add; split <;> simp_all
  rw [hp]
  exact cell_of (hp_new w _) (by simpa using h)
theorem mod_of_grown {v : Value} {w w' : World} (h : w.grownBy w' v.ownBlock) : Mod (fun k => v.ownBlock = some k) w w' :=
  ⟨h.os, h.tape, h.output, h.size, fun k hk hs => h.block k hk (fun e => hs e.symm)⟩
end Go.Proofs.YtdebfniifijjoaaDoor.Kit
/-
  The walk of a memory's ReadBytes. Conditions: bytes that stand in the memory.
-/
namespace Go.Proofs.YtdebfniifijjoaaDoor
open Go.RowKit Kit Go.Shelf
set_option linter.unusedVariables false
theorem rd_v (s : MS) (i : Nat) : (s.rd i).v = s.v := by
  unfold MS.rd
  split
  · rfl
  · unfold MS.store
    split
    · rfl
    · funext j
      show (if j = i then s.v i else s.v j) = s.v j
      split
      · rename_i e; rw [e]
      · rfl
/-- The first k words are read. -/
def MS.rds (s : MS) (a : Nat) : Nat → MS
  | 0 => s
  | k + 1 => (s.rds a k).rd (a + k)
theorem rds_v (s : MS) (a : Nat) : ∀ k, (s.rds a k).v = s.v
  | 0 => rfl
  | k + 1 => by simp only [MS.rds]; rw [rd_v, rds_v s a k]
/-- The bytes of the words. -/
def rB (s : MS) (a j : Nat) : Nat := s.v (a + j / 4) / 256 ^ (3 - j % 4) % 256
theorem rB_lt (s : MS) (a j : Nat) : rB s a j < 256 := Nat.mod_lt _ (by omega)
def rL (s : MS) (a n : Nat) : List Value := (List.range n).map fun j => Value.int .u8 (rB s a j)
theorem rL_next (s : MS) (a k : Nat) : rL s a (4 * k + 4) = rL s a (4 * k) ++ [.int .u8 ((s.v (a + k) / 16777216 % 256 : Nat) : Int), .int .u8 ((s.v (a + k) / 65536 % 256 : Nat) : Int), .int .u8 ((s.v (a + k) / 256 % 256 : Nat) : Int), .int .u8 ((s.v (a + k) % 256 : Nat) : Int)] := by
  have h : ∀ i, i < 4 → rB s a (4 * k + i) = s.v (a + k) / 256 ^ (3 - i) % 256 := fun i hi => by
    unfold rB; rw [show (4 * k + i) / 4 = k by omega, show (4 * k + i) % 4 = i by omega]
  have h0 := h 0 (by omega); have h1 := h 1 (by omega); have h2 := h 2 (by omega); have h3 := h 3 (by omega)
  rw [Nat.add_zero] at h0
  simp only [rL, show 4 * k + 4 = 4 * k + 1 + 1 + 1 + 1 by omega, List.range_succ, List.map_append, List.map_cons, List.map_nil, List.append_assoc, List.cons_append, List.nil_append]
  rw [h0, show 4 * k + 1 + 1 = 4 * k + 2 by omega, show 4 * k + 2 + 1 = 4 * k + 3 by omega, h1, h2, h3]
  simp
/-- The bytes that are read. -/
def rS (s : MS) (a n : Nat) : ByteArray := strOfNums ((List.range n).map fun j => ((rB s a j : Nat) : Int))
/-- In the loop. -/
structure RL (w : World) (bm bw n safe : Nat) (s : MS) (a k : Nat) (v : Value) (wr : World) : Prop where
  me : ME wr bm bw n safe (s.rds a k)
  kp : MK bm bw w wr
  own : wr.ownsRow w.heap.size 5 1 v (4 * k) (rL s a (4 * k))
def RdbQ (bm bw n safe : Nat) (s : MS) (S : ByteArray) (w : World) (e : Ending) (w' : World) : Prop := e = .returned (.tuple #[.string S, .int .i64 0]) ∧ ME w' bm bw n safe s ∧ MK bm bw w w'
theorem ME.modS {w w' : World} {bm bw n safe : Nat} {s : MS} {S : Nat → Prop} (h : ME w bm bw n safe s) (hm : Mod S w w') (h1 : ¬ S bm) (h2 : ¬ S bw) : ME w' bm bw n safe s := by
  obtain ⟨fx, st, ho⟩ := h.obj
  exact ⟨⟨fx, st, hm.keeps ho h1⟩, hm.keeps h.words h2, h.ok, h.ne, h.pos, h.size⟩
theorem RL.next {w wr w5 w6 : World} {bm bw n safe : Nat} {s : MS} {a k : Nat} {v v6 : Value} {o : Obj} {x0 x1 x2 x3 : Value} (h : RL w bm bw n safe s a k v wr) (hb1 : bm < w.heap.size) (hb2 : bw < w.heap.size)
    (m5 : ME w5 bm bw n safe (s.rds a (k + 1))) (k5 : MK bm bw wr w5) (hg : (w5.alloc o).grownBy w6 v.ownBlock) (ho : w6.ownsRow w.heap.size 5 1 v6 (4 * k + 4) (rL s a (4 * k) ++ [x0, x1, x2, x3]))
    (hl : rL s a (4 * k + 4) = rL s a (4 * k) ++ [x0, x1, x2, x3]) : RL w bm bw n safe s a (k + 1) v6 w6 := by
  have hS : ∀ j, v.ownBlock = some j → w.heap.size ≤ j := fun j hj => (h.own.lt j hj).1
  have hm := mod_of_grown hg
  refine ⟨(m5.below (bl_alloc (Below.refl _ _) o)).modS hm (fun e => by have := hS _ e; omega) (fun e => by have := hS _ e; omega), Mod.trans (h.kp.trans (k5.trans (MK.below (bl_alloc (Below.refl _ _) o)))) hm (fun j hj e => by have := hS _ e; omega), ?_⟩
  rw [show 4 * (k + 1) = 4 * k + 4 by omega, hl]
  exact ho
theorem own_cut {wr : World} {base N m : Nat} {ad : Option Addr} {cap : Nat} {s : MS} {a : Nat} (h : wr.ownsRow base 5 1 (.slice ad N cap) N (rL s a N)) (hm : m ≤ N) : (convert 137 9 (.slice ad m cap)).run Tryd.prog wr = .ok (.string (rS s a m)) wr := by
  rcases h.2 with ⟨h1, h0⟩ | ⟨g, cap', cur, h1, _⟩
  · have h2 : m = 0 := by omega
    subst h2
    simp only [Value.slice.injEq] at h1
    rw [h1.1]
    have := run_convert_bytes_nil (P := Tryd.prog) (w := wr) 137 5 Tryd.underlying137 Tryd.underlying5 0 cap 9 Tryd.underlying9
    exact this
  · simp only [Value.slice.injEq] at h1
    obtain ⟨rfl, _, rfl⟩ := h1
    exact run_convert_bytes_arg wr 137 5 Tryd.underlying137 Tryd.underlying5 g 0 m cap ((List.range m).map fun j => ((rB s a j : Nat) : Int)) (by simp) (fun i hi => by
      rw [Nat.zero_add, own_cell h (by unfold rL; rw [List.getElem?_map, List.getElem?_range (by omega)]; rfl)]
      simp [List.getD_eq_getElem?_getD, hi]) 9 Tryd.underlying9
theorem byte_wrap (x d : Nat) : IntKind.u8.wrap (((x / d : Nat) : Int)) = ((x / d % 256 : Nat) : Int) := by rw [wrap_u8]; omega
set_option maxRecDepth 100000 in
set_option maxHeartbeats 3200000 in
theorem rdb_any {w : World} {bm bw n safe : Nat} {s : MS} (h : ME w bm bw n safe s) (hT : Tab w) (a m : Nat) (hl : m ≤ 4 * (n - a)) (hi : a ≤ n) :
    Calls Tryd.prog 68 #[.pointer (some ⟨bm, 0, none⟩), .int .i64 a, .int .i64 m] w fun e w' => RdbQ bm bw n safe (s.rds a ((m + 3) / 4)) (rS s a m) w e w' := by
  have RO := Lib.hid (room_any h a m hl hi)
  obtain ⟨fx, st, ho⟩ := h.obj
  have hb1 : bm < w.heap.size := lt_of_obj ho
  have hb2 : bw < w.heap.size := lt_of_obj h.words
  have H0 : Hid (RL w bm bw n safe s a 0 (.slice none 0 0) w) := Lib.hid ⟨h, MK.refl _ _ _, World.ownsRow_nil _ _ _ _⟩
  have HT := Lib.hid hT
  have POS := Lib.hid h.pos
  have OK := Lib.hid h.ok
  have hn := h.size
  obtain ⟨i0, hi0, hz0, hz1, hz2⟩ := info_parts inf5
  clear h hT ho
  go_enter Tryd.func68, Tryd.ntmps68
  go_wp2_with (fail)
  refine RO.out.mono ?_
  rintro e _ ⟨rfl, rfl⟩
  go_wp2_with (fail)
  go_loopw [1, 9] (fun i v wr => ∃ k : Nat, 4 * k ≤ m + 3 ∧ i = .int .i64 ((a + k : Nat) : Int) ∧ RL w bm bw n safe s a k v wr) (fun i _ _ => a + m + 3 - (intOf i).toNat)
  case atStart => exact ⟨0, by omega, rfl, H0.out⟩
  case round =>
    clear H0
    obtain ⟨k, hk, rfl, hR⟩ := hrel
    have HR := Lib.hid hR
    have hv : ∃ ad cap, u9 = .slice ad (4 * k) cap := by
      rcases hR.own.2 with ⟨h1, h0⟩ | ⟨g, cap, cur, h1, _⟩
      · exact ⟨none, 0, by rw [h1, h0]⟩
      · exact ⟨_, cap, h1⟩
    obtain ⟨ad, cap, rfl⟩ := hv
    clear hR
    by_cases hlt : 4 * k < m
    · have dm : decide (((4 * k : Nat) : Int) < (m : Int)) = true := by simp; omega
      have dm' : decide (4 * k < m) = true := by simp; omega
      have dm'' : decide (4 * (k : Int) < (m : Int)) = true := by simp; omega
      have hin : a + k < n := by omega
      have RD := Lib.hid (read_any HR.out.me (HT.out.mk POS.out HR.out.kp) (a + k) hin)
      rw [rds_v] at RD
      have hk1 : (s.rds a k).kind (a + k) ≤ 1 := by unfold MS.kind; split <;> omega
      generalize (s.rds a k).kind (a + k) = kd at *
      have d2 : ((kd : Int) == 2) = false := by simp; omega
      have d2' : (kd == 2) = false := by simp; omega
      have hx := OK.out.v (a + k)
      have LN := Lib.hid (rL_next s a k)
      generalize s.v (a + k) = x at *
      have NW : Hid ((s.rds a k).rd (a + k) = s.rds a (k + 1)) := Lib.hid rfl
      rw [NW.out] at RD
      have W1 : IntKind.u8.wrap ((x : Int) / 16777216) = ((x / 16777216 % 256 : Nat) : Int) := by rw [wrap_u8]; omega
      have W2 : IntKind.u8.wrap ((x : Int) / 65536) = ((x / 65536 % 256 : Nat) : Int) := by rw [wrap_u8]; omega
      have W3 : IntKind.u8.wrap ((x : Int) / 256) = ((x / 256 % 256 : Nat) : Int) := by rw [wrap_u8]; omega
      have W4 : IntKind.u8.wrap (x : Int) = ((x % 256 : Nat) : Int) := by rw [wrap_u8]; omega
      have HL := Lib.hid hlt
      clear hlt hk1
      go_wp2_with (fail)
      refine RD.out.mono ?_
      rintro e w5 ⟨rfl, m5, k5⟩
      have M5 := Lib.hid m5; have K5 := Lib.hid k5
      have OW := Lib.hid (own_mod HR.out.own k5 (fun j hj hb => by
        have := (HR.out.own.lt j hj).1
        omega))
      have hws : w.heap.size ≤ w5.heap.size := Nat.le_trans HR.out.kp.size k5.size
      clear m5 k5 RD
      go_wp2_with (at_builtin; refine wpList_append_own _ rfl _ _ 137 rfl w.heap.size 5 i0 _ 1 1 Tryd.underlying137 hi0 hz0 hz1 hz2 rfl (by decide) _ (4 * k) _ rfl (OW.out.alloc _) ⟨w5.heap.size, 0, none⟩ 4 4 [_, _, _, _] rfl rfl (cells_new w5 [_, _, _, _] 5) (by simp [Value.oneCell']) (by unfold maxLen; omega) (by omega) (by simp; omega) ?_; intro v6 w6 hown6 hg6 _; have OWN6 := Lib.hid hown6; have GR6 := Lib.hid hg6; clear hown6 hg6)
      have hlt' := HL.out
      exact ⟨⟨k + 1, by omega, by go_num, HR.out.next hb1 hb2 M5.out K5.out GR6.out OWN6.out LN.out⟩, by simp [intOf]; omega⟩
    · have dm : decide (((4 * k : Nat) : Int) < (m : Int)) = false := by simp; omega
      have dm' : decide (4 * k < m) = false := by simp; omega
      have dm'' : decide (4 * (k : Int) < (m : Int)) = false := by simp; omega
      have ek : k = (m + 3) / 4 := by omega
      have hmk : m ≤ 4 * k := by omega
      have cv := own_cut HR.out.own hmk
      have ec := Lib.hid ek
      have hcap : (4 * k : Nat) ≤ cap ∨ (ad = none ∧ k = 0) := by
        rcases HR.out.own.2 with ⟨h1, h0⟩ | ⟨g, cap', cur, h1, _, _, h3, _⟩
        · right; simp only [Value.slice.injEq] at h1; exact ⟨h1.1, by omega⟩
        · left; simp only [Value.slice.injEq] at h1; omega
      go_wp2_with (fail)
      go_ret2
      exact ⟨rfl, by rw [← ec.out]; exact HR.out.me, HR.out.kp⟩
end Go.Proofs.YtdebfniifijjoaaDoor
/-
  A store of patches as it lies; the walks of patches' Words, New, none and at. Conditions: sizes from 4 to 8192.
-/
namespace Go.Proofs.YtdebfniifijjoaaDoor
open Go.RowKit Kit Go.Shelf
set_option linter.unusedVariables false
/-- The words of a bank. -/
def half (z : Nat) : Nat := 5 + (z + 3) / 4
set_option maxHeartbeats 400000 in
theorem words_any (z : Nat) (h1 : 4 ≤ z) (h2 : z ≤ 8192) (w : World) : Calls Tryd.prog 7 #[.int .i64 z] w fun e w' => e = .returned (.int .i64 ((2 * half z : Nat) : Int)) ∧ w = w' := by
  have d1 : decide ((z : Int) < 4) = false := by simp; omega
  have d2 : decide ((8192 : Int) < (z : Int)) = false := by simp; omega
  obtain ⟨q, hq⟩ : ∃ q, q = (z + 3) / 4 := ⟨_, rfl⟩
  have e1 : ((z : Int) + 3).tdiv 4 = (q : Int) := by rw [Int.tdiv_eq_ediv_of_nonneg (by omega)]; omega
  have e2 : ((z : Int) + 3) / 4 = (q : Int) := by omega
  have hq2 : q ≤ 3000 := by omega
  have W1 : IntKind.i64.wrap (q : Int) = (q : Int) := IntWalk.i64_in _ (by omega)
  have HH : Hid (2 * half z = 2 * (5 + q)) := Lib.hid (by unfold half; rw [hq])
  clear hq
  go_enter Tryd.func7, Tryd.ntmps7
  go_wp2_with (fail)
  go_ret
  exact ⟨ret_int (by rw [HH.out]; omega), rfl⟩
/-- A store as it lies. -/
def ST (w : World) (bs bm base size : Nat) (nx : Value) : Prop := w.heap[bs]? = some (.cells #[.pointer (some ⟨bm, 0, none⟩), .int .i64 base, .int .i64 size, nx] 85)
theorem ST.below {w w' : World} {bs bm base size : Nat} {nx : Value} (h : ST w bs bm base size nx) (hb : Below w.heap.size w w') : ST w' bs bm base size nx := below_keeps hb h (lt_of_obj h)
theorem ST.mk' {w w' : World} {bs bm base size b1 b2 : Nat} {nx : Value} (h : ST w bs bm base size nx) (hm : MK b1 b2 w w') (h1 : bs ≠ b1) (h2 : bs ≠ b2) : ST w' bs bm base size nx := hm.keeps h (fun e => by omega)
set_option maxHeartbeats 400000 in
theorem none_any {w : World} {bs bm base size : Nat} {nx : Value} (h : ST w bs bm base size nx) : Calls Tryd.prog 41 #[.pointer (some ⟨bs, 0, none⟩)] w fun e w' => e = .returned (.bool false) ∧ w = w' := by
  have c0 : w.cell? ⟨bs, 0, none⟩ = some (.pointer (some ⟨bm, 0, none⟩)) := cell_of h rfl
  clear h
  go_enter Tryd.func41, Tryd.ntmps41
  go_wp2_with (fail)
  go_ret
  exact ⟨rfl, rfl⟩
set_option maxRecDepth 100000 in
set_option maxHeartbeats 800000 in
theorem at_any {w : World} {bs bm base size : Nat} {nx : Value} (h : ST w bs bm base size nx) (hb : base ≤ 10000) (h1 : 4 ≤ size) (h2 : size ≤ 8192) (k : Nat) (hk : k < 2) :
    Calls Tryd.prog 57 #[.pointer (some ⟨bs, 0, none⟩), .int .i64 k] w fun e w' => e = .returned (.int .i64 ((base + k * half size : Nat) : Int)) ∧ ∃ x, w' = ext w x := by
  have c1 : w.cell? ⟨bs, 1, none⟩ = some (.int .i64 base) := cell_of h rfl
  have c2 : w.cell? ⟨bs, 2, none⟩ = some (.int .i64 size) := cell_of h rfl
  have hbs : bs < w.heap.size := lt_of_obj h
  have WO := Lib.hid (fun w => words_any size h1 h2 w)
  have hh : half size ≤ 3000 := by unfold half; omega
  generalize half size = f at *
  have e1 : IntKind.i64.wrap ((k : Int) * (2 * (f : Int))) = ((k * (2 * f) : Nat) : Int) := by
    have : k * (2 * f) ≤ 6000 := by rcases (by omega : k = 0 ∨ k = 1) with rfl | rfl <;> omega
    rw [show (k : Int) * (2 * (f : Int)) = ((k * (2 * f) : Nat) : Int) by simp]
    exact IntWalk.i64_in _ (by omega)
  have e2 : ((k * (2 * f) : Nat) : Int).tdiv 2 = ((k * f : Nat) : Int) := by
    rcases (by omega : k = 0 ∨ k = 1) with rfl | rfl
    · simp
    · rw [Int.tdiv_eq_ediv_of_nonneg (by omega)]; omega
  have e3 : ((k * (2 * f) : Nat) : Int) / 2 = ((k * f : Nat) : Int) := by
    rcases (by omega : k = 0 ∨ k = 1) with rfl | rfl
    · simp
    · omega
  have hkf : k * f ≤ 3000 := by rcases (by omega : k = 0 ∨ k = 1) with rfl | rfl <;> omega
  generalize k * f = y at *
  generalize k * (2 * f) = x at *
  have e4 : IntKind.i64.wrap (y : Int) = (y : Int) := IntWalk.i64_in _ (by omega)
  have e5 : IntKind.i64.wrap ((base : Int) + (y : Int)) = (base : Int) + (y : Int) := IntWalk.i64_in _ (by omega)
  clear h
  go_enter Tryd.func57, Tryd.ntmps57
  go_wp2_with (fail)
  refine region_calm (by kernel_rfl) (by kernel_rfl) ?_
  repeat (quiet_step ((go_at_call 7; exact calm_same (WO.out _))))
  refine wpQuiet_nil ?_; intro _ hw'; obtain ⟨xq, hw''⟩ := hw'; subst hw''
  go_wp2_with (fail)
  go_ret
  exact ⟨ret_int (by omega), xq, rfl⟩
def PNewQ (bm base size : Nat) (w : World) (e : Ending) (w' : World) : Prop := ∃ bs, w.heap.size ≤ bs ∧ e = .returned (.tuple #[.pointer (some ⟨bs, 0, none⟩), .int .i64 0]) ∧ ST w' bs bm base size (.pointer none) ∧ Below w.heap.size w w'
set_option maxHeartbeats 800000 in
theorem pnew_any {w : World} {bm bw n safe : Nat} {s : MS} (h : ME w bm bw n safe s) (base size : Nat) (hn : 0 < n) (h1 : 4 ≤ size) (h2 : size ≤ 8192) (hb : base + 2 * half size ≤ safe) (hs : safe ≤ 16384) :
    Calls Tryd.prog 19 #[.pointer (some ⟨bm, 0, none⟩), .int .i64 base, .int .i64 size] w fun e w' => PNewQ bm base size w e w' := by
  have SZ := Lib.hid (size_any h)
  have WO := Lib.hid (fun w => words_any size h1 h2 w)
  have hh : 5 ≤ half size := by unfold half; omega
  have hN := h.size
  generalize half size = f at *
  have d1 : ((n : Int) == 0) = false := by simp; omega
  have d1' : (n == 0) = false := by simp; omega
  have d2 : ((2 * (f : Int)) == 0) = false := by simp; omega
  have d3 : decide ((safe : Int) - 2 * (f : Int) < (base : Int)) = false := by simp; omega
  clear h
  go_enter Tryd.func19, Tryd.ntmps19
  go_wp2_with (fail)
  refine SZ.out.mono ?_
  rintro e w1 ⟨rfl, q, rfl⟩
  go_wp2_with (fail)
  refine (WO.out _).mono ?_
  rintro e _ ⟨rfl, rfl⟩
  go_wp2_with (fail)
  refine (WO.out _).mono ?_
  rintro e _ ⟨rfl, rfl⟩
  go_wp2_with (fail)
  go_ret2
  exact ⟨w.heap.size, Nat.le_refl _, rfl, hp_drewN (hp_new w (.cells #[.pointer (some ⟨bm, 0, none⟩), .int .i64 base, .int .i64 size, .pointer none] 85)) q, below_drewN (bl_alloc (Below.refl _ _) (.cells #[.pointer (some ⟨bm, 0, none⟩), .int .i64 base, .int .i64 size, .pointer none] 85)) q⟩
end Go.Proofs.YtdebfniifijjoaaDoor
/-
  The walk of a header's seal. Conditions: words below 2^32.
-/
namespace Go.Proofs.YtdebfniifijjoaaDoor
open Go.RowKit Kit Go.Shelf
set_option linter.unusedVariables false
def msF (f : Nat → Nat) : MS := ⟨f, fun _ => none, 0, -1, false, 0⟩
theorem rL_nextF (f : Nat → Nat) (k : Nat) : rL (msF f) 0 (4 * k + 4) = rL (msF f) 0 (4 * k) ++ [.int .u8 ((f k / 16777216 % 256 : Nat) : Int), .int .u8 ((f k / 65536 % 256 : Nat) : Int), .int .u8 ((f k / 256 % 256 : Nat) : Int), .int .u8 ((f k % 256 : Nat) : Int)] := by
  have := rL_next (msF f) 0 k
  rw [show (msF f).v (0 + k) = f k by rw [Nat.zero_add]; rfl] at this
  exact this
/-- The sum of a header's first four words. -/
def sealS (f : Nat → Nat) : Nat := crc (rS (msF f) 0 16)
def hdV (a b c d e : Nat) : Value := .agg #[.int .u32 a, .int .u32 b, .int .u32 c, .int .u32 d, .int .u32 e]
theorem rS_size (s : MS) (a n : Nat) : (rS s a n).size = n := by unfold rS; rw [strOfNums_size]; simp
theorem zero100 (w : World) : Sem.run Tryd.prog (zeroValue 100) w = .ok (.agg #[.int .u32 0, .int .u32 0, .int .u32 0, .int .u32 0, .int .u32 0]) w := by kernel_rfl
structure SEL (w : World) (f : Nat → Nat) (k : Nat) (v : Value) (wr : World) : Prop where
  b1 : wr.heap[w.heap.size]? = some (.cells #[.int .u32 (f 0), .int .u32 (f 1), .int .u32 (f 2), .int .u32 (f 3), .int .u32 (f 4)] 100)
  b2 : wr.heap[w.heap.size + 1]? = some (.cells #[.int .u32 0, .int .u32 0, .int .u32 0, .int .u32 0, .int .u32 0] 100)
  own : wr.ownsRow w.heap.size 5 1 v (4 * k) (rL (msF f) 0 (4 * k))
  below : Below w.heap.size w wr
theorem SEL.next {w wr w6 : World} {f : Nat → Nat} {k : Nat} {v v6 : Value} {o : Obj} {x0 x1 x2 x3 : Value} (h : SEL w f k v wr) (hg : (wr.alloc o).grownBy w6 v.ownBlock) (ho : w6.ownsRow w.heap.size 5 1 v6 (4 * k + 4) (rL (msF f) 0 (4 * k) ++ [x0, x1, x2, x3]))
    (hl : rL (msF f) 0 (4 * k + 4) = rL (msF f) 0 (4 * k) ++ [x0, x1, x2, x3]) : SEL w f (k + 1) v6 w6 := by
  have hm := mod_of_grown hg
  have n1 := own_ne_obj h.own h.b1 (by decide)
  have n2 := own_ne_obj h.own h.b2 (by decide)
  refine ⟨hm.keeps (hp_old h.b1 o) n1, hm.keeps (hp_old h.b2 o) n2, ?_, (bl_alloc h.below o).grown hg (by have := h.below.size; simp; omega) (fun j e => (h.own.lt j e).1)⟩
  rw [show 4 * (k + 1) = 4 * k + 4 by omega, hl]
  exact ho
set_option maxRecDepth 100000 in
set_option maxHeartbeats 3200000 in
theorem seal_any (f : Nat → Nat) (hf : ∀ i, f i < 4294967296) (w : World) : Calls Tryd.prog 69 #[hdV (f 0) (f 1) (f 2) (f 3) (f 4)] w fun e w' => e = .returned (hdV (f 0) (f 1) (f 2) (f 3) (sealS f)) ∧ Below w.heap.size w w' := by
  have CR := Lib.hid (fun w => crc_any (rS (msF f) 0 16) (by rw [rS_size]; omega) w)
  have SS : Hid (sealS f = crc (rS (msF f) 0 16)) := Lib.hid rfl
  rw [← SS.out] at CR
  have H0 : Hid (SEL w f 0 (.slice none 0 0) ((w.alloc (.cells #[.int .u32 (f 0), .int .u32 (f 1), .int .u32 (f 2), .int .u32 (f 3), .int .u32 (f 4)] 100)).alloc (.cells #[.int .u32 0, .int .u32 0, .int .u32 0, .int .u32 0, .int .u32 0] 100))) := Lib.hid ⟨hp_old (hp_new _ _) _, by have := hp_new (w.alloc (.cells #[.int .u32 (f 0), .int .u32 (f 1), .int .u32 (f 2), .int .u32 (f 3), .int .u32 (f 4)] 100)) (.cells #[.int .u32 0, .int .u32 0, .int .u32 0, .int .u32 0, .int .u32 0] 100); simpa using this, World.ownsRow_nil _ _ _ _, bl_alloc (bl_alloc (Below.refl _ _) _) _⟩
  have LN := Lib.hid (fun k => rL_nextF f k)
  obtain ⟨i0, hi0, hz0, hz1, hz2⟩ := info_parts inf5
  generalize sealS f = S at *
  unfold hdV
  go_enter Tryd.func69, Tryd.ntmps69
  go_wp2_with (fail)
  obtain ⟨w2, hw2⟩ : ∃ w2, ((w.alloc (.cells #[.int .u32 (f 0), .int .u32 (f 1), .int .u32 (f 2), .int .u32 (f 3), .int .u32 (f 4)] 100)).alloc (.cells #[.int .u32 0, .int .u32 0, .int .u32 0, .int .u32 0, .int .u32 0] 100)) = w2 := ⟨_, rfl⟩
  rw [hw2] at H0 ⊢
  clear hw2
  go_loopw [3, 8] (fun v i wr => ∃ k : Nat, k ≤ 4 ∧ i = .int .i64 k ∧ SEL w f k v wr) (fun _ i _ => 4 - (intOf i).toNat)
  case atStart => exact ⟨0, by omega, rfl, H0.out⟩
  case round =>
    clear H0
    obtain ⟨k, hk, rfl, hR⟩ := hrel
    have HR := Lib.hid hR
    clear hR
    by_cases hlt : k < 4
    · have dk : decide ((k : Int) < 4) = true := by simp; omega
      have c0 : wr.cell? ⟨w.heap.size, k, none⟩ = some (.int .u32 (f k)) := by
        rcases (by omega : k = 0 ∨ k = 1 ∨ k = 2 ∨ k = 3) with rfl | rfl | rfl | rfl <;> exact cell_of HR.out.b1 rfl
      have hx := hf k
      have ln := Lib.hid (LN.out k)
      generalize f k = x at *
      have W1 : IntKind.u8.wrap ((x : Int) / 16777216) = ((x / 16777216 % 256 : Nat) : Int) := by rw [wrap_u8]; omega
      have W2 : IntKind.u8.wrap ((x : Int) / 65536) = ((x / 65536 % 256 : Nat) : Int) := by rw [wrap_u8]; omega
      have W3 : IntKind.u8.wrap ((x : Int) / 256) = ((x / 256 % 256 : Nat) : Int) := by rw [wrap_u8]; omega
      have W4 : IntKind.u8.wrap (x : Int) = ((x % 256 : Nat) : Int) := by rw [wrap_u8]; omega
      have OW := Lib.hid HR.out.own
      have hws : w.heap.size ≤ wr.heap.size := HR.out.below.size
      go_wp2_with (at_builtin; refine wpList_append_own _ rfl _ _ 137 rfl w.heap.size 5 i0 _ 1 1 Tryd.underlying137 hi0 hz0 hz1 hz2 rfl (by decide) _ (4 * k) _ rfl (OW.out.alloc _) ⟨wr.heap.size, 0, none⟩ 4 4 [_, _, _, _] rfl rfl (cells_new wr [_, _, _, _] 5) (by simp [Value.oneCell']) (by unfold maxLen; omega) (by omega) (by simp; omega) ?_; intro v6 w6 hown6 hg6 _; have OWN6 := Lib.hid hown6; have GR6 := Lib.hid hg6; clear hown6 hg6)
      exact ⟨⟨k + 1, by omega, by go_num, HR.out.next GR6.out OWN6.out ln.out⟩, by simp [intOf]; omega⟩
    · have e : k = 4 := by omega
      subst e
      have dk : decide (((4 : Nat) : Int) < 4) = false := by decide
      have hv : ∃ ad cap, u3 = .slice ad (4 * 4) cap := by
        rcases HR.out.own.2 with ⟨h1, h0⟩ | ⟨g, cap, cur, h1, _⟩
        · omega
        · exact ⟨_, cap, h1⟩
      obtain ⟨ad, cap, rfl⟩ := hv
      have cv := own_cut HR.out.own (Nat.le_refl (4 * 4))
      have B1 := Lib.hid HR.out.b1
      have B2 := Lib.hid HR.out.b2
      have BL := Lib.hid HR.out.below
      have hl2 : w.heap.size + 1 < wr.heap.size := lt_of_obj HR.out.b2
      have hl1 : w.heap.size < wr.heap.size := by omega
      clear HR LN
      go_wp2_with (fail)
      refine (CR.out _).mono ?_
      rintro e w5 ⟨rfl, b5⟩
      have R1 := below_keeps b5 B1.out hl1
      have R2 := below_keeps b5 B2.out hl2
      have BL5 := Lib.hid (bl_step BL.out b5)
      have p0 : w5.cell? ⟨w.heap.size, 0, none⟩ = some (.int .u32 (f 0)) := cell_of R1 rfl
      have p1 : w5.cell? ⟨w.heap.size, 1, none⟩ = some (.int .u32 (f 1)) := cell_of R1 rfl
      have p2 : w5.cell? ⟨w.heap.size, 2, none⟩ = some (.int .u32 (f 2)) := cell_of R1 rfl
      have p3 : w5.cell? ⟨w.heap.size, 3, none⟩ = some (.int .u32 (f 3)) := cell_of R1 rfl
      have p4 : w5.cell? ⟨w.heap.size, 4, none⟩ = some (.int .u32 (f 4)) := cell_of R1 rfl
      have q0 : w5.cell? ⟨w.heap.size + 1, 0, none⟩ = some (.int .u32 0) := cell_of R2 rfl
      have q1 : w5.cell? ⟨w.heap.size + 1, 1, none⟩ = some (.int .u32 0) := cell_of R2 rfl
      have q2 : w5.cell? ⟨w.heap.size + 1, 2, none⟩ = some (.int .u32 0) := cell_of R2 rfl
      have q3 : w5.cell? ⟨w.heap.size + 1, 3, none⟩ = some (.int .u32 0) := cell_of R2 rfl
      have q4 : w5.cell? ⟨w.heap.size + 1, 4, none⟩ = some (.int .u32 0) := cell_of R2 rfl
      have z1 : ∀ j, w5.frozen? ⟨w.heap.size, j, none⟩ = false := fun j => free_of R1
      have z2 : ∀ j, w5.frozen? ⟨w.heap.size + 1, j, none⟩ = false := fun j => free_of R2
      have HR2 := Lib.hid R2
      clear R1 R2 b5 cv
      go_wp2_with (fail)
      have g0 := hp_set_ne (b' := w.heap.size) (i := 4) HR2.out (by omega) (.int .u32 (S : Int))
      have g1 := hp_set (i := 4) (hp_set (i := 3) (hp_set (i := 2) (hp_set (i := 1) (hp_set (i := 0) g0 (.int .u32 (f 0))) (.int .u32 (f 1))) (.int .u32 (f 2))) (.int .u32 (f 3))) (.int .u32 (S : Int))
      refine bodyPost_ret (results_cell_row rfl _ _ (w.heap.size + 1) 100 #[.int .u32 (f 0), .int .u32 (f 1), .int .u32 (f 2), .int .u32 (f 3), .int .u32 S] (0, 0) _ rfl g1 Tryd.underlying100 rfl (by kernel_rfl)) rfl ⟨rfl, ?_⟩
      exact bl_set (bl_set (bl_set (bl_set (bl_set (bl_set BL5.out (by omega) _) (by omega) _) (by omega) _) (by omega) _) (by omega) _) (by omega) _
end Go.Proofs.YtdebfniifijjoaaDoor
