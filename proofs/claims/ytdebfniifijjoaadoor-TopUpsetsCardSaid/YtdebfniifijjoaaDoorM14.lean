/-
  What the iterator of slices.Chunk hands out: the eight rows of ten bytes; or nothing of no bytes. Conditions: 80 bytes or none.
-/
import Derived.Test.YtdebfniifijjoaaDoorM13
import Derived.Laws.IdiomStrings
namespace Go.Proofs.YtdebfniifijjoaaDoor
open Go.RowKit Kit Go.Shelf
attribute [local go_sem] Oper.semAt_some
set_option linter.unusedVariables false
/-- Two blocks lie as they lay. -/
def Keep2 (Bn : Nat) (W W' : World) : Prop := W'.heap[Bn]? = W.heap[Bn]? ∧ W'.heap[Bn + 1]? = W.heap[Bn + 1]?
theorem Keep2.cell {Bn b i : Nat} {W W' : World} (h : Keep2 Bn W W') (hb : b = Bn ∨ b = Bn + 1) {v : Value} (c : W.cell? ⟨b, i, none⟩ = some v) : W'.cell? ⟨b, i, none⟩ = some v := by
  rw [← c]
  obtain ⟨h1, h2⟩ := h
  unfold World.cell?
  rcases hb with rfl | rfl
  · simp only [h1]
  · simp only [h2]
theorem keep2_t {Bn : Nat} {A B C : World} (h : Keep2 Bn A B) (h' : Keep2 Bn B C) : Keep2 Bn A C := ⟨h'.1.trans h.1, h'.2.trans h.2⟩
theorem keep2_b {Bn : Nat} {w : World} (hlt : Bn + 1 < w.heap.size) (W : World) (l : Nat) (o o' : Obj) (hl : w.heap.size ≤ l) (hg : W.heap[l]? = some o) (h1 : o.isCells = false) (h2 : o.isWalk = false) : Keep2 Bn W (W.putObj l o') :=
  ⟨World.putObj_heap_other (by omega), World.putObj_heap_other (by omega)⟩
abbrev Ch := Fin 8
def chL (k : Nat) : List Ch := (List.finRange 8).take k
theorem abides_ext {β : Type} {B : Nat} {J : β → World → Prop} (h : AbidesFrom B J) {s : β} {W : World} (x : Ext) (hs : J s W) : J s (ext W x) :=
  h s W (ext W x) none hs ⟨rfl, rfl, rfl, (below_ext W x).size, fun k hk _ => (below_ext W x).block k hk⟩ (fun r e => by cases e)
theorem chL_next (k : Nat) (hk : k < 8) : chL (k + 1) = chL k ++ [⟨k, hk⟩] := by
  rcases (by omega : k = 0 ∨ k = 1 ∨ k = 2 ∨ k = 3 ∨ k = 4 ∨ k = 5 ∨ k = 6 ∨ k = 7) with rfl | rfl | rfl | rfl | rfl | rfl | rfl | rfl <;> rfl
theorem chL_len (k : Nat) (hk : k ≤ 8) : (chL k).length = k := by unfold chL; rw [List.length_take, List.length_finRange]; omega
set_option maxHeartbeats 1600000 in
theorem chunk1_in (n : Nat) (hn : 1 ≤ n) (l Bn BB C : Nat) (hC : 80 ≤ C ∧ C ≤ maxLen) (J Jx : List Ch → World → Prop) (B : Nat) (hJ : AbidesFrom B J)
    (hY : ∀ pre x W, J pre W → pre.length < 8 → YieldAt Fence.wide (n - 1) Tryd.prog l #[.slice (some ⟨BB, 10 * x.val, none⟩) 10 10] W fun e W' =>
      (e = .returned (.bool true) ∧ J (pre ++ [x]) W' ∧ Keep2 Bn W W') ∨ (e = .returned (.bool false) ∧ Jx (pre ++ [x]) W'))
    (W : World) (c0 : W.cell? ⟨Bn, 0, none⟩ = some (.slice (some ⟨BB, 0, none⟩) 80 C)) (c1 : W.cell? ⟨Bn + 1, 0, none⟩ = some (.int .i64 10)) (h0 : J [] W) :
    CallsIn Fence.wide n Tryd.prog 88 #[.func (.yield l) #[] #[], .pointer (some ⟨Bn, 0, none⟩), .pointer (some ⟨Bn + 1, 0, none⟩)] W fun e W' => (∃ v, e = .returned v) ∧
      ((∃ ys, ys = chL 8 ∧ J ys W') ∨ (∃ pre : List Ch, True ∧ Jx pre W')) := by
  have hC1 := hC.1
  have hC2 := hC.2
  unfold maxLen at hC2
  refine callsIn_of_wp Tryd.func88 rfl trivial ?_ rfl
  simp only [Tryd.ntmps88, List.size_toArray, List.length_cons, List.length_nil, Nat.reduceAdd, Nat.reduceSub, Array.replicate_succ, Array.replicate_zero, List.push_toArray, List.append_toArray, List.nil_append, List.cons_append]
  gi_wp2
  gi_loopw [4] (fun i wr => ∃ k : Nat, k ≤ 8 ∧ i = .int .i64 ((10 * k : Nat) : Int) ∧ wr.cell? ⟨Bn, 0, none⟩ = some (.slice (some ⟨BB, 0, none⟩) 80 C) ∧ wr.cell? ⟨Bn + 1, 0, none⟩ = some (.int .i64 10) ∧ J (chL k) wr)
    (fun i _ => 80 - (intOf i).toNat)
  case atStart => exact ⟨0, by omega, rfl, c0, c1, h0⟩
  case round =>
    clear c0 c1
    obtain ⟨k, hk, rfl, c0, c1, hJs⟩ := hrel
    by_cases hend : k = 8
    · subst hend
      gi_wp2
      refine bodyPost_end (results_none rfl _ _ _) rfl ?_
      exact ⟨⟨_, rfl⟩, .inl ⟨_, rfl, hJs⟩⟩
    · have hk' : k < 8 := by omega
      obtain ⟨i, hi⟩ : ∃ i, i = 10 * k := ⟨_, rfl⟩
      rw [← hi]
      have hi70 : i ≤ 70 := by omega
      have HI := Lib.hid hi
      clear hi
      have hlt : decide ((i : Int) < 80) = true := by simp; omega
      have hmin : (min 10 ((80 - i : Nat) : Int)) = 10 := by omega
      have hb0 : Bn < wr.heap.size := by have := World.block_lt_of_cell? wr _ c0; exact this
      have hb1 : Bn + 1 < wr.heap.size := by have := World.block_lt_of_cell? wr _ c1; exact this
      gi_wp2
      refine wpIn_wide.2 ?_
      refine region_calm (by kernel_rfl) (by kernel_rfl) ?_
      repeat (go_big_quiet_step ((fail)))
      refine wpQuiet_nil ?_; intro _ hw'; obtain ⟨xq, hw''⟩ := hw'; subst hw''
      have c0' : (ext wr xq).cell? ⟨Bn, 0, none⟩ = some (.slice (some ⟨BB, 0, none⟩) 80 C) := by rw [cell?_ext _ _ _ _ hb0]; exact c0
      have c1' : (ext wr xq).cell? ⟨Bn + 1, 0, none⟩ = some (.int .i64 10) := by rw [cell?_ext _ _ _ _ hb1]; exact c1
      obtain ⟨fn, tmps, assign, body, hy, hR⟩ := hY (chL k) ⟨k, hk'⟩ (ext wr xq) (abides_ext hJ xq hJs) (by rw [chL_len k hk]; exact hk')
      rw [← chL_next k hk'] at hR
      simp only [← HI.out] at hy
      have HR := Lib.hid hR; clear hR
      clear c0 c1 hJs hmin hend
      have W1 : IntKind.i64.wrap ((i : Int) + 10) = (i : Int) + 10 := IntWalk.i64_in _ (by omega)
      generalize ext wr xq = w2 at *
      gi_wp2
      refine HR.out.mono ?_
      rintro e W' (⟨rfl, hJ', hk3⟩ | ⟨rfl, hJx'⟩)
      · have c0'' := hk3.cell (by omega) c0'
        have c1'' := hk3.cell (by omega) c1'
        clear c0' c1' hy
        have W1 : IntKind.i64.wrap ((i : Int) + 10) = (i : Int) + 10 := IntWalk.i64_in _ (by omega)
        gi_wp2
        go_roundw
        case rel => exact ⟨k + 1, by omega, by have := HI.out; congr 1; omega, c0'', c1'', hJ'⟩
        case measure => simp [intOf]; omega
      · gi_wp2
        refine bodyPost_ret (results_none rfl _ _ _) rfl ?_
        exact ⟨⟨_, rfl⟩, .inr ⟨_, trivial, hJx'⟩⟩
theorem chunk1_stops (n : Nat) (hn : 1 ≤ n) (Bn BB C : Nat) (hC : 80 ≤ C ∧ C ≤ maxLen) (w : World) (hBn : Bn + 1 < w.heap.size) (c0 : w.cell? ⟨Bn, 0, none⟩ = some (.slice (some ⟨BB, 0, none⟩) 80 C)) (c1 : w.cell? ⟨Bn + 1, 0, none⟩ = some (.int .i64 10)) :
    SeqStopsK Fence.wide n Tryd.prog 88 #[.pointer (some ⟨Bn, 0, none⟩), .pointer (some ⟨Bn + 1, 0, none⟩)] (fun x : Ch => #[Value.slice (some ⟨BB, 10 * x.val, none⟩) 10 10]) (Keep2 Bn) (fun xs => xs = chL 8) (fun _ => True) 8 w := fun l J Jx W hW hJ _ hY h0 =>
  chunk1_in n hn l Bn BB C hC J Jx _ hJ hY W ((hW.cell (p := ⟨Bn, 0, none⟩) (by show Bn < _; omega)).trans c0) ((hW.cell (p := ⟨Bn + 1, 0, none⟩) hBn).trans c1) h0
/-- Of no bytes nothing comes. -/
theorem chunk0_in (n : Nat) (hn : 1 ≤ n) (l Bn : Nat) (a : Option Addr) (c : Nat) (J Jx : List Ch → World → Prop) (W : World) (c0 : W.cell? ⟨Bn, 0, none⟩ = some (.slice a 0 c)) (h0 : J [] W) :
    CallsIn Fence.wide n Tryd.prog 88 #[.func (.yield l) #[] #[], .pointer (some ⟨Bn, 0, none⟩), .pointer (some ⟨Bn + 1, 0, none⟩)] W fun e W' => (∃ v, e = .returned v) ∧
      ((∃ ys, ys = [] ∧ J ys W') ∨ (∃ pre : List Ch, False ∧ Jx pre W')) := by
  refine callsIn_of_wp Tryd.func88 rfl trivial ?_ rfl
  simp only [Tryd.ntmps88, List.size_toArray, List.length_cons, List.length_nil, Nat.reduceAdd, Nat.reduceSub, Array.replicate_succ, Array.replicate_zero, List.push_toArray, List.append_toArray, List.nil_append, List.cons_append]
  gi_wp2
  gi_loopw [4] (fun i wr => i = .int .i64 0 ∧ wr.cell? ⟨Bn, 0, none⟩ = some (.slice a 0 c) ∧ J [] wr) (fun i _ => 0)
  case atStart => exact ⟨rfl, c0, h0⟩
  case round =>
    clear c0 h0
    obtain ⟨rfl, c0, h0⟩ := hrel
    gi_wp2
    refine bodyPost_end (results_none rfl _ _ _) rfl ?_
    exact ⟨⟨_, rfl⟩, .inl ⟨_, rfl, h0⟩⟩
theorem chunk0_stops (n : Nat) (hn : 1 ≤ n) (Bn : Nat) (a : Option Addr) (c : Nat) (w : World) (hBn : Bn + 1 < w.heap.size) (c0 : w.cell? ⟨Bn, 0, none⟩ = some (.slice a 0 c)) :
    SeqStopsK Fence.wide n Tryd.prog 88 #[.pointer (some ⟨Bn, 0, none⟩), .pointer (some ⟨Bn + 1, 0, none⟩)] (fun x : Ch => #[Value.nilIface]) (Keep2 Bn) (fun xs => xs = []) (fun _ => False) 0 w := fun l J Jx W hW hJ _ hY h0 =>
  chunk0_in n hn l Bn a c J Jx W ((hW.cell (p := ⟨Bn, 0, none⟩) (by show Bn < _; omega)).trans c0) h0
theorem chunk_any (a : Option Addr) (m c : Nat) (w : World) :
    Calls Tryd.prog 77 #[.slice a m c, .int .i64 10] w fun e w' => e = .returned (.func (.func 88) #[] #[.pointer (some ⟨w.heap.size, 0, none⟩), .pointer (some ⟨w.heap.size + 1, 0, none⟩)]) ∧ w' = (w.alloc (.cells #[.slice a m c] 137)).alloc (.cells #[.int .i64 10] 3) := by
  go_enter Tryd.func77, Tryd.ntmps77
  go_wp2_with (fail)
  go_ret
  exact ⟨rfl, rfl⟩
end Go.Proofs.YtdebfniifijjoaaDoor
/-
  The walk of tables' Decode. Conditions: the bytes of 8 parameters, or none.
-/
namespace Go.Proofs.YtdebfniifijjoaaDoor
open Go.RowKit Kit Go.Shelf
attribute [local go_sem] Oper.semAt_some
set_option linter.unusedVariables false
set_option linter.unusedSimpArgs false
theorem results_cell2 {fn : Func} {p q : Tmp} {ty uy : TypeId} (h : fn.results = #[.cell p ty, .cell q uy]) (tmps : Array Value) (P : Program) (w : World) :
    (results fn tmps).run P w = ((asAddr (tmps.getD p undef)).run P w).andThen fun a w₁ => ((loadVar ty a).run P w₁).andThen fun v w₂ => ((asAddr (tmps.getD q undef)).run P w₂).andThen fun b w₃ => ((loadVar uy b).run P w₃).andThen fun u w₄ => .ok (.tuple #[v, u]) w₄ := by
  simp only [results, h]
  simp [Sem.run_bind, Result.andThen]
/-- A string's bytes as a new slice. -/
theorem conv_bytes (S : ByteArray) (hS : S.size ≤ 1000) (w : World) : ∃ c w', (convert 9 137 (.string S)).run Tryd.prog w = .ok (.slice (some ⟨w.heap.size, 0, none⟩) S.size c) w' ∧ S.size ≤ c ∧ c ≤ maxLen ∧ Below w.heap.size w w' ∧ w.heap.size < w'.heap.size ∧ (∃ cs fr, w'.heap[w.heap.size]? = some (.cells cs 5 fr)) ∧ (∀ i, i < S.size → w'.cell? ⟨w.heap.size, i, none⟩ = some (.int .u8 (bAt S i))) := by
  refine ⟨_, _, run_bytes_of_string w 9 137 5 S Tryd.underlying9 Tryd.underlying137 Tryd.underlying5, grownCap_ge _ _ _ _, grownCap_le_maxLen _ _ _ _ (by unfold maxLen; omega), ?_, ?_, ⟨_, _, hp_new w.drew _⟩, ?_⟩
  · exact bl_alloc ((Below.refl w.heap.size w).drew) _
  · simp
  · intro i hi
    refine cell_of (hp_new w.drew _) ?_
    unfold bytesRow
    have hl : i < S.data.toList.length := by simpa using hi
    rw [Array.getElem?_append_left (by simpa using hi), Array.getElem?_map, ← Array.getElem?_toList, List.getElem?_eq_getElem hl]
    unfold bAt
    rw [List.getD_eq_getElem?_getD, List.getElem?_eq_getElem hl]
    rfl
theorem bAt_encS (vals : Nat → Int) (i : Nat) (hi : i < 80) : bAt (encS vals) i = eB vals i := by
  have := eB_lt vals i
  unfold bAt encS
  rw [strOfNums_data, List.getD_eq_getElem?_getD, List.getElem?_map, List.getElem?_map, List.getElem?_range hi]
  simp only [Option.map_some, Option.getD_some, Int.toNat_natCast]
  rw [UInt8.toNat_ofNat']
  omega
theorem num_lo (vals : Nat → Int) (k : Nat) (hk : k < 8) : pkF (fun i => eB vals (10 * k + i)) 2 = k := by
  simp only [pkF, Nat.mul_zero, Nat.zero_add]
  rw [eB_lo vals k 0 (by omega), eB_lo vals k 1 (by omega)]
  simp
  omega
theorem num_hi (vals : Nat → Int) (k : Nat) : pkF (fun i => eB vals (10 * k + 2 + i)) 8 = uv (vals k) := by
  have hu := uv_lt (vals k)
  simp only [pkF, Nat.mul_zero, Nat.zero_add]
  rw [eB_hi vals k 0 (by omega), eB_hi vals k 1 (by omega), eB_hi vals k 2 (by omega), eB_hi vals k 3 (by omega), eB_hi vals k 4 (by omega), eB_hi vals k 5 (by omega), eB_hi vals k 6 (by omega), eB_hi vals k 7 (by omega)]
  generalize uv (vals k) = u at *
  simp
  omega
theorem info68 : (Tryd.prog.info? 68).map (fun i => (i.zero, i.size, i.bytes)) = some (some (.agg #[.int .i64 0, .int .i64 0]), 2, 16) := by kernel_rfl
/-- The cells of the first k parameters. -/
def pL (vals : Nat → Int) (xs : List Ch) : List Value := xs.flatMap fun x => [.int .i64 (x.val : Int), .int .i64 (vals x.val)]
theorem pL_len (vals : Nat → Int) (xs : List Ch) : (pL vals xs).length = xs.length * 2 := by
  induction xs with
  | nil => rfl
  | cons x xs ih => simp only [pL, List.flatMap_cons, List.length_append, List.length_cons, List.length_nil] at *; omega
theorem pL_snoc (vals : Nat → Int) (xs : List Ch) (x : Ch) : pL vals (xs ++ [x]) = pL vals xs ++ [.int .i64 (x.val : Int), .int .i64 (vals x.val)] := by simp [pL]
/-- A list of 8 parameters of its own. -/
def PO (w : World) (B : Nat) (vals : Nat → Int) (v : Value) : Prop := w.ownsRow B 68 2 v 8 (pL vals (chL 8))
def decI (B BB D c : Nat) (O : Obj) (w : World) (vals : Nat → Int) (pre : List Ch) (W : World) : Prop :=
  (∃ v, Boxed W (B + 1 + 1) 65 v ∧ W.ownsRow B 68 2 v pre.length (pL vals pre) ∧ True) ∧ (Boxed W B 65 (.slice none 0 0) ∧ Boxed W (B + 1) 41 (.int .i64 0)) ∧ (Boxed W D 137 (.slice (some ⟨BB, 0, none⟩) 80 c) ∧ Boxed W (D + 1) 3 (.int .i64 10)) ∧ W.heap[BB]? = some O ∧ Below w.heap.size w W
theorem pl_of {W : World} {B g cap : Nat} {vals : Nat → Int} (h : W.ownsRow B 68 2 (.slice (some ⟨g, 0, none⟩) 8 cap) 8 (pL vals (chL 8))) : PL W g vals ∧ 8 ≤ cap ∧ cap ≤ maxLen := by
  obtain ⟨cur, _, _, h2, h3, _⟩ := own_block h
  refine ⟨⟨fun i hi => ?_, fun i hi => ?_, (own_lt h).2⟩, h2, h3⟩
  · refine own_cell h ?_
    rcases (by omega : i = 0 ∨ i = 1 ∨ i = 2 ∨ i = 3 ∨ i = 4 ∨ i = 5 ∨ i = 6 ∨ i = 7) with rfl | rfl | rfl | rfl | rfl | rfl | rfl | rfl <;> rfl
  · refine own_cell h ?_
    rcases (by omega : i = 0 ∨ i = 1 ∨ i = 2 ∨ i = 3 ∨ i = 4 ∨ i = 5 ∨ i = 6 ∨ i = 7) with rfl | rfl | rfl | rfl | rfl | rfl | rfl | rfl <;> rfl
theorem dec_fin {W : World} {v : Value} {E : Int} {B D2 L : Nat} {R : Ending → World → Prop} (tmps : Array Value) (h4 : tmps.getD 2 undef = .pointer (some ⟨B, 0, none⟩)) (h5 : tmps.getD 3 undef = .pointer (some ⟨B + 1, 0, none⟩))
    (hBL : B + 2 ≤ L) (hLD : L ≤ D2) (hK : W.heap[D2]? = some (.deferred (some []))) (c0 : Boxed W B 65 v) (c1 : Boxed W (B + 1) 41 (.int .i64 E)) (hp : ∀ W', W.grownBy W' (some D2) → R (.returned (.tuple #[v, .int .i64 E])) W') :
    bodyPostM Fence.wide 5 Tryd.prog Tryd.f60 R .ret { tmps := tmps, defers := [{ target := .collected D2, args := #[] }] } W := by
  refine ⟨by simp, .inl ⟨_, _, rfl, run_takeDeferred hK, ?_⟩⟩
  have hb : Below L W (W.putObj D2 (.deferred none)) := (Below.refl L W).grown (grownBy_putObj' W D2 _) (by have := (Array.getElem?_eq_some_iff.1 hK).1; omega) (fun k e => by cases e; omega)
  refine ⟨_, ?_, hp _ (grownBy_putObj' W D2 _)⟩
  have e0 : Boxed (W.putObj D2 (.deferred none)) B 65 v := (hb.block B (by omega)).trans c0
  have e1 : Boxed (W.putObj D2 (.deferred none)) (B + 1) 41 (.int .i64 E) := (hb.block (B + 1) (by omega)).trans c1
  have f0 := e0.cell
  have f1 := e1.cell
  show (results Tryd.f60 tmps).run Tryd.prog _ = _
  rw [results_cell2 rfl, h4, h5]
  go_simp
set_option maxRecDepth 100000 in
set_option maxHeartbeats 3200000 in
theorem decode_any (vals : Nat → Int) (hval : ∀ i, i < 8 → -9223372036854775808 ≤ vals i ∧ vals i ≤ 9223372036854775807) (w : World) : Calls Tryd.prog 60 #[.string (encS vals)] w fun e w' => ∃ v, e = .returned (.tuple #[v, .int .i64 0]) ∧ PO w' w.heap.size vals v ∧ Below w.heap.size w w' := by
  obtain ⟨i0, hi0, hz0, hz1, hz2⟩ := info_parts info68
  obtain ⟨W3, hW3⟩ : ∃ W3, W3 = ((w.alloc (.cells #[.slice none 0 0] 65)).alloc (.cells #[.int .i64 0] 41)).alloc (.cells #[.slice none 0 0] 65) := ⟨_, rfl⟩
  obtain ⟨c, w4, cv, hc1, hc2, b4, l4, ⟨ocs, ofr, ho4⟩, cb⟩ := conv_bytes (encS vals) (by rw [encS_size]; omega) W3
  rw [encS_size] at cv hc1 cb
  have hs3 : W3.heap.size = w.heap.size + 3 := by rw [hW3]; simp
  have CB := Lib.hid cb
  have B4 := Lib.hid b4
  have HW3 := Lib.hid hW3
  clear cb b4
  rw [hW3] at cv
  clear hW3
  refine (callsIn_wide (n := 5)).1 ?_
  refine callsIn_of_wp_marks Tryd.func60 rfl trivial ?_ rfl
  simp only [Tryd.ntmps60, List.size_toArray, List.length_cons, List.length_nil, Nat.reduceAdd, Nat.reduceSub, Array.replicate_succ, Array.replicate_zero, List.push_toArray, List.append_toArray, List.nil_append, List.cons_append]
  refine wpIn_wide.2 ?_
  go_wp2_with (fail)
  refine (chunk_any _ _ _ w4).mono ?_
  rintro e w5 ⟨rfl, h5⟩
  go_wp2_with (fail)
  refine (wpIn_wide (n := 5)).1 ?_
  obtain ⟨B, hB⟩ : ∃ B, B = w.heap.size := ⟨_, rfl⟩
  obtain ⟨D, hD⟩ : ∃ D, D = w4.heap.size := ⟨_, rfl⟩
  obtain ⟨W6, hW6⟩ : ∃ W6, W6 = (w4.alloc (.cells #[.slice (some ⟨w.heap.size + 1 + 1 + 1, 0, none⟩) 80 c] 137)).alloc (.cells #[.int .i64 10] 3) := ⟨_, rfl⟩
  have bS : Boxed W6 D 137 (.slice (some ⟨B + 1 + 1 + 1, 0, none⟩) 80 c) := by rw [hW6, hD, hB]; exact (Boxed.new w4 137 _).alloc _
  have bT : Boxed W6 (D + 1) 3 (.int .i64 10) := by
    rw [hW6, hD]; have := Boxed.new (w4.alloc (.cells #[.slice (some ⟨w.heap.size + 1 + 1 + 1, 0, none⟩) 80 c] 137)) 3 (.int .i64 10); rw [World.size_alloc] at this; exact this
  have c6 : W6.heap.size = D + 2 := by rw [hW6, hD]; simp [World.size_alloc]
  have b46 : Below w4.heap.size w4 W6 := by rw [hW6]; exact bl_alloc (bl_alloc (Below.refl _ _) _) _
  have hD4 : B + 1 + 1 + 1 < D := by omega
  have bx : Boxed W6 B 65 (.slice none 0 0) ∧ Boxed W6 (B + 1) 41 (.int .i64 0) ∧ Boxed W6 (B + 1 + 1) 65 (.slice none 0 0) ∧ Below w.heap.size w W6 := by
    have x0 : Boxed W3 B 65 (.slice none 0 0) := by rw [HW3.out, hB]; exact ((Boxed.new w 65 _).alloc _).alloc _
    have x1 : Boxed W3 (B + 1) 41 (.int .i64 0) := by
      rw [HW3.out, hB]; have := (Boxed.new (w.alloc (.cells #[.slice none 0 0] 65)) 41 (.int .i64 0)).alloc (.cells #[.slice none 0 0] 65); rw [World.size_alloc] at this; exact this
    have x2 : Boxed W3 (B + 1 + 1) 65 (.slice none 0 0) := by
      rw [HW3.out, hB]; have := Boxed.new ((w.alloc (.cells #[.slice none 0 0] 65)).alloc (.cells #[.int .i64 0] 41)) 65 (.slice none 0 0); rw [World.size_alloc, World.size_alloc] at this; exact this
    have g : ∀ k o, W3.heap[k]? = some o → W6.heap[k]? = some o := fun k o h => below_keeps b46 (below_keeps B4.out h (lt_of_obj h)) (by have := lt_of_obj h; omega)
    refine ⟨g _ _ x0, g _ _ x1, g _ _ x2, ?_⟩
    have : Below w.heap.size w W3 := by rw [HW3.out]; exact bl_alloc (bl_alloc (bl_alloc (Below.refl _ _) _) _) _
    exact (this.trans (B4.out.mono this.size)).trans (b46.mono (by omega))
  have cb6 : ∀ i, i < 80 → W6.cell? ⟨B + 1 + 1 + 1, i, none⟩ = some (.int .u8 ((eB vals i : Nat) : Int)) := fun i hi => by
    rw [b46.cell (p := ⟨B + 1 + 1 + 1, i, none⟩) (by show B + 1 + 1 + 1 < _; omega)]
    have := CB.out i hi
    rw [hs3, ← hB, bAt_encS vals i hi] at this
    exact this
  obtain ⟨O, hOe⟩ : ∃ O, O = Obj.cells ocs 5 ofr := ⟨_, rfl⟩
  have hO : W6.heap[B + 1 + 1 + 1]? = some O := by
    rw [hOe]
    rw [hs3, ← hB] at ho4
    exact below_keeps b46 ho4 (by omega)
  have OE := Lib.hid hOe
  clear hOe ho4
  have CBO : Hid (∀ (W : World), W.heap[B + 1 + 1 + 1]? = some O → ∀ i, i < 80 → W.cell? ⟨B + 1 + 1 + 1, i, none⟩ = some (.int .u8 ((eB vals i : Nat) : Int))) := Lib.hid (fun W hW i hi => by
    rw [World.cell?_of_block (w := W6) (by rw [hW, hO])]; exact cb6 i hi)
  have hpre : decI B (B + 1 + 1 + 1) D c O w vals [] W6 := ⟨⟨_, bx.2.2.1, World.ownsRow_nil _ _ _ _, trivial⟩, ⟨bx.1, bx.2.1⟩, ⟨bS, bT⟩, hO, bx.2.2.2⟩
  have hpre' := Lib.hid hpre
  have HB := Lib.hid hB
  have HD := Lib.hid hD
  have C6 := Lib.hid c6
  have hs6 : D + 1 < W6.heap.size := by omega
  have hwB : w.heap.size ≤ B := by omega
  have hwB' : w.heap.size ≤ W6.heap.size := by omega
  have hb3 : B + 1 + 1 + 1 < W6.heap.size := by omega
  have S3 := Lib.hid hs3
  have CV := Lib.hid cv
  rw [← hW6, ← hB, ← hD]
  clear h5 hW6 cb6 hO hpre bx hB hD c6 hs3 cv
  generalize hact : ({ tmps := _, defers := [] } : Act) = act
  refine wpIn_rangeFunc_ownG rfl (show 1 ≤ 5 by omega) (gf := 88) (lb := #[.pointer (some ⟨D, 0, none⟩), .pointer (some ⟨D + 1, 0, none⟩)]) (by rw [← hact]; rfl) trivial (enters_of Tryd.func88 (by kernel_rfl) rfl)
    (chunk1_stops 4 (show 1 ≤ 4 by omega) D (B + 1 + 1 + 1) c ⟨hc1, hc2⟩ W6 hs6 bS.cell bT.cell) keep2_t (keep2_b hs6) (Below.refl _ _) (fun _ => rfl)
    (decI B (B + 1 + 1 + 1) D c O w vals)
    (fun _ _ _ => False)
    ?hI
    (fun _ _ _ _ _ hs _ _ => hs)
    hpre'.out
    (fun x => { tmps := (act.tmps.setIfInBounds 9 (.slice (some ⟨B + 1 + 1 + 1, 10 * x.val, none⟩) 10 10)).setIfInBounds 5 (.slice (some ⟨B + 1 + 1 + 1, 10 * x.val, none⟩) 10 10), defers := [] }) ?assign ?body ?done ?stop
  case hI =>
    refine OwnFrom.and ((holdsRow_own B (B + 1 + 1) 65 68 2 (fun pre : List Ch => pre.length) (fun pre => pL vals pre) (fun _ _ => True)).from _) (OwnFrom.and (OwnFrom.and ((boxed_own B 65 (fun _ => .slice none 0 0)).from _) ((boxed_own (B + 1) 41 (fun _ => .int .i64 0)).from _)) (OwnFrom.and (OwnFrom.and ((boxed_own D 137 (fun _ => .slice (some ⟨B + 1 + 1 + 1, 0, none⟩) 80 c)).from _) ((boxed_own (D + 1) 3 (fun _ => .int .i64 10)).from _)) (OwnFrom.and ?_ (ownFrom_below (Nat.le_refl _) hwB'))))
    intro s W W' row hs hg hr
    rw [hg.block _ (lt_of_obj hs) (fun e => by have := (hr _ e.symm).1; omega)]
    exact hs
  case assign =>
    intro l x W K hK
    subst hact
    simp only [List.setIfInBounds_toArray, List.set_cons_succ, List.set_cons_zero] at hK
    gi_wp2
    exact hK
  case body =>
    rintro l pre x W ⟨⟨v, hv, hrow, _⟩, ⟨hx0, hx1⟩, ⟨hy0, hy1⟩, hO, hBW⟩ hlt
    subst hact
    simp only [List.setIfInBounds_toArray, List.set_cons_succ, List.set_cons_zero]
    have cv2 := hv.cell
    have hbv := hv.lt
    have cbW := CBO.out W hO
    have HV := Lib.hid hv; have HROW := Lib.hid hrow; have HX0 := Lib.hid hx0; have HX1 := Lib.hid hx1; have HO := Lib.hid hO; have HBW := Lib.hid hBW
    have FN : Hid (∀ (w9 : World) (v' : Value) (a' : Act), (W.alloc (.cells #[.int .i64 ((x.val : Nat) : Int), .int .i64 (vals x.val)] 68)).grownBy w9 v.ownBlock → (∃ g c, v' = .slice (some ⟨g, 0, none⟩) (pre.length + 1) c) → Boxed (w9.setCell ⟨B + 1 + 1, 0, none⟩ v') (B + 1 + 1) 65 v' → (w9.setCell ⟨B + 1 + 1, 0, none⟩ v').ownsRow B 68 2 v' (pre.length + 1) (pL vals pre ++ [.int .i64 ((x.val : Nat) : Int), .int .i64 (vals x.val)]) → KeepsOthers W (w9.setCell ⟨B + 1 + 1, 0, none⟩ v') → Below B W (w9.setCell ⟨B + 1 + 1, 0, none⟩ v') →
        ownPostG W6.heap.size (Keep2 D) (decI B (B + 1 + 1 + 1) D c O w vals) (fun _ _ _ => False) (pre ++ [x]) W .normal a' (w9.setCell ⟨B + 1 + 1, 0, none⟩ v')) := Lib.hid (fun w9 v' a' hg _ h1 h2 h3 h4 => by
      have keep : ∀ (k : Nat) (cs : Array Value) (t : TypeId) (fr : Nat × Nat), W.heap[k]? = some (.cells cs t fr) → t ≠ 68 → k ≠ B + 1 + 1 → (w9.setCell ⟨B + 1 + 1, 0, none⟩ v').heap[k]? = some (.cells cs t fr) := fun k cs t fr hk ht hne => by
        have h1 := hp_old hk (.cells #[.int .i64 ((x.val : Nat) : Int), .int .i64 (vals x.val)] 68)
        exact hp_set_ne ((mod_of_grown hg).keeps h1 (own_ne_obj (hrow.alloc _) h1 ht)) hne _
      have k0 := keep _ _ _ _ hx0 (by decide) (by omega)
      have k1 := keep _ _ _ _ hx1 (by decide) (by omega)
      have k2 := keep _ _ _ _ hy0 (by decide) (by omega)
      have k3 := keep _ _ _ _ hy1 (by decide) (by omega)
      have k4 : (w9.setCell ⟨B + 1 + 1, 0, none⟩ v').heap[B + 1 + 1 + 1]? = some O := by
        rw [OE.out]; exact keep _ _ _ _ (by rw [← OE.out]; exact hO) (by decide) (by omega)
      refine ⟨h3.from _, ⟨k2.trans (Eq.symm hy0), k3.trans (Eq.symm hy1)⟩, ⟨v', h1, ?_, trivial⟩, ⟨k0, k1⟩, ⟨k2, k3⟩, k4, hBW.trans (h4.mono hwB)⟩
      rw [pL_snoc, List.length_append]
      exact h2)
    clear hv hrow hx0 hx1 hy0 hy1 hO hBW
    gi_wp2
    refine region_round (S := fun _ => True) (by kernel_rfl) (by kernel_rfl) (by rintro ⟨a, w, h⟩; exact h) trivial (fun hHeld => ?_)
    have hx8 := x.isLt
    have N1 := Lib.hid (fun (W' : World) (hc : ∀ i, i < 80 → W'.cell? ⟨B + 1 + 1 + 1, i, none⟩ = some (.int .u8 ((eB vals i : Nat) : Int))) => number_any (fun i => eB vals (10 * x.val + i)) (fun i => eB_lt _ _) (B + 1 + 1 + 1) (10 * x.val) 2 10 (by omega) W' (World.block_lt_of_cell? W' _ (hc 0 (by omega))) (fun i hi => hc _ (by omega)) ⟨by omega, by unfold maxLen; omega⟩)
    have N2 := Lib.hid (fun (W' : World) (hc : ∀ i, i < 80 → W'.cell? ⟨B + 1 + 1 + 1, i, none⟩ = some (.int .u8 ((eB vals i : Nat) : Int))) => number_any (fun i => eB vals (10 * x.val + 2 + i)) (fun i => eB_lt _ _) (B + 1 + 1 + 1) (10 * x.val + 2) 8 8 (by omega) W' (World.block_lt_of_cell? W' _ (hc 0 (by omega))) (fun i hi => hc _ (by omega)) ⟨by omega, by unfold maxLen; omega⟩)
    rw [num_lo vals x.val hx8] at N1
    rw [num_hi vals x.val] at N2
    have UB := uv_back (vals x.val) (hval x.val hx8)
    have UK : IntKind.i64.wrap ((x.val : Nat) : Int) = ((x.val : Nat) : Int) := IntWalk.i64_in _ (by omega)
    refine wpAnyH_take (i := 1) (v := .slice (some ⟨B + 1 + 1 + 1, 10 * x.val, none⟩) 10 10) rfl (by kernel_rfl) (by kernel_rfl) (by kernel_rfl) (fun _ _ _ h => h) (Or.inl ⟨by rfl, ?_⟩) trivial ?_
    · intro w hSw; go_simp
    try simp only [Act.put, List.getElem_toArray, List.getElem_cons_zero, List.getElem_cons_succ, List.setIfInBounds_toArray, List.set_cons_zero, List.set_cons_succ]
    refine wpAnyH_take (i := 2) (v := .slice (some ⟨B + 1 + 1 + 1, 10 * x.val, none⟩) 2 10) rfl (by kernel_rfl) (by kernel_rfl) (by kernel_rfl) (fun _ _ _ h => h) (Or.inl ⟨by rfl, ?_⟩) trivial ?_
    · intro w hSw; go_simp
    try simp only [Act.put, List.getElem_toArray, List.getElem_cons_zero, List.getElem_cons_succ, List.setIfInBounds_toArray, List.set_cons_zero, List.set_cons_succ]
    refine wpAnyH_take (i := 5) (v := .slice (some ⟨B + 1 + 1 + 1, 10 * x.val, none⟩) 10 10) rfl (by kernel_rfl) (by kernel_rfl) (by kernel_rfl) (fun _ _ _ h => h) (Or.inl ⟨by rfl, ?_⟩) trivial ?_
    · intro w hSw; go_simp
    try simp only [Act.put, List.getElem_toArray, List.getElem_cons_zero, List.getElem_cons_succ, List.setIfInBounds_toArray, List.set_cons_zero, List.set_cons_succ]
    refine wpAnyH_take (i := 6) (v := .slice (some ⟨B + 1 + 1 + 1, 10 * x.val + 2, none⟩) 8 8) rfl (by kernel_rfl) (by kernel_rfl) (by kernel_rfl) (fun _ _ _ h => h) (Or.inl ⟨by rfl, ?_⟩) trivial ?_
    · intro w hSw; go_simp
    try simp only [Act.put, List.getElem_toArray, List.getElem_cons_zero, List.getElem_cons_succ, List.setIfInBounds_toArray, List.set_cons_zero, List.set_cons_succ]
    refine wpAnyH_ready (rs := [0, 3]) (by kernel_rfl) (by simp) ?_
    refine AllReadyH.cons rfl (fun K hK => ?_) (AllReadyH.cons rfl (fun K hK => ?_) AllReadyH.nil)
    · simp only [List.getElem_toArray, List.getElem_cons_zero, List.getElem_cons_succ]
      go_simp
      refine hK.out _ _ trivial (fun _ => ?_)
      clear hK K
      try simp only [Act.put, List.getElem_toArray, List.getElem_cons_zero, List.getElem_cons_succ, List.setIfInBounds_toArray, List.set_cons_zero, List.set_cons_succ]
      refine wpAnyH_ready (rs := [3]) (by kernel_rfl) (by simp) ?_
      refine AllReadyH.cons rfl (fun K hK => ?_) AllReadyH.nil
      simp only [List.getElem_toArray, List.getElem_cons_zero, List.getElem_cons_succ]
      go_simp
      refine (N1.out W.drew (fun i hi => cbW i hi)).mono ?_
      rintro e _ ⟨rfl, rfl⟩
      refine hK.out _ _ trivial (fun _ => ?_)
      clear hK K
      try simp only [Act.put, List.getElem_toArray, List.getElem_cons_zero, List.getElem_cons_succ, List.setIfInBounds_toArray, List.set_cons_zero, List.set_cons_succ]
      refine wpAnyH_take (i := 4) (v := .int .i64 ((x.val : Nat) : Int)) rfl (by kernel_rfl) (by kernel_rfl) (by kernel_rfl) (fun _ _ _ h => h) (Or.inl ⟨by rfl, ?_⟩) trivial ?_
      · intro w hSw; go_simp
      try simp only [Act.put, List.getElem_toArray, List.getElem_cons_zero, List.getElem_cons_succ, List.setIfInBounds_toArray, List.set_cons_zero, List.set_cons_succ]
      refine wpAnyH_ready (rs := [7]) (by kernel_rfl) (by simp) ?_
      refine AllReadyH.cons rfl (fun K hK => ?_) AllReadyH.nil
      simp only [List.getElem_toArray, List.getElem_cons_zero, List.getElem_cons_succ]
      go_simp
      refine (N2.out W.drew (fun i hi => cbW i hi)).mono ?_
      rintro e _ ⟨rfl, rfl⟩
      refine hK.out _ _ trivial (fun _ => ?_)
      clear hK K
      try simp only [Act.put, List.getElem_toArray, List.getElem_cons_zero, List.getElem_cons_succ, List.setIfInBounds_toArray, List.set_cons_zero, List.set_cons_succ]
      refine wpAnyH_take (i := 8) (v := .int .i64 (vals x.val)) rfl (by kernel_rfl) (by kernel_rfl) (by kernel_rfl) (fun _ _ _ h => h) (Or.inl ⟨by rfl, ?_⟩) trivial ?_
      · intro w hSw; go_simp
      try simp only [Act.put, List.getElem_toArray, List.getElem_cons_zero, List.getElem_cons_succ, List.setIfInBounds_toArray, List.set_cons_zero, List.set_cons_succ]
      refine wpAnyH_take (i := 9) (v := .agg #[.int .i64 ((x.val : Nat) : Int), .int .i64 (vals x.val)]) rfl (by kernel_rfl) (by kernel_rfl) (by kernel_rfl) (fun _ _ _ h => h) (Or.inl ⟨by rfl, ?_⟩) trivial ?_
      · intro w hSw; go_simp
      try simp only [Act.put, List.getElem_toArray, List.getElem_cons_zero, List.getElem_cons_succ, List.setIfInBounds_toArray, List.set_cons_zero, List.set_cons_succ]
      refine wpAnyH_ready (rs := [10]) (by kernel_rfl) (by simp) ?_
      refine AllReadyH.cons rfl (fun K hK => ?_) AllReadyH.nil
      simp only [List.getElem_toArray, List.getElem_cons_zero, List.getElem_cons_succ]
      go_simp
      refine hK.out _ _ trivial (fun _ => ?_)
      clear hK K
      try simp only [Act.put, List.getElem_toArray, List.getElem_cons_zero, List.getElem_cons_succ, List.setIfInBounds_toArray, List.set_cons_zero, List.set_cons_succ]
      refine wpAnyH_ready (rs := [11]) (by kernel_rfl) (by simp) ?_
      refine AllReadyH.cons rfl (fun K hK => ?_) AllReadyH.nil
      simp only [List.getElem_toArray, List.getElem_cons_zero, List.getElem_cons_succ]
      rw [if_pos (by rfl)]
      refine wp_append_own _ _ _ 65 rfl B 68 i0 _ 2 16 Tryd.underlying65 hi0 hz0 hz1 hz2 rfl (by decide) v pre.length (pL vals pre) rfl (own_drewN (HROW.out.alloc _) 1) ⟨W.heap.size, 0, none⟩ 1 1 [.int .i64 ((x.val : Nat) : Int), .int .i64 (vals x.val)] rfl rfl (cells_new W [.int .i64 ((x.val : Nat) : Int), .int .i64 (vals x.val)] 68) (by simp [Value.oneCell']) (by unfold maxLen; omega) (by omega) (by show B ≤ (W.alloc _).heap.size; simp; omega) ?_
      intro v' w9 hown' hgrow _
      have hgr : (W.alloc (.cells #[.int .i64 ((x.val : Nat) : Int), .int .i64 (vals x.val)] 68)).grownBy w9 v.ownBlock := ⟨hgrow.os, hgrow.tape, hgrow.output, hgrow.size, hgrow.block⟩
      obtain ⟨g', cap', rfl⟩ := ownsRow_succ hown'
      obtain ⟨hv1, hv2, hr2, hk2, hb2⟩ := HV.out.appended (by decide) HROW.out (n₀ := B) (by omega) (by omega) hown' hgr
      have hc1 := hv1.cell
      have hf1 := hv1.frozen
      have FIN := fun (a' : Act) => FN.out _ _ a' hgr ⟨g', cap', rfl⟩ hv2 hr2 hk2 hb2
      clear hv2 hr2 hk2 hb2 hgrow hgr hown'
      refine hK.out _ _ trivial (fun _ => ?_)
      clear hK K
      try simp only [Act.put, List.getElem_toArray, List.getElem_cons_zero, List.getElem_cons_succ, List.setIfInBounds_toArray, List.set_cons_zero, List.set_cons_succ]
      refine wpAnyH_ready (rs := [12]) (by kernel_rfl) (by simp) ?_
      refine AllReadyH.cons rfl (fun K hK => ?_) AllReadyH.nil
      simp only [List.getElem_toArray, List.getElem_cons_zero, List.getElem_cons_succ]
      go_simp
      refine hK.out _ _ trivial (fun _ => ?_)
      refine wpAnyH_done (by kernel_rfl) ?_ _
      exact FIN { tmps := #[], defers := [] }
    · simp only [List.getElem_toArray, List.getElem_cons_zero, List.getElem_cons_succ]
      go_simp
      refine (N1.out W.drew (fun i hi => cbW i hi)).mono ?_
      rintro e _ ⟨rfl, rfl⟩
      refine hK.out _ _ trivial (fun _ => ?_)
      clear hK K
      try simp only [Act.put, List.getElem_toArray, List.getElem_cons_zero, List.getElem_cons_succ, List.setIfInBounds_toArray, List.set_cons_zero, List.set_cons_succ]
      refine wpAnyH_take (i := 4) (v := .int .i64 ((x.val : Nat) : Int)) rfl (by kernel_rfl) (by kernel_rfl) (by kernel_rfl) (fun _ _ _ h => h) (Or.inl ⟨by rfl, ?_⟩) trivial ?_
      · intro w hSw; go_simp
      try simp only [Act.put, List.getElem_toArray, List.getElem_cons_zero, List.getElem_cons_succ, List.setIfInBounds_toArray, List.set_cons_zero, List.set_cons_succ]
      refine wpAnyH_ready (rs := [0, 7]) (by kernel_rfl) (by simp) ?_
      refine AllReadyH.cons rfl (fun K hK => ?_) (AllReadyH.cons rfl (fun K hK => ?_) AllReadyH.nil)
      · simp only [List.getElem_toArray, List.getElem_cons_zero, List.getElem_cons_succ]
        go_simp
        refine hK.out _ _ trivial (fun _ => ?_)
        clear hK K
        try simp only [Act.put, List.getElem_toArray, List.getElem_cons_zero, List.getElem_cons_succ, List.setIfInBounds_toArray, List.set_cons_zero, List.set_cons_succ]
        refine wpAnyH_ready (rs := [7]) (by kernel_rfl) (by simp) ?_
        refine AllReadyH.cons rfl (fun K hK => ?_) AllReadyH.nil
        simp only [List.getElem_toArray, List.getElem_cons_zero, List.getElem_cons_succ]
        go_simp
        refine (N2.out W.drew (fun i hi => cbW i hi)).mono ?_
        rintro e _ ⟨rfl, rfl⟩
        refine hK.out _ _ trivial (fun _ => ?_)
        clear hK K
        try simp only [Act.put, List.getElem_toArray, List.getElem_cons_zero, List.getElem_cons_succ, List.setIfInBounds_toArray, List.set_cons_zero, List.set_cons_succ]
        refine wpAnyH_take (i := 8) (v := .int .i64 (vals x.val)) rfl (by kernel_rfl) (by kernel_rfl) (by kernel_rfl) (fun _ _ _ h => h) (Or.inl ⟨by rfl, ?_⟩) trivial ?_
        · intro w hSw; go_simp
        try simp only [Act.put, List.getElem_toArray, List.getElem_cons_zero, List.getElem_cons_succ, List.setIfInBounds_toArray, List.set_cons_zero, List.set_cons_succ]
        refine wpAnyH_take (i := 9) (v := .agg #[.int .i64 ((x.val : Nat) : Int), .int .i64 (vals x.val)]) rfl (by kernel_rfl) (by kernel_rfl) (by kernel_rfl) (fun _ _ _ h => h) (Or.inl ⟨by rfl, ?_⟩) trivial ?_
        · intro w hSw; go_simp
        try simp only [Act.put, List.getElem_toArray, List.getElem_cons_zero, List.getElem_cons_succ, List.setIfInBounds_toArray, List.set_cons_zero, List.set_cons_succ]
        refine wpAnyH_ready (rs := [10]) (by kernel_rfl) (by simp) ?_
        refine AllReadyH.cons rfl (fun K hK => ?_) AllReadyH.nil
        simp only [List.getElem_toArray, List.getElem_cons_zero, List.getElem_cons_succ]
        go_simp
        refine hK.out _ _ trivial (fun _ => ?_)
        clear hK K
        try simp only [Act.put, List.getElem_toArray, List.getElem_cons_zero, List.getElem_cons_succ, List.setIfInBounds_toArray, List.set_cons_zero, List.set_cons_succ]
        refine wpAnyH_ready (rs := [11]) (by kernel_rfl) (by simp) ?_
        refine AllReadyH.cons rfl (fun K hK => ?_) AllReadyH.nil
        simp only [List.getElem_toArray, List.getElem_cons_zero, List.getElem_cons_succ]
        rw [if_pos (by rfl)]
        refine wp_append_own _ _ _ 65 rfl B 68 i0 _ 2 16 Tryd.underlying65 hi0 hz0 hz1 hz2 rfl (by decide) v pre.length (pL vals pre) rfl (own_drewN (HROW.out.alloc _) 1) ⟨W.heap.size, 0, none⟩ 1 1 [.int .i64 ((x.val : Nat) : Int), .int .i64 (vals x.val)] rfl rfl (cells_new W [.int .i64 ((x.val : Nat) : Int), .int .i64 (vals x.val)] 68) (by simp [Value.oneCell']) (by unfold maxLen; omega) (by omega) (by show B ≤ (W.alloc _).heap.size; simp; omega) ?_
        intro v' w9 hown' hgrow _
        have hgr : (W.alloc (.cells #[.int .i64 ((x.val : Nat) : Int), .int .i64 (vals x.val)] 68)).grownBy w9 v.ownBlock := ⟨hgrow.os, hgrow.tape, hgrow.output, hgrow.size, hgrow.block⟩
        obtain ⟨g', cap', rfl⟩ := ownsRow_succ hown'
        obtain ⟨hv1, hv2, hr2, hk2, hb2⟩ := HV.out.appended (by decide) HROW.out (n₀ := B) (by omega) (by omega) hown' hgr
        have hc1 := hv1.cell
        have hf1 := hv1.frozen
        have FIN := fun (a' : Act) => FN.out _ _ a' hgr ⟨g', cap', rfl⟩ hv2 hr2 hk2 hb2
        clear hv2 hr2 hk2 hb2 hgrow hgr hown'
        refine hK.out _ _ trivial (fun _ => ?_)
        clear hK K
        try simp only [Act.put, List.getElem_toArray, List.getElem_cons_zero, List.getElem_cons_succ, List.setIfInBounds_toArray, List.set_cons_zero, List.set_cons_succ]
        refine wpAnyH_ready (rs := [12]) (by kernel_rfl) (by simp) ?_
        refine AllReadyH.cons rfl (fun K hK => ?_) AllReadyH.nil
        simp only [List.getElem_toArray, List.getElem_cons_zero, List.getElem_cons_succ]
        go_simp
        refine hK.out _ _ trivial (fun _ => ?_)
        refine wpAnyH_done (by kernel_rfl) ?_ _
        exact FIN { tmps := #[], defers := [] }
      · simp only [List.getElem_toArray, List.getElem_cons_zero, List.getElem_cons_succ]
        go_simp
        refine (N2.out W.drew (fun i hi => cbW i hi)).mono ?_
        rintro e _ ⟨rfl, rfl⟩
        refine hK.out _ _ trivial (fun _ => ?_)
        clear hK K
        try simp only [Act.put, List.getElem_toArray, List.getElem_cons_zero, List.getElem_cons_succ, List.setIfInBounds_toArray, List.set_cons_zero, List.set_cons_succ]
        refine wpAnyH_take (i := 8) (v := .int .i64 (vals x.val)) rfl (by kernel_rfl) (by kernel_rfl) (by kernel_rfl) (fun _ _ _ h => h) (Or.inl ⟨by rfl, ?_⟩) trivial ?_
        · intro w hSw; go_simp
        try simp only [Act.put, List.getElem_toArray, List.getElem_cons_zero, List.getElem_cons_succ, List.setIfInBounds_toArray, List.set_cons_zero, List.set_cons_succ]
        refine wpAnyH_take (i := 9) (v := .agg #[.int .i64 ((x.val : Nat) : Int), .int .i64 (vals x.val)]) rfl (by kernel_rfl) (by kernel_rfl) (by kernel_rfl) (fun _ _ _ h => h) (Or.inl ⟨by rfl, ?_⟩) trivial ?_
        · intro w hSw; go_simp
        try simp only [Act.put, List.getElem_toArray, List.getElem_cons_zero, List.getElem_cons_succ, List.setIfInBounds_toArray, List.set_cons_zero, List.set_cons_succ]
        refine wpAnyH_ready (rs := [0, 10]) (by kernel_rfl) (by simp) ?_
        refine AllReadyH.cons rfl (fun K hK => ?_) (AllReadyH.cons rfl (fun K hK => ?_) AllReadyH.nil)
        · simp only [List.getElem_toArray, List.getElem_cons_zero, List.getElem_cons_succ]
          go_simp
          refine hK.out _ _ trivial (fun _ => ?_)
          clear hK K
          try simp only [Act.put, List.getElem_toArray, List.getElem_cons_zero, List.getElem_cons_succ, List.setIfInBounds_toArray, List.set_cons_zero, List.set_cons_succ]
          refine wpAnyH_ready (rs := [10]) (by kernel_rfl) (by simp) ?_
          refine AllReadyH.cons rfl (fun K hK => ?_) AllReadyH.nil
          simp only [List.getElem_toArray, List.getElem_cons_zero, List.getElem_cons_succ]
          go_simp
          refine hK.out _ _ trivial (fun _ => ?_)
          clear hK K
          try simp only [Act.put, List.getElem_toArray, List.getElem_cons_zero, List.getElem_cons_succ, List.setIfInBounds_toArray, List.set_cons_zero, List.set_cons_succ]
          refine wpAnyH_ready (rs := [11]) (by kernel_rfl) (by simp) ?_
          refine AllReadyH.cons rfl (fun K hK => ?_) AllReadyH.nil
          simp only [List.getElem_toArray, List.getElem_cons_zero, List.getElem_cons_succ]
          rw [if_pos (by rfl)]
          refine wp_append_own _ _ _ 65 rfl B 68 i0 _ 2 16 Tryd.underlying65 hi0 hz0 hz1 hz2 rfl (by decide) v pre.length (pL vals pre) rfl (own_drewN (HROW.out.alloc _) 1) ⟨W.heap.size, 0, none⟩ 1 1 [.int .i64 ((x.val : Nat) : Int), .int .i64 (vals x.val)] rfl rfl (cells_new W [.int .i64 ((x.val : Nat) : Int), .int .i64 (vals x.val)] 68) (by simp [Value.oneCell']) (by unfold maxLen; omega) (by omega) (by show B ≤ (W.alloc _).heap.size; simp; omega) ?_
          intro v' w9 hown' hgrow _
          have hgr : (W.alloc (.cells #[.int .i64 ((x.val : Nat) : Int), .int .i64 (vals x.val)] 68)).grownBy w9 v.ownBlock := ⟨hgrow.os, hgrow.tape, hgrow.output, hgrow.size, hgrow.block⟩
          obtain ⟨g', cap', rfl⟩ := ownsRow_succ hown'
          obtain ⟨hv1, hv2, hr2, hk2, hb2⟩ := HV.out.appended (by decide) HROW.out (n₀ := B) (by omega) (by omega) hown' hgr
          have hc1 := hv1.cell
          have hf1 := hv1.frozen
          have FIN := fun (a' : Act) => FN.out _ _ a' hgr ⟨g', cap', rfl⟩ hv2 hr2 hk2 hb2
          clear hv2 hr2 hk2 hb2 hgrow hgr hown'
          refine hK.out _ _ trivial (fun _ => ?_)
          clear hK K
          try simp only [Act.put, List.getElem_toArray, List.getElem_cons_zero, List.getElem_cons_succ, List.setIfInBounds_toArray, List.set_cons_zero, List.set_cons_succ]
          refine wpAnyH_ready (rs := [12]) (by kernel_rfl) (by simp) ?_
          refine AllReadyH.cons rfl (fun K hK => ?_) AllReadyH.nil
          simp only [List.getElem_toArray, List.getElem_cons_zero, List.getElem_cons_succ]
          go_simp
          refine hK.out _ _ trivial (fun _ => ?_)
          refine wpAnyH_done (by kernel_rfl) ?_ _
          exact FIN { tmps := #[], defers := [] }
        · simp only [List.getElem_toArray, List.getElem_cons_zero, List.getElem_cons_succ]
          go_simp
          refine hK.out _ _ trivial (fun _ => ?_)
          clear hK K
          try simp only [Act.put, List.getElem_toArray, List.getElem_cons_zero, List.getElem_cons_succ, List.setIfInBounds_toArray, List.set_cons_zero, List.set_cons_succ]
          refine wpAnyH_ready (rs := [0]) (by kernel_rfl) (by simp) ?_
          refine AllReadyH.cons rfl (fun K hK => ?_) AllReadyH.nil
          simp only [List.getElem_toArray, List.getElem_cons_zero, List.getElem_cons_succ]
          go_simp
          refine hK.out _ _ trivial (fun _ => ?_)
          clear hK K
          try simp only [Act.put, List.getElem_toArray, List.getElem_cons_zero, List.getElem_cons_succ, List.setIfInBounds_toArray, List.set_cons_zero, List.set_cons_succ]
          refine wpAnyH_ready (rs := [11]) (by kernel_rfl) (by simp) ?_
          refine AllReadyH.cons rfl (fun K hK => ?_) AllReadyH.nil
          simp only [List.getElem_toArray, List.getElem_cons_zero, List.getElem_cons_succ]
          rw [if_pos (by rfl)]
          refine wp_append_own _ _ _ 65 rfl B 68 i0 _ 2 16 Tryd.underlying65 hi0 hz0 hz1 hz2 rfl (by decide) v pre.length (pL vals pre) rfl (own_drewN (HROW.out.alloc _) 1) ⟨W.heap.size, 0, none⟩ 1 1 [.int .i64 ((x.val : Nat) : Int), .int .i64 (vals x.val)] rfl rfl (cells_new W [.int .i64 ((x.val : Nat) : Int), .int .i64 (vals x.val)] 68) (by simp [Value.oneCell']) (by unfold maxLen; omega) (by omega) (by show B ≤ (W.alloc _).heap.size; simp; omega) ?_
          intro v' w9 hown' hgrow _
          have hgr : (W.alloc (.cells #[.int .i64 ((x.val : Nat) : Int), .int .i64 (vals x.val)] 68)).grownBy w9 v.ownBlock := ⟨hgrow.os, hgrow.tape, hgrow.output, hgrow.size, hgrow.block⟩
          obtain ⟨g', cap', rfl⟩ := ownsRow_succ hown'
          obtain ⟨hv1, hv2, hr2, hk2, hb2⟩ := HV.out.appended (by decide) HROW.out (n₀ := B) (by omega) (by omega) hown' hgr
          have hc1 := hv1.cell
          have hf1 := hv1.frozen
          have FIN := fun (a' : Act) => FN.out _ _ a' hgr ⟨g', cap', rfl⟩ hv2 hr2 hk2 hb2
          clear hv2 hr2 hk2 hb2 hgrow hgr hown'
          refine hK.out _ _ trivial (fun _ => ?_)
          clear hK K
          try simp only [Act.put, List.getElem_toArray, List.getElem_cons_zero, List.getElem_cons_succ, List.setIfInBounds_toArray, List.set_cons_zero, List.set_cons_succ]
          refine wpAnyH_ready (rs := [12]) (by kernel_rfl) (by simp) ?_
          refine AllReadyH.cons rfl (fun K hK => ?_) AllReadyH.nil
          simp only [List.getElem_toArray, List.getElem_cons_zero, List.getElem_cons_succ]
          go_simp
          refine hK.out _ _ trivial (fun _ => ?_)
          refine wpAnyH_done (by kernel_rfl) ?_ _
          exact FIN { tmps := #[], defers := [] }
  case done =>
    rintro D2 ys W hD2 rfl ⟨⟨v, hv, hrow, _⟩, ⟨hx0, hx1⟩, _, hO, hBW⟩ hK
    subst hact
    rw [chL_len 8 (by omega)] at hrow
    obtain ⟨g, cap, rfl⟩ := ownsRow_succ (k := 7) hrow
    obtain ⟨hpl, hcap⟩ := pl_of hrow
    have VA := Lib.hid (valid_pl hpl hcap)
    have cv2 := hv.cell
    have hbv := hv.lt
    have HV := Lib.hid hv; have HROW := Lib.hid hrow; have HX0 := Lib.hid hx0; have HX1 := Lib.hid hx1; have HK := Lib.hid hK; have HBW := Lib.hid hBW; have HD2 := Lib.hid hD2
    clear hv hrow hx0 hx1 hO hK hBW hpl hD2
    go_wp2_with (fail)
    refine VA.out.mono ?_
    rintro e w7 ⟨rfl, b7⟩
    have HV7 : Hid (Boxed w7 (B + 1 + 1) 65 (.slice (some ⟨g, 0, none⟩) 8 cap)) := Lib.hid (below_keeps b7 HV.out HV.out.lt)
    have HX7 : Hid (Boxed w7 B 65 (.slice none 0 0)) := Lib.hid (below_keeps b7 HX0.out HX0.out.lt)
    have HY7 : Hid (Boxed w7 (B + 1) 41 (.int .i64 0)) := Lib.hid (below_keeps b7 HX1.out HX1.out.lt)
    have HK7 := Lib.hid (below_keeps b7 HK.out (Array.getElem?_eq_some_iff.1 HK.out).1)
    have HR7 := Lib.hid (own_calm HROW.out b7)
    have HB7 := Lib.hid (HBW.out.trans (b7.mono HBW.out.size))
    have cv7 := Boxed.cell HV7.out
    have f0 := Boxed.frozen HX7.out
    have f1 := Boxed.frozen HY7.out
    have x0 := Boxed.cell HX7.out
    have x1 := Boxed.cell HY7.out
    clear b7 VA
    go_wp2_with (fail)
    have hd2 := HD2.out; have h6 := C6.out
    refine dec_fin (L := W6.heap.size) _ rfl rfl (by omega) hd2 ?_ ((HX7.out.set _).other (by omega) _) ((HY7.out.other (by omega) _).set _) ?_
    · exact (Below.heap_setCell _ _ _ _ (by show D2 ≠ B + 1; omega)).trans ((Below.heap_setCell _ _ _ _ (by show D2 ≠ B; omega)).trans HK7.out)
    · intro W' hW'
      have m1 : Mod (fun j => j = B ∨ j = B + 1) w7 ((w7.setCell ⟨B, 0, none⟩ (.slice (some ⟨g, 0, none⟩) 8 cap)).setCell ⟨B + 1, 0, none⟩ (.int .i64 0)) := ((Mod.refl _ _).setCell (Or.inl (Or.inl rfl)) _).setCell (Or.inl (Or.inr rfl)) _
      have n0 := own_ne_obj HR7.out HX7.out (by decide)
      have n1 := own_ne_obj HR7.out HY7.out (by decide)
      have o2 := own_mod HR7.out m1 (fun j hj e => by rcases e with rfl | rfl; exact n0 hj; exact n1 hj)
      have m2 := Mod.trans (S := fun k => k = D2) (Mod.refl _ _) (show Mod (fun k => k = D2) _ W' from ⟨hW'.os, hW'.tape, hW'.output, hW'.size, fun k hk hs => hW'.block k hk (fun e => hs (by cases e; rfl))⟩) (fun _ _ h => h)
      have hgD : g ≠ D2 := by
        rintro rfl
        obtain ⟨cur, hcur, _⟩ := own_block HR7.out
        have := HK7.out.symm.trans hcur
        cases this
      have o3 := own_mod o2 m2 (fun j hj e => by simp [Value.ownBlock] at hj; omega)
      refine ⟨_, rfl, ?_, ?_⟩
      · rw [← HB.out]; exact o3
      · exact ((HB7.out.setCell (p := ⟨B, 0, none⟩) hwB _).setCell (p := ⟨B + 1, 0, none⟩) (by show w.heap.size ≤ B + 1; omega) _).trans (m2.below (by have := m1.size; have := HB7.out.size; omega) (fun k e => by subst e; omega))
  case stop =>
    rintro D c pre W _ _ h _
    exact h.elim
set_option maxRecDepth 100000 in
set_option maxHeartbeats 3200000 in
theorem decode_nil (w : World) : Calls Tryd.prog 60 #[.string emp] w fun e w' => e = .returned (.tuple #[.slice none 0 0, .int .i64 0]) ∧ Below w.heap.size w w' := by
  unfold emp
  obtain ⟨W3, hW3⟩ : ∃ W3, W3 = ((w.alloc (.cells #[.slice none 0 0] 65)).alloc (.cells #[.int .i64 0] 41)).alloc (.cells #[.slice none 0 0] 65) := ⟨_, rfl⟩
  obtain ⟨c, w4, cv, hc1, hc2, b4, l4, _, _⟩ := conv_bytes ⟨#[]⟩ (by decide) W3
  rw [show (⟨#[]⟩ : ByteArray).size = 0 from rfl] at cv
  have hs3 : W3.heap.size = w.heap.size + 3 := by rw [hW3]; simp
  have B4 := Lib.hid b4
  have HW3 := Lib.hid hW3
  have VA := Lib.hid (fun w => valid_nil w)
  clear b4
  rw [hW3] at cv
  clear hW3
  refine (callsIn_wide (n := 5)).1 ?_
  refine callsIn_of_wp_marks Tryd.func60 rfl trivial ?_ rfl
  simp only [Tryd.ntmps60, List.size_toArray, List.length_cons, List.length_nil, Nat.reduceAdd, Nat.reduceSub, Array.replicate_succ, Array.replicate_zero, List.push_toArray, List.append_toArray, List.nil_append, List.cons_append]
  refine wpIn_wide.2 ?_
  go_wp2_with (fail)
  refine (chunk_any _ _ _ w4).mono ?_
  rintro e w5 ⟨rfl, h5⟩
  go_wp2_with (fail)
  refine (wpIn_wide (n := 5)).1 ?_
  obtain ⟨B, hB⟩ : ∃ B, B = w.heap.size := ⟨_, rfl⟩
  obtain ⟨D, hD⟩ : ∃ D, D = w4.heap.size := ⟨_, rfl⟩
  obtain ⟨W6, hW6⟩ : ∃ W6, W6 = (w4.alloc (.cells #[.slice (some ⟨w.heap.size + 1 + 1 + 1, 0, none⟩) 0 c] 137)).alloc (.cells #[.int .i64 10] 3) := ⟨_, rfl⟩
  have bS : Boxed W6 D 137 (.slice (some ⟨B + 1 + 1 + 1, 0, none⟩) 0 c) := by rw [hW6, hD, hB]; exact (Boxed.new w4 137 _).alloc _
  have c6 : W6.heap.size = D + 2 := by rw [hW6, hD]; simp [World.size_alloc]
  have b46 : Below w4.heap.size w4 W6 := by rw [hW6]; exact bl_alloc (bl_alloc (Below.refl _ _) _) _
  have hD4 : B + 1 + 1 + 1 < D := by omega
  have bx : Boxed W6 B 65 (.slice none 0 0) ∧ Boxed W6 (B + 1) 41 (.int .i64 0) ∧ Boxed W6 (B + 1 + 1) 65 (.slice none 0 0) ∧ Below w.heap.size w W6 := by
    have x0 : Boxed W3 B 65 (.slice none 0 0) := by rw [HW3.out, hB]; exact ((Boxed.new w 65 _).alloc _).alloc _
    have x1 : Boxed W3 (B + 1) 41 (.int .i64 0) := by
      rw [HW3.out, hB]; have := (Boxed.new (w.alloc (.cells #[.slice none 0 0] 65)) 41 (.int .i64 0)).alloc (.cells #[.slice none 0 0] 65); rw [World.size_alloc] at this; exact this
    have x2 : Boxed W3 (B + 1 + 1) 65 (.slice none 0 0) := by
      rw [HW3.out, hB]; have := Boxed.new ((w.alloc (.cells #[.slice none 0 0] 65)).alloc (.cells #[.int .i64 0] 41)) 65 (.slice none 0 0); rw [World.size_alloc, World.size_alloc] at this; exact this
    have g : ∀ k o, W3.heap[k]? = some o → W6.heap[k]? = some o := fun k o h => below_keeps b46 (below_keeps B4.out h (lt_of_obj h)) (by have := lt_of_obj h; omega)
    refine ⟨g _ _ x0, g _ _ x1, g _ _ x2, ?_⟩
    have : Below w.heap.size w W3 := by rw [HW3.out]; exact bl_alloc (bl_alloc (bl_alloc (Below.refl _ _) _) _) _
    exact (this.trans (B4.out.mono this.size)).trans (b46.mono (by omega))
  have BX := Lib.hid bx
  have HB := Lib.hid hB
  have HD := Lib.hid hD
  have C6 := Lib.hid c6
  have hs6 : D + 1 < W6.heap.size := by omega
  have hwB : w.heap.size ≤ B := by omega
  have hwB' : w.heap.size ≤ W6.heap.size := by omega
  have S3 := Lib.hid hs3
  have CV := Lib.hid cv
  rw [← hW6, ← hB, ← hD]
  clear h5 hW6 bx hB hD c6 hs3 cv
  generalize hact : ({ tmps := _, defers := [] } : Act) = act
  refine wpIn_rangeFunc_ownG rfl (show 1 ≤ 5 by omega) (gf := 88) (lb := #[.pointer (some ⟨D, 0, none⟩), .pointer (some ⟨D + 1, 0, none⟩)]) (by rw [← hact]; rfl) trivial (enters_of Tryd.func88 (by kernel_rfl) rfl)
    (chunk0_stops 4 (show 1 ≤ 4 by omega) D (some ⟨B + 1 + 1 + 1, 0, none⟩) c W6 hs6 bS.cell) keep2_t (keep2_b hs6) (Below.refl _ _) (fun _ => rfl)
    (fun (pre : List Ch) W => (Boxed W B 65 (.slice none 0 0) ∧ Boxed W (B + 1) 41 (.int .i64 0) ∧ Boxed W (B + 1 + 1) 65 (.slice none 0 0)) ∧ Below w.heap.size w W)
    (fun _ _ _ => False)
    ?hI
    (fun _ _ _ _ _ hs _ _ => hs)
    ⟨⟨BX.out.1, BX.out.2.1, BX.out.2.2.1⟩, BX.out.2.2.2⟩
    (fun x => { tmps := (act.tmps.setIfInBounds 9 .nilIface).setIfInBounds 5 .nilIface, defers := [] }) ?assign ?body ?done ?stop
  case hI =>
    exact OwnFrom.and (OwnFrom.and ((boxed_own B 65 (fun _ => .slice none 0 0)).from _) (OwnFrom.and ((boxed_own (B + 1) 41 (fun _ => .int .i64 0)).from _) ((boxed_own (B + 1 + 1) 65 (fun _ => .slice none 0 0)).from _))) (ownFrom_below (Nat.le_refl _) hwB')
  case assign =>
    intro l x W K hK
    subst hact
    simp only [List.setIfInBounds_toArray, List.set_cons_succ, List.set_cons_zero] at hK
    gi_wp2
    exact hK
  case body =>
    intro l pre x W _ hlt
    exact absurd hlt (Nat.not_lt_zero _)
  case done =>
    rintro D2 ys W hD2 rfl ⟨⟨hx0, hx1, hv⟩, hBW⟩ hK
    subst hact
    have cv2 := hv.cell
    have hbv := hv.lt
    have f0 := hx0.frozen
    have f1 := hx1.frozen
    have x0 := hx0.cell
    have x1 := hx1.cell
    have HX0 := Lib.hid hx0; have HX1 := Lib.hid hx1; have HK := Lib.hid hK; have HBW := Lib.hid hBW; have HD2 := Lib.hid hD2
    clear hv hx0 hx1 hK hBW hD2
    go_wp2_with (fail)
    refine (VA.out _).mono ?_
    rintro e _ ⟨rfl, rfl⟩
    go_wp2_with (fail)
    have hd2 := HD2.out; have h6 := C6.out
    refine dec_fin (L := W6.heap.size) _ rfl rfl (by omega) hd2 ?_ ((HX0.out.set _).other (by omega) _) ((HX1.out.other (by omega) _).set _) ?_
    · exact (Below.heap_setCell _ _ _ _ (by show D2 ≠ B + 1; omega)).trans ((Below.heap_setCell _ _ _ _ (by show D2 ≠ B; omega)).trans HK.out)
    · intro W' hW'
      have m2 := Mod.trans (S := fun k => k = D2) (Mod.refl _ _) (show Mod (fun k => k = D2) _ W' from ⟨hW'.os, hW'.tape, hW'.output, hW'.size, fun k hk hs => hW'.block k hk (fun e => hs (by cases e; rfl))⟩) (fun _ _ h => h)
      refine ⟨rfl, ((HBW.out.setCell (p := ⟨B, 0, none⟩) hwB _).setCell (p := ⟨B + 1, 0, none⟩) (by show w.heap.size ≤ B + 1; omega) _).trans (m2.below ?_ (fun k e => by subst e; omega))⟩
      have := HBW.out.size
      simpa [World.setCell] using this
  case stop =>
    rintro D c pre W _ _ h _
    exact h.elim
end Go.Proofs.YtdebfniifijjoaaDoor
