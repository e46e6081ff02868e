/-
  The bits of a field: what the iterator each$1 hands out, inside a fence, where a round keeps its boxes; and check. Conditions: those that each theorem names.
-/
import Derived.RangeFuncNested
import Derived.RangeFuncBound
import Derived.RangeFuncCalls
import Derived.RangeFuncLeaves
import Derived.RangeFuncBox
import Derived.Shelf.Abstract
import Derived.Shelf.RegionOpen
import Derived.WalkKit
import Derived.OwnWalkIn
import Derived.TacticsInMore
import Derived.LoopNIn
import Derived.LoopIn
import Derived.Maps.AppendAt
import Derived.Laws.BitsAllLaws
import Derived.Test.YtjeaccpocpfkgaaKitc
import Derived.Test.YtjeaccpocpfkgaaBits
import Derived.Test.YtjeaccpocpfkgaaProg
namespace Go.Proofs.Ytjeaccpocpfkgaa
open Go.RowKit Go.Shelf Kit
attribute [local go_sem] Oper.semAt_some
set_option linter.unusedVariables false
/-- A string's bytes, as numbers. -/
def lst (d : ByteArray) : List Nat := d.data.toList.map UInt8.toNat
theorem lst_len (d : ByteArray) : (lst d).length = d.size := by simp [lst]
theorem lst_ok (d : ByteArray) : okL (lst d) := by
  intro c hc
  simp [lst] at hc
  obtain ⟨x, _, rfl⟩ := hc
  exact UInt8.toNat_lt x
theorem lst_get (d : ByteArray) (i : Nat) (h : i < d.size) : (lst d).getD i 0 = (d[i]'h).toNat := by
  unfold lst
  rw [List.getD_eq_getElem?_getD, List.getElem?_map, List.getElem?_eq_getElem (by simpa using h)]
  rfl
/-- The error of a field. -/
def chk (n a w : Int) : Int := if 65536 < n then 3 else if w < 1 ∨ 64 < w ∨ a < 0 ∨ 8 * n - w < a then 2 else 0
theorem chk_in {n a w : Int} (h : chk n a w = 0) : n ≤ 65536 ∧ 1 ≤ w ∧ w ≤ 64 ∧ 0 ≤ a ∧ a + w ≤ 8 * n := by
  unfold chk at h
  split at h
  · omega
  · split at h
    · omega
    · omega
theorem check_any (b : ByteArray) (a wd : Int) (w : World) (hb : b.size ≤ maxLen) : Calls Try.prog 29 #[.string b, .int .i64 a, .int .i64 wd] w fun e w' => e = .returned (.int .i64 (chk b.size a wd)) ∧ w = w' := by
  unfold maxLen at hb
  obtain ⟨R, hR⟩ : ∃ R, Hid (chk b.size a wd = R) := ⟨_, Lib.hid rfl⟩
  rw [hR.out]
  by_cases h1 : (65536 : Int) < (b.size : Int)
  · have hz : R = 3 := by rw [← hR.out]; unfold chk; rw [if_pos h1]
    subst hz
    go_enter Try.func29, Try.ntmps29
    go_wp2_with (fail)
    go_ret
    exact ⟨rfl, rfl⟩
  · by_cases h2 : wd < 1 ∨ 64 < wd ∨ a < 0 ∨ 8 * (b.size : Int) - wd < a
    · have hz : R = 2 := by rw [← hR.out]; unfold chk; rw [if_neg h1, if_pos h2]
      subst hz
      by_cases c1 : wd < 1
      · go_enter Try.func29, Try.ntmps29
        go_wp2_with (fail)
        go_ret
        exact ⟨rfl, rfl⟩
      · by_cases c2 : 64 < wd
        · go_enter Try.func29, Try.ntmps29
          go_wp2_with (fail)
          go_ret
          exact ⟨rfl, rfl⟩
        · by_cases c3 : a < 0
          · go_enter Try.func29, Try.ntmps29
            go_wp2_with (fail)
            go_ret
            exact ⟨rfl, rfl⟩
          · have c4 : 8 * (b.size : Int) - wd < a := by omega
            clear h2
            go_enter Try.func29, Try.ntmps29
            go_wp2_with (fail)
            go_ret
            exact ⟨rfl, rfl⟩
    · have hz : R = 0 := by rw [← hR.out]; unfold chk; rw [if_neg h1, if_neg h2]
      subst hz
      have c1 : ¬ wd < 1 := fun h => h2 (.inl h)
      have c2 : ¬ 64 < wd := fun h => h2 (.inr (.inl h))
      have c3 : ¬ a < 0 := fun h => h2 (.inr (.inr (.inl h)))
      have c4 : ¬ 8 * (b.size : Int) - wd < a := fun h => h2 (.inr (.inr (.inr h)))
      clear h2
      go_enter Try.func29, Try.ntmps29
      go_wp2_with (fail)
      go_ret
      exact ⟨rfl, rfl⟩
abbrev Bit := { x : Nat // x < 2 }
def bitL (d : ByteArray) (a k : Nat) : List Bit := (List.range k).map fun i => ⟨bitOf (lst d) (a + i), bitOf_lt _ _⟩
theorem bitL_succ (d : ByteArray) (a k : Nat) : bitL d a (k + 1) = bitL d a k ++ [⟨bitOf (lst d) (a + k), bitOf_lt _ _⟩] := by
  simp [bitL, List.range_succ]
theorem bitL_length (d : ByteArray) (a k : Nat) : (bitL d a k).length = k := by simp [bitL]
/-- Three blocks lie as they lay. -/
def Keep3 (Bn : Nat) (W W' : World) : Prop := W'.heap[Bn]? = W.heap[Bn]? ∧ W'.heap[Bn + 1]? = W.heap[Bn + 1]? ∧ W'.heap[Bn + 2]? = W.heap[Bn + 2]?
theorem Keep3.cell {Bn b i : Nat} {W W' : World} (h : Keep3 Bn W W') (hb : b = Bn ∨ b = Bn + 1 ∨ b = Bn + 2) {v : Value} (c : W.cell? ⟨b, i, none⟩ = some v) : W'.cell? ⟨b, i, none⟩ = some v := by
  rw [← c]
  obtain ⟨h1, h2, h3⟩ := h
  unfold World.cell?
  rcases hb with rfl | rfl | rfl
  · simp only [h1]
  · simp only [h2]
  · simp only [h3]
theorem keep3_t {Bn : Nat} {A B C : World} (h : Keep3 Bn A B) (h' : Keep3 Bn B C) : Keep3 Bn A C := ⟨h'.1.trans h.1, h'.2.1.trans h.2.1, h'.2.2.trans h.2.2⟩
theorem keep3_b {Bn : Nat} {w : World} (hlt : Bn + 2 < w.heap.size) (W : World) (l : Nat) (o o' : Obj) (hl : w.heap.size ≤ l) (hg : W.heap[l]? = some o) (h1 : o.isCells = false) (h2 : o.isWalk = false) : Keep3 Bn W (W.putObj l o') :=
  ⟨World.putObj_heap_other (by omega), World.putObj_heap_other (by omega), World.putObj_heap_other (by omega)⟩
theorem and1 : ∀ m : Fin 256, bits BinOp.and IntKind.u64 (m.val : Int) 1 = ((m.val % 2 : Nat) : Int) := by decide +kernel
theorem bit_in (d : ByteArray) (k : Nat) (hb : k / 8 < d.size) : bits BinOp.and IntKind.u64 (IntKind.u64.wrap (((d[k / 8]'hb).toNat : Int) / 2 ^ (7 - k % 8))) 1 = ((bitOf (lst d) k : Nat) : Int) := by
  have e1 : bitOf (lst d) k = (d[k / 8]'hb).toNat / 2 ^ (7 - k % 8) % 2 := by
    unfold bitOf; rw [lst_get d _ hb]
  have hlt : (d[k / 8]'hb).toNat < 256 := UInt8.toNat_lt _
  have hq : (d[k / 8]'hb).toNat / 2 ^ (7 - k % 8) ≤ (d[k / 8]'hb).toNat := Nat.div_le_self _ _
  have e2 : (((d[k / 8]'hb).toNat : Int) / 2 ^ (7 - k % 8)) = (((d[k / 8]'hb).toNat / 2 ^ (7 - k % 8) : Nat) : Int) := by
    rw [Int.natCast_ediv]; simp
  rw [e2, e1]
  generalize (d[k / 8]'hb).toNat / 2 ^ (7 - k % 8) = m at *
  rw [show IntKind.u64.wrap (m : Int) = (m : Int) by rw [IntKind.wrap_u64]; omega]
  exact and1 ⟨m, by omega⟩
set_option maxHeartbeats 1600000 in
theorem each1_in (F : Fence) (n : Nat) (h46 : F.fn 46) (hro : F.round = none) (hn : 1 ≤ n) (l Bn : Nat) (d : ByteArray) (hd : d.size ≤ 65536) (a wd : Nat) (haw : a + wd ≤ 8 * d.size) (J Jx : List Bit → World → Prop)
    (hY : ∀ pre x W, J pre W → pre.length < wd → YieldAt F (n - 1) Try.prog l #[.int .u64 ((x.1 : Nat) : Int)] W fun e W' =>
      (e = .returned (.bool true) ∧ J (pre ++ [x]) W' ∧ Keep3 Bn W W') ∨ (e = .returned (.bool false) ∧ Jx (pre ++ [x]) W'))
    (W : World) (c0 : W.cell? ⟨Bn + 1, 0, none⟩ = some (.int .i64 a)) (c1 : W.cell? ⟨Bn + 2, 0, none⟩ = some (.int .i64 wd)) (c2 : W.cell? ⟨Bn, 0, none⟩ = some (.string d)) (h0 : J [] W) :
    CallsIn F n Try.prog 46 #[.func (.yield l) #[] #[], .pointer (some ⟨Bn + 1, 0, none⟩), .pointer (some ⟨Bn + 2, 0, none⟩), .pointer (some ⟨Bn, 0, none⟩)] W fun e W' => (∃ v, e = .returned v) ∧
      ((∃ ys, ys = bitL d a wd ∧ J ys W') ∨ (∃ pre : List Bit, True ∧ Jx pre W')) := by
  refine callsIn_of_wp Try.func46 rfl h46 ?_ hro
  simp only [Try.ntmps46, List.size_toArray, List.length_cons, List.length_nil, Nat.reduceAdd, Nat.reduceSub, Array.replicate_succ, Array.replicate_zero, List.push_toArray, List.append_toArray, List.nil_append, List.cons_append]
  gi_wp2
  gi_loopw [5] (fun i wr => ∃ k m : Nat, k ≤ wd ∧ m = a + k ∧ i = .int .i64 m ∧ wr.cell? ⟨Bn + 1, 0, none⟩ = some (.int .i64 a) ∧ wr.cell? ⟨Bn + 2, 0, none⟩ = some (.int .i64 wd) ∧ wr.cell? ⟨Bn, 0, none⟩ = some (.string d) ∧ J (bitL d a k) wr)
    (fun i _ => a + wd - (intOf i).toNat)
  case atStart => exact ⟨0, a, by omega, by omega, rfl, c0, c1, c2, h0⟩
  case round =>
    clear c0 c1 c2
    obtain ⟨k, i, hk, hi, rfl, c0, c1, c2, hJs⟩ := hrel
    by_cases hend : k = wd
    · subst hend
      have HI := Lib.hid hi
      have hle : ¬ ((i : Int) < (a : Int) + (k : Int)) := by omega
      clear hi
      gi_wp2
      refine bodyPost_end (results_none rfl _ _ _) rfl ?_
      exact ⟨⟨_, rfl⟩, .inl hJs⟩
    · have hk' : k < wd := by omega
      obtain ⟨fn, tmps, assign, body, hy, hR⟩ := hY (bitL d a k) ⟨bitOf (lst d) (a + k), bitOf_lt _ _⟩ wr hJs (by rw [bitL_length]; exact hk')
      simp only at hy
      rw [← bitL_succ] at hR
      rw [← hi] at hy
      have hb : i / 8 < d.size := by omega
      have hlt : (i : Int) < (a : Int) + (wd : Int) := by omega
      have hi2 : i < 524288 := by omega
      have e := bit_in d i hb
      have HI := Lib.hid hi
      have HR := Lib.hid hR; clear hR
      have HJ := Lib.hid hJs; clear hJs
      clear hend hi
      gi_wp2
      refine HR.out.mono ?_
      rintro e W' (⟨rfl, hJ', hk3⟩ | ⟨rfl, hJx'⟩)
      · have c0' := hk3.cell (by omega) c0
        have c1' := hk3.cell (by omega) c1
        have c2' := hk3.cell (by omega) c2
        gi_wp2
        go_roundw
        case rel => exact ⟨k + 1, i + 1, by omega, by have := HI.out; omega, by go_num, c0', c1', c2', hJ'⟩
        case measure => simp [intOf]; have := HI.out; omega
      · gi_wp2
        refine bodyPost_ret (results_none rfl _ _ _) rfl ?_
        exact ⟨⟨_, rfl⟩, .inr ⟨_, trivial, hJx'⟩⟩
theorem each1_stops (n : Nat) (hn : 1 ≤ n) (Bn : Nat) (d : ByteArray) (hd : d.size ≤ 65536) (a wd : Nat) (haw : a + wd ≤ 8 * d.size) (w : World) (hBn : Bn + 2 < w.heap.size)
    (c0 : w.cell? ⟨Bn + 1, 0, none⟩ = some (.int .i64 a)) (c1 : w.cell? ⟨Bn + 2, 0, none⟩ = some (.int .i64 wd)) (c2 : w.cell? ⟨Bn, 0, none⟩ = some (.string d)) :
    SeqStopsK Fence.wide n Try.prog 46 #[.pointer (some ⟨Bn + 1, 0, none⟩), .pointer (some ⟨Bn + 2, 0, none⟩), .pointer (some ⟨Bn, 0, none⟩)] (fun x : Bit => #[Value.int .u64 ((x.1 : Nat) : Int)]) (Keep3 Bn) (fun xs => xs = bitL d a wd) (fun _ => True) wd w := fun l J Jx W hW _ _ hY h0 =>
  each1_in Fence.wide n trivial rfl hn l Bn d hd a wd haw J Jx hY W ((hW.cell (p := ⟨Bn + 1, 0, none⟩) (by show Bn + 1 < _; omega)).trans c0) ((hW.cell (p := ⟨Bn + 2, 0, none⟩) hBn).trans c1) ((hW.cell (p := ⟨Bn, 0, none⟩) (by show Bn < _; omega)).trans c2) h0
theorem each_any (d : ByteArray) (a wd : Int) (w : World) :
    Calls Try.prog 30 #[.string d, .int .i64 a, .int .i64 wd] w fun e w' => e = .returned (.func (.func 46) #[] #[.pointer (some ⟨w.heap.size + 1, 0, none⟩), .pointer (some ⟨w.heap.size + 1 + 1, 0, none⟩), .pointer (some ⟨w.heap.size, 0, none⟩)]) ∧ w' = ((w.alloc (.cells #[.string d] 9)).alloc (.cells #[.int .i64 a] 3)).alloc (.cells #[.int .i64 wd] 3) := by
  go_enter Try.func30, Try.ntmps30
  go_wp2_with (fail)
  go_ret
  exact ⟨rfl, rfl⟩
end Go.Proofs.Ytjeaccpocpfkgaa
