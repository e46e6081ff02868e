/-
  The tail bits of a message: what the iterator bits$1 hands out, inside a fence, where a round keeps its box. Conditions: those that each theorem names.
-/
import Derived.RangeFuncNested
import Derived.RangeFuncBound
import Derived.RangeFuncCalls
import Derived.RangeFuncLeaves
import Derived.RangeFuncBox
import Derived.Shelf.Abstract
import Derived.Shelf.RegionOpen
import Derived.WalkKit
import Derived.OwnWalkIn
import Derived.TacticsInMore
import Derived.LoopNIn
import Derived.LoopIn
import Derived.Maps.AppendAt
import Derived.Test.YtbfgpjpfhbbdfaaTrellis
namespace Go.Proofs.Ytbfgpjpfhbbdfaa
open Go.RowKit Go.Shelf Kit
attribute [local go_sem] Oper.semAt_some
set_option linter.unusedVariables false

/-- Bit i of a message and of its tail. -/
def bitAt (d : ByteArray) (i : Nat) : Nat := if i / 8 < d.size then (d.data.toList.getD (i / 8) 0).toNat / 2 ^ (7 - i % 8) % 2 else 0
theorem bitAt_lt (d : ByteArray) (i : Nat) : bitAt d i < 2 := by unfold bitAt; split <;> omega
abbrev Bit := { x : Nat // x < 2 }
def bitL (d : ByteArray) (k : Nat) : List Bit := (List.range k).map fun i => ⟨bitAt d i, bitAt_lt d i⟩
theorem bitL_succ (d : ByteArray) (k : Nat) : bitL d (k + 1) = bitL d k ++ [⟨bitAt d k, bitAt_lt d k⟩] := by
  simp [bitL, List.range_succ]
theorem bitL_length (d : ByteArray) (k : Nat) : (bitL d k).length = k := by simp [bitL]

theorem and1 : ∀ m : Fin 256, bits BinOp.and IntKind.i64 (m.val : Int) 1 = ((m.val % 2 : Nat) : Int) := by decide +kernel
theorem bit_in (d : ByteArray) (k : Nat) (hb : k / 8 < d.size) : bits BinOp.and IntKind.i64 (wrap64 (((d[k / 8]'hb).toNat : Int) / 2 ^ (7 - k % 8))) 1 = ((bitAt d k : Nat) : Int) := by
  have e1 : bitAt d k = (d[k / 8]'hb).toNat / 2 ^ (7 - k % 8) % 2 := by
    unfold bitAt
    rw [if_pos hb]
    have : d.data.toList.getD (k / 8) 0 = d[k / 8]'hb := by
      rw [List.getD_eq_getElem?_getD, List.getElem?_eq_getElem (by simpa using hb)]; rfl
    rw [this]
  have hlt : (d[k / 8]'hb).toNat < 256 := UInt8.toNat_lt _
  have hq : (d[k / 8]'hb).toNat / 2 ^ (7 - k % 8) ≤ (d[k / 8]'hb).toNat := Nat.div_le_self _ _
  have e2 : (((d[k / 8]'hb).toNat : Int) / 2 ^ (7 - k % 8)) = (((d[k / 8]'hb).toNat / 2 ^ (7 - k % 8) : Nat) : Int) := by
    rw [Int.natCast_ediv]; simp
  rw [e2, e1]
  generalize (d[k / 8]'hb).toNat / 2 ^ (7 - k % 8) = m at *
  have e3 : wrap64 (m : Int) = (m : Int) := IntWalk.wrap64_in _ ⟨by omega, by omega⟩
  rw [e3]
  exact and1 ⟨m, by omega⟩
/-- Block Bn lies as it lay. -/
def KeepAt (Bn : Nat) (W W' : World) : Prop := W'.heap[Bn]? = W.heap[Bn]?
theorem KeepAt.cell {Bn i : Nat} {W W' : World} (h : KeepAt Bn W W') {v : Value} (c : W.cell? ⟨Bn, i, none⟩ = some v) : W'.cell? ⟨Bn, i, none⟩ = some v := by
  rw [← c]; unfold World.cell?; simp only [show W'.heap[Bn]? = _ from h]
theorem keepAt_t {Bn : Nat} {A B C : World} (h : KeepAt Bn A B) (h' : KeepAt Bn B C) : KeepAt Bn A C := Eq.trans h' h
theorem keepAt_b {Bn : Nat} {w : World} (hlt : Bn < w.heap.size) (W : World) (l : Nat) (o o' : Obj) (hl : w.heap.size ≤ l) (hg : W.heap[l]? = some o) (h1 : o.isCells = false) (h2 : o.isWalk = false) : KeepAt Bn W (W.putObj l o') := World.putObj_heap_other (by omega)
set_option maxHeartbeats 1600000 in
theorem bits1_in (F : Fence) (n : Nat) (h24 : F.fn 47) (hro : F.round = none) (hn : 1 ≤ n) (l Bn : Nat) (d : ByteArray) (hd : d.size ≤ 1100) (J Jx : List Bit → World → Prop)
    (hY : ∀ pre x W, J pre W → pre.length < 8 * d.size + 6 → YieldAt F (n - 1) Try.prog l #[.int .i64 ((x.1 : Nat) : Int)] W fun e W' =>
      (e = .returned (.bool true) ∧ J (pre ++ [x]) W' ∧ KeepAt Bn W W') ∨ (e = .returned (.bool false) ∧ Jx (pre ++ [x]) W'))
    (W : World) (hBn : W.cell? ⟨Bn, 0, none⟩ = some (.string d)) (h0 : J [] W) :
    CallsIn F n Try.prog 47 #[.func (.yield l) #[] #[], .pointer (some ⟨Bn, 0, none⟩)] W fun e W' => (∃ v, e = .returned v) ∧
      ((∃ ys, ys = bitL d (8 * d.size + 6) ∧ J ys W') ∨ (∃ pre : List Bit, True ∧ Jx pre W')) := by
  refine callsIn_of_wp Try.func47 rfl h24 ?_ hro
  simp only [Try.ntmps47, List.size_toArray, List.length_cons, List.length_nil, Nat.reduceAdd, Nat.reduceSub, Array.replicate_succ, Array.replicate_zero, List.push_toArray, List.append_toArray, List.nil_append, List.cons_append]
  gi_wp2
  gi_loopw [9] (fun i wr => ∃ k : Nat, k ≤ 8 * d.size + 6 ∧ i = .int .i64 k ∧ wr.cell? ⟨Bn, 0, none⟩ = some (.string d) ∧ J (bitL d k) wr)
    (fun i _ => 8 * d.size + 6 - (intOf i).toNat)
  case atStart => exact ⟨0, by omega, rfl, hBn, h0⟩
  case round =>
    obtain ⟨k, hk, rfl, hB, hJs⟩ := hrel
    by_cases hend : k = 8 * d.size + 6
    · gi_wp2
      refine bodyPost_end (results_none rfl _ _ _) rfl ?_
      exact ⟨⟨_, rfl⟩, .inl ⟨_, rfl, hend ▸ hJs⟩⟩
    · have hk' : k < 8 * d.size + 6 := by omega
      obtain ⟨fn, tmps, assign, body, hy, hR⟩ := hY (bitL d k) ⟨bitAt d k, bitAt_lt d k⟩ wr hJs (by rw [bitL_length]; exact hk')
      simp only at hy
      rw [← bitL_succ] at hR
      have HR := Lib.hid hR; clear hR
      have HJ := Lib.hid hJs; clear hJs
      clear hend
      by_cases hb : k / 8 < d.size
      · have e := bit_in d k hb
        gi_wp2
        refine HR.out.mono ?_
        rintro e W' (⟨rfl, hJ', hk3⟩ | ⟨rfl, hJx'⟩)
        · have hB3 : W'.cell? ⟨Bn, 0, none⟩ = some (.string d) := hk3.cell hB
          gi_wp2
          go_roundw
          case rel => exact ⟨k + 1, by omega, by go_num, hB3, hJ'⟩
          case measure => simp [intOf]; omega
        · gi_wp2
          refine bodyPost_ret (results_none rfl _ _ _) rfl ?_
          exact ⟨⟨_, rfl⟩, .inr ⟨_, trivial, hJx'⟩⟩
      · have e : ((bitAt d k : Nat) : Int) = 0 := by unfold bitAt; rw [if_neg hb]; rfl
        simp only [e] at hy
        gi_wp2
        refine HR.out.mono ?_
        rintro e W' (⟨rfl, hJ', hk3⟩ | ⟨rfl, hJx'⟩)
        · have hB3 : W'.cell? ⟨Bn, 0, none⟩ = some (.string d) := hk3.cell hB
          gi_wp2
          go_roundw
          case rel => exact ⟨k + 1, by omega, by go_num, hB3, hJ'⟩
          case measure => simp [intOf]; omega
        · gi_wp2
          refine bodyPost_ret (results_none rfl _ _ _) rfl ?_
          exact ⟨⟨_, rfl⟩, .inr ⟨_, trivial, hJx'⟩⟩
end Go.Proofs.Ytbfgpjpfhbbdfaa
