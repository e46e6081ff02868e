/-
  The iterator's contract once more: where it is left early, the bits handed out are the field's first ones. Conditions: those that each theorem names.
-/
import Derived.Test.YtjeaccpocpfkgaaUn
namespace Go.Proofs.Ytjeaccpocpfkgaa
open Go.RowKit Go.Shelf Kit
attribute [local go_sem] Oper.semAt_some
set_option linter.unusedVariables false
set_option maxHeartbeats 1600000 in
theorem each1_inP (F : Fence) (n : Nat) (h46 : F.fn 46) (hro : F.round = none) (hn : 1 ≤ n) (l Bn : Nat) (d : ByteArray) (hd : d.size ≤ 65536) (a wd : Nat) (haw : a + wd ≤ 8 * d.size) (J Jx : List Bit → World → Prop)
    (hY : ∀ pre x W, J pre W → pre.length < wd → YieldAt F (n - 1) Try.prog l #[.int .u64 ((x.1 : Nat) : Int)] W fun e W' =>
      (e = .returned (.bool true) ∧ J (pre ++ [x]) W' ∧ Keep3 Bn W W') ∨ (e = .returned (.bool false) ∧ Jx (pre ++ [x]) W'))
    (W : World) (c0 : W.cell? ⟨Bn + 1, 0, none⟩ = some (.int .i64 a)) (c1 : W.cell? ⟨Bn + 2, 0, none⟩ = some (.int .i64 wd)) (c2 : W.cell? ⟨Bn, 0, none⟩ = some (.string d)) (h0 : J [] W) :
    CallsIn F n Try.prog 46 #[.func (.yield l) #[] #[], .pointer (some ⟨Bn + 1, 0, none⟩), .pointer (some ⟨Bn + 2, 0, none⟩), .pointer (some ⟨Bn, 0, none⟩)] W fun e W' => (∃ v, e = .returned v) ∧
      ((∃ ys, ys = bitL d a wd ∧ J ys W') ∨ (∃ pre : List Bit, (∃ k, k ≤ wd ∧ pre = bitL d a k) ∧ Jx pre W')) := by
  refine callsIn_of_wp Try.func46 rfl h46 ?_ hro
  simp only [Try.ntmps46, List.size_toArray, List.length_cons, List.length_nil, Nat.reduceAdd, Nat.reduceSub, Array.replicate_succ, Array.replicate_zero, List.push_toArray, List.append_toArray, List.nil_append, List.cons_append]
  gi_wp2
  gi_loopw [5] (fun i wr => ∃ k m : Nat, k ≤ wd ∧ m = a + k ∧ i = .int .i64 m ∧ wr.cell? ⟨Bn + 1, 0, none⟩ = some (.int .i64 a) ∧ wr.cell? ⟨Bn + 2, 0, none⟩ = some (.int .i64 wd) ∧ wr.cell? ⟨Bn, 0, none⟩ = some (.string d) ∧ J (bitL d a k) wr)
    (fun i _ => a + wd - (intOf i).toNat)
  case atStart => exact ⟨0, a, by omega, by omega, rfl, c0, c1, c2, h0⟩
  case round =>
    clear c0 c1 c2
    obtain ⟨k, i, hk, hi, rfl, c0, c1, c2, hJs⟩ := hrel
    by_cases hend : k = wd
    · subst hend
      have HI := Lib.hid hi
      have hle : ¬ ((i : Int) < (a : Int) + (k : Int)) := by omega
      clear hi
      gi_wp2
      refine bodyPost_end (results_none rfl _ _ _) rfl ?_
      exact ⟨⟨_, rfl⟩, .inl hJs⟩
    · have hk' : k < wd := by omega
      obtain ⟨fn, tmps, assign, body, hy, hR⟩ := hY (bitL d a k) ⟨bitOf (lst d) (a + k), bitOf_lt _ _⟩ wr hJs (by rw [bitL_length]; exact hk')
      simp only at hy
      rw [← bitL_succ] at hR
      rw [← hi] at hy
      have hb : i / 8 < d.size := by omega
      have hlt : (i : Int) < (a : Int) + (wd : Int) := by omega
      have hi2 : i < 524288 := by omega
      have e := bit_in d i hb
      have HI := Lib.hid hi
      have HR := Lib.hid hR; clear hR
      have HJ := Lib.hid hJs; clear hJs
      clear hend hi
      gi_wp2
      refine HR.out.mono ?_
      rintro e W' (⟨rfl, hJ', hk3⟩ | ⟨rfl, hJx'⟩)
      · have c0' := hk3.cell (by omega) c0
        have c1' := hk3.cell (by omega) c1
        have c2' := hk3.cell (by omega) c2
        gi_wp2
        go_roundw
        case rel => exact ⟨k + 1, i + 1, by omega, by have := HI.out; omega, by go_num, c0', c1', c2', hJ'⟩
        case measure => simp [intOf]; have := HI.out; omega
      · gi_wp2
        refine bodyPost_ret (results_none rfl _ _ _) rfl ?_
        exact ⟨⟨_, rfl⟩, .inr ⟨_, ⟨k + 1, hk', rfl⟩, hJx'⟩⟩
theorem each1_stopsP (n : Nat) (hn : 1 ≤ n) (Bn : Nat) (d : ByteArray) (hd : d.size ≤ 65536) (a wd : Nat) (haw : a + wd ≤ 8 * d.size) (w : World) (hBn : Bn + 2 < w.heap.size)
    (c0 : w.cell? ⟨Bn + 1, 0, none⟩ = some (.int .i64 a)) (c1 : w.cell? ⟨Bn + 2, 0, none⟩ = some (.int .i64 wd)) (c2 : w.cell? ⟨Bn, 0, none⟩ = some (.string d)) :
    SeqStopsK Fence.wide n Try.prog 46 #[.pointer (some ⟨Bn + 1, 0, none⟩), .pointer (some ⟨Bn + 2, 0, none⟩), .pointer (some ⟨Bn, 0, none⟩)] (fun x : Bit => #[Value.int .u64 ((x.1 : Nat) : Int)]) (Keep3 Bn) (fun xs => xs = bitL d a wd) (fun pre => ∃ k, k ≤ wd ∧ pre = bitL d a k) wd w := fun l J Jx W hW _ _ hY h0 =>
  each1_inP Fence.wide n trivial rfl hn l Bn d hd a wd haw J Jx hY W ((hW.cell (p := ⟨Bn + 1, 0, none⟩) (by show Bn + 1 < _; omega)).trans c0) ((hW.cell (p := ⟨Bn + 2, 0, none⟩) hBn).trans c1) ((hW.cell (p := ⟨Bn, 0, none⟩) (by show Bn < _; omega)).trans c2) h0
end Go.Proofs.Ytjeaccpocpfkgaa
