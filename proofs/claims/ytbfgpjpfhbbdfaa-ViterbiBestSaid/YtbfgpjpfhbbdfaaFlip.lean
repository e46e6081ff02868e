/-
  The walk of Flip: a string of the same length. Conditions: strings of at most 1000 bytes.
-/
import Derived.Test.YtbfgpjpfhbbdfaaFlp
import Derived.Test.YtbfgpjpfhbbdfaaLawCorrects
namespace Go.Proofs.Ytbfgpjpfhbbdfaa
open Go.RowKit Kit
set_option linter.unusedVariables false
def FlipQ (d : ByteArray) (w : World) (e : Ending) (w' : World) : Prop := (∃ d' : ByteArray, e = .returned (.string d') ∧ d'.size = d.size) ∧ Below w.heap.size w w'
theorem flip_conv (w2 : World) (S : ByteArray) (n q : Nat) (hs : S.size = n) (hq : q < n) (cap : Nat) (x : Int) : (convert 37 9 (.slice (some ⟨w2.heap.size, 0, none⟩) n cap)).run Try.prog ((Lib.bytesWorld w2 5 S).setCell ⟨w2.heap.size, q, none⟩ (.int .u8 x)).drew =
    .ok (.string (strOfNums ((List.range n).map fun i => if i = q then x else ((byteAt S i : Nat) : Int)))) ((Lib.bytesWorld w2 5 S).setCell ⟨w2.heap.size, q, none⟩ (.int .u8 x)).drew := by
  have hc : ∀ i, i < n → (Lib.bytesWorld w2 5 S).cell? ⟨w2.heap.size, i, none⟩ = some (.int .u8 ((byteAt S i : Nat) : Int)) := fun i hi => by
    rw [Lib.bytesWorld_cell w2 5 S i (by omega)]; rfl
  refine run_convert_bytes_arg _ 37 5 Try.underlying37 Try.underlying5 w2.heap.size 0 n cap _ (by simp) (fun i hi => ?_) 9 Try.underlying9
  rw [Nat.zero_add]
  have e : ((List.range n).map fun i => if i = q then x else ((byteAt S i : Nat) : Int)).getD i 0 = if i = q then x else ((byteAt S i : Nat) : Int) := by
    simp [List.getD_eq_getElem?_getD, hi]
  rw [e]
  show ((Lib.bytesWorld w2 5 S).setCell ⟨w2.heap.size, q, none⟩ (.int .u8 x)).cell? _ = _
  by_cases h : i = q
  · subst h; rw [if_pos rfl]; exact World.cell?_setCell_same _ _ _ (hc i hi)
  · rw [if_neg h]; exact (World.cell?_setCell_other _ _ _ _ (fun e => h (by injection e with _ h2; exact h2.symm))).trans (hc i hi)
theorem bytes_below (w2 : World) (S : ByteArray) : Below w2.heap.size w2 (Lib.bytesWorld w2 5 S) := ⟨rfl, rfl, rfl, by rw [Lib.bytesWorld_size]; omega, fun j hj => Lib.bytesWorld_at_old w2 5 S j hj⟩
theorem small_wrap (x : Nat) (h : x ≤ 100000) : IntKind.i64.wrap (x : Int) = (x : Int) ∧ wrap64 (x : Int) = (x : Int) := ⟨IntWalk.i64_in _ (by omega), IntWalk.wrap64_in _ (by omega)⟩
theorem shl_ex (q : Nat) : ∃ v : Int, Op.shift .shl .u8 1 .i64 (IntKind.i64.wrap (7 - (q : Int).tmod 8)) = pure (.int .u8 v) := by
  have t2 : (q : Int).tmod 8 = (q : Int) % 8 := Int.tmod_eq_emod_of_nonneg (by omega)
  have e : IntKind.i64.wrap (7 - (q : Int).tmod 8) = 7 - (q : Int) % 8 := by rw [t2]; exact IntWalk.i64_in _ (by omega)
  rw [e]
  exact ⟨_, shift_shl_u8 _ _ _ (by omega) (by omega)⟩
theorem toList_no (d : ByteArray) (h : d.size ≠ 0) : (d.toList == []) = false := by
  rw [toList_data]
  cases h' : d.data.toList with
  | nil => exfalso; apply h; have : d.data.toList.length = 0 := by rw [h']; rfl
           simpa using this
  | cons a l => rfl
theorem toList_yes (d : ByteArray) (h : d.size = 0) : (d.toList == []) = true := by
  rw [toList_data]
  have : d.data.toList.length = 0 := by simpa using h
  rw [List.eq_nil_of_length_eq_zero this]; rfl
theorem quo_q (q q8 : Nat) (h : q8 = q / 8) (hs : q8 ≤ 100000) : (q : Int) / 8 = (q8 : Int) ∧ (q : Int).tdiv 8 = (q8 : Int) ∧ IntKind.i64.wrap (q8 : Int) = (q8 : Int) ∧ wrap64 (q8 : Int) = (q8 : Int) := by
  have e1 : (q : Int) / 8 = (q8 : Int) := by omega
  exact ⟨e1, by rw [Int.tdiv_eq_ediv_of_nonneg (by omega)]; exact e1, small_wrap q8 hs⟩
theorem cell0 (w : World) (d : ByteArray) (n q8 : Nat) (hn : n = d.size) (hq : q8 < n) : (Lib.bytesWorld w 5 d).cell? ⟨w.heap.size, q8, none⟩ = some (.int .u8 ((byteAt d q8 : Nat) : Int)) ∧ (Lib.bytesWorld w 5 d).frozen? ⟨w.heap.size, q8, none⟩ = false := by
  refine ⟨by rw [Lib.bytesWorld_cell w 5 d q8 (by omega)]; rfl, ?_⟩
  have hs : d.size ≤ (Lib.bytesCells w 5 d).size := by unfold Lib.bytesCells; rw [Array.size_append, Array.size_map]; exact Nat.le_add_right _ _
  simp [World.frozen?, Lib.bytesWorld_at_new]
  omega
set_option maxRecDepth 100000 in
set_option maxHeartbeats 600000 in
theorem flip_any (d : ByteArray) (k : Int) (hd : d.size ≤ 1000) (w : World) : Calls Try.prog 20 #[.string d, .int .i64 k] w fun e w' => FlipQ d w e w' := by
  by_cases h0 : d.size = 0
  · have hl := toList_yes d h0
    clear h0
    go_enter Try.func20, Try.ntmps20
    go_wp2_with (fail)
    go_ret
    exact ⟨⟨d, rfl, rfl⟩, Below.refl _ _⟩
  · have hl := toList_no d h0
    obtain ⟨n, hn⟩ : ∃ n, n = d.size := ⟨_, rfl⟩
    have hn0 : 0 < n := by omega
    have hn2 : n ≤ 1000 := by omega
    have cv := Lib.run_convert_string_bytes (P := Try.prog) w 9 37 5 d Try.underlying9 Try.underlying37 Try.underlying5
    rw [← hn] at cv
    have PA := Lib.hid (fun w => pick_any k (8 * n) (by omega) (by omega) w)
    have hq := pickN_lt k (8 * n) (by omega)
    generalize pickN k (8 * n) = q at PA hq
    obtain ⟨q8, hq8⟩ : ∃ q8, q8 = q / 8 := ⟨_, rfl⟩
    have hq8n : q8 < n := by omega
    obtain ⟨e1, t1, e7, e8⟩ := quo_q q q8 hq8 (by omega)
    obtain ⟨sv, SH⟩ := shl_ex q
    have e6 : ((8 : Int) * (n : Int)) = ((8 * n : Nat) : Int) := by omega
    have PA' := Lib.hid (fun w => (by rw [e6]; exact PA.out w : Calls Try.prog 22 #[.int .i64 k, .int .i64 (8 * (n : Int))] w fun e w' => e = .returned (.int .i64 (q : Int)) ∧ w = w'))
    have FC := flip_conv w d n q8 hn.symm hq8n (grownCap w n 0 5)
    obtain ⟨c0, f0⟩ := cell0 w d n q8 hn hq8n
    have B0 := Lib.hid (bytes_below w d)
    have HN := Lib.hid hn
    obtain ⟨g, hg⟩ : ∃ g, w.heap.size = g := ⟨_, rfl⟩
    obtain ⟨w3, hw3⟩ : ∃ w3, Lib.bytesWorld w 5 d = w3 := ⟨_, rfl⟩
    obtain ⟨cap, hcap⟩ : ∃ cap, grownCap w n 0 5 = cap := ⟨_, rfl⟩
    rw [hw3, hg, hcap] at FC cv
    rw [hw3] at c0 f0 B0
    rw [hg] at c0 f0
    generalize byteAt d q8 = bq at c0
    have HG := Lib.hid hg
    clear hw3 hg hcap h0 hd hn hq hq8 e6 PA
    go_enter Try.func20, Try.ntmps20
    go_wp2_with (fail)
    refine (PA'.out _).mono ?_
    rintro e _ ⟨rfl, rfl⟩
    go_wp2_with (fail)
    refine region_still_tail 14 (by kernel_rfl) (by kernel_rfl) ?_
    simp only [List.take_succ_cons, List.take_zero, List.drop_succ_cons, List.drop_zero]
    (repeat still_step)
    refine wpStill_nil ?_
    go_wp2_with (fail)
    go_ret
    exact ⟨⟨_, rfl, by rw [strOfNums_size, List.length_map, List.length_range]; exact HN.out⟩, below_drewN (bl_set B0.out (by rw [HG.out]; exact Nat.le_refl _) _) 1⟩
end Go.Proofs.Ytbfgpjpfhbbdfaa
