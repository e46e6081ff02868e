/-
  The walk of the laws' own shown. Conditions: none.
-/
import Derived.Test.YthgilipffdcddaaMeth
namespace Go.Proofs.Ythgilipffdcddaa
open Go.RowKit Kit
set_option linter.unusedVariables false
theorem MTick.below {W wr : World} {base f B : Nat} {v : Value} {L : List E} {P : List Int} {e : Ending} (h : FO W base f v L) (hB : B ≤ base) (hBs : B ≤ W.heap.size) (ht : MTick W base f v L P e wr) : Below B W wr := by
  obtain ⟨out, _, _, _, hm⟩ := ht
  exact hm.below hBs (fun k hk => Nat.le_trans hB (h.blk k hk).1)
theorem MSet.below {W wr : World} {base f B : Nat} {v : Value} {L L' : List E} {e : Ending} (h : FO W base f v L) (hB : B ≤ base) (hBs : B ≤ W.heap.size) (ht : MSet W base f v L' e wr) : Below B W wr := by
  obtain ⟨_, _, hm⟩ := ht
  exact hm.below hBs (fun k hk => Nat.le_trans hB (h.blk k hk).1)
theorem FO.far {w : World} {base f : Nat} {v : Value} {L : List E} (h : FO w base f v L) (B n c o : Nat) (hB : w.heap.size ≤ B) : (Value.slice (some ⟨B, o, none⟩) n c).ownBlock = none ∨ (Value.slice (some ⟨B, o, none⟩) n c).ownBlock ≠ v.ownBlock := by
  right
  intro e
  have := (h.blk B e.symm).2.1
  omega
/-- A slice that a text has just made. -/
theorem ms_lit {w : World} {B : Nat} {e : E} {cs : Array Value} (hf : fresh e) (h : w.heap[B]? = some (.cells cs 30)) (hc : cs = (mc e).toArray) : MS w (.slice (some ⟨B, 0, none⟩) 1 1) [e] := by
  subst hc
  refine ⟨by simpa using hf, .inl ⟨B, 0, 1, rfl, lt_of_obj h, fun i x hx j hj => ?_⟩⟩
  have hi : i = 0 := by
    rcases Nat.eq_zero_or_pos i with h | h
    · exact h
    · rw [List.getElem?_eq_none (by simp; omega)] at hx; cases hx
  subst hi
  simp at hx
  subst hx
  have : (mc e).toArray[j]? = some ((mc e)[j]'(by rw [mc_len]; exact hj)) := by simp [mc_len, hj]
  rw [show 0 + (0 * 7 + j) = j by omega, cell_of h this, List.getElem?_eq_getElem]
theorem ps_lit {w : World} {B n : Nat} {P : List Int} {cs : Array Value} {fr : Nat × Nat} {c : Nat} (h : w.heap[B]? = some (.cells cs 2 fr)) (hc : cs = (P.map (Value.int .i64)).toArray) (hn : n = P.length) : PS w (.slice (some ⟨B, 0, none⟩) n c) P := by
  subst hc hn
  left
  refine ⟨B, 0, c, rfl, fun i x hx => ?_⟩
  rw [Nat.zero_add]
  exact cell_of h (by simp [hx])
def s1 : E := ⟨2, 10, 20, 2, 3, 0, true, 0, false⟩
def s0 : E := ⟨2, 10, 20, 0, 3, 0, false, 0, false⟩
def s2 : E := ⟨2, 10, 20, 2, 3, 0, true, 1, false⟩
def s3 : E := ⟨2, 10, 20, 2, 3, 0, true, 2, true⟩
theorem shown_t1 : tk [s1] [0, 0, 5] 1 = [s2] ∧ rsK [s1] [0, 0, 5] 1 = [] := ⟨rfl, rfl⟩
theorem shown_t2 : tk [s2] [0, 0, 25] 1 = [s3] ∧ rsK [s2] [0, 0, 25] 1 = [(0, 3, 0)] := ⟨rfl, rfl⟩
theorem new_good {L : List E} {w : World} {v : Value} (h : MS w v L) (hlen : L.length ≤ 32) (hv : ∀ e ∈ L, vE e = true) :
    Calls Try.prog 10 #[v] w fun e wr => ∃ v, e = .returned (.tuple #[.pointer (some ⟨w.heap.size, 0, none⟩), .int .i64 0]) ∧ FO wr w.heap.size w.heap.size v L ∧ Below w.heap.size w wr :=
  (new_any h (by unfold maxLen; omega)).mono fun e wr hh => by
    rcases hh with ⟨_, h⟩ | ⟨h, _⟩
    · exact h
    · exact (h ⟨hv, hlen⟩).elim
theorem new_bad {L : List E} {w : World} {v : Value} (h : MS w v L) (hlen : L.length ≤ maxLen) (hv : ¬ ((∀ e ∈ L, vE e = true) ∧ L.length ≤ 32)) :
    Calls Try.prog 10 #[v] w fun e wr => e = .returned (.tuple #[.pointer none, .int .i64 2]) ∧ Below w.heap.size w wr :=
  (new_any h hlen).mono fun e wr hh => by
    rcases hh with ⟨h, _⟩ | ⟨_, h⟩
    · exact (hv h).elim
    · exact h
theorem ptr_ne (w : World) (a : Addr) : (binOp .eql 25 (.pointer (some a)) (.pointer none)).run Try.prog w = .ok (.bool false) w := by
  have := run_equal_pointer_nil (P := Try.prog) (w := w) 25 (some a) (by kernel_rfl)
  simp [binOp, this]
set_option maxRecDepth 100000 in
set_option maxHeartbeats 3200000 in
theorem shown_any (w : World) : Calls Try.prog 8 #[] w fun e w' => e = .returned (.bool true) ∧ Below w.heap.size w w' := by
  go_enter Try.func8, Try.ntmps8
  go_wp2_with (fail)
  have b0 := bl_alloc (Below.refl w.heap.size w) (.cells #[.int .i64 2, .int .i64 10, .int .i64 20, .int .i64 2, .int .i64 3, .int .i64 0, .bool true] 30)
  refine (new_good (L := [s1]) (ms_lit (e := s1) ⟨rfl, rfl⟩ (hp_new w _) rfl) (by simp) (by simp [vE, s1, validB])).mono ?_
  rintro e w1 ⟨v, rfl, F1, hb1⟩
  have B1 := Lib.hid (bl_step b0 hb1)
  simp only [World.size_alloc] at F1
  have hs1 := B1.out.size
  have hw1 := F1.lt
  replace F1 := Lib.hid F1
  clear b0 hb1
  go_wp2_with (fail)
  have b2 := bl_alloc (Below.refl w1.heap.size w1) (.cells #[.int .i64 2, .int .i64 10, .int .i64 20, .int .i64 0, .int .i64 3, .int .i64 0, .bool false] 30)
  refine (new_bad (L := [s0]) (ms_lit (e := s0) ⟨rfl, rfl⟩ (hp_new w1 _) rfl) (by simp [maxLen]) (by simp [vE, s0, validB])).mono ?_
  rintro e w2 ⟨rfl, hb2⟩
  have F2 := Lib.hid (F1.out.below (bl_step b2 hb2))
  have B2 := Lib.hid (bl_step B1.out (bl_step b2 hb2))
  have hs2 := B2.out.size
  have hw2 := F2.out.lt
  clear b2 hb2 F1 B1 hs1 hw1
  go_wp2_with (fail)
  have fa := F2.out.below (bl_alloc (Below.refl w2.heap.size w2) (.cells #[.int .i64 0, .int .i64 0, .int .i64 5] 2))
  refine (mtick_any (P := [0, 0, 5]) fa (ps_lit (hp_new w2 _) rfl rfl) (F2.out.far _ _ _ _ (Nat.le_refl _))).mono ?_
  rintro e w3 hT
  have b3 := MTick.below (B := w.heap.size) fa (by omega) (by simp; omega) hT
  obtain ⟨out, rfl, F3, ho, -⟩ := hT
  replace F3 : FO w3 (w.heap.size + 1) (w.heap.size + 1) v [s2] := F3
  replace ho : w3.ownsRow _ 38 3 out 0 [] := ho
  obtain ⟨oa, oc, rfl⟩ := slice_of ho
  have B3 := Lib.hid ((B2.out.alloc hs2 _).trans b3)
  have hs3 := B3.out.size
  have hw3 := F3.lt
  replace F3 := Lib.hid F3
  clear fa b3 ho F2 B2 hs2 hw2
  go_wp2_with (fail)
  have fa := F3.out.below (bl_alloc (Below.refl w3.heap.size w3) (.cells #[.int .i64 0, .int .i64 0, .int .i64 25] 2))
  refine (mtick_any (P := [0, 0, 25]) fa (ps_lit (hp_new w3 _) rfl rfl) (F3.out.far _ _ _ _ (Nat.le_refl _))).mono ?_
  rintro e w4 hT
  have b4 := MTick.below (B := w.heap.size) fa (by omega) (by simp; omega) hT
  obtain ⟨out, rfl, F4, ho, -⟩ := hT
  replace F4 : FO w4 (w.heap.size + 1) (w.heap.size + 1) v [s3] := F4
  obtain ⟨hb, ho⟩ : ∃ hb, w4.ownsRow hb 38 3 out 1 [.int .i64 0, .int .i64 3, .int .i64 0] := ⟨_, ho⟩
  have B4 := Lib.hid ((B3.out.alloc hs3 _).trans b4)
  have hs4 := B4.out.size
  have hw4 := F4.lt
  replace F4 := Lib.hid F4
  have HO := Lib.hid ho
  clear fa b4 ho F3 B3 hs3 hw3
  obtain ⟨oa2, oc2, rfl⟩ := slice_of ho
  clear ho
  go_wp2_with (fail)
  refine (same_any (l1 := [((0 : Int), (3 : Int), (0 : Int))]) (l2 := [((0 : Int), (3 : Int), (0 : Int))]) (by simp) (HO.out.alloc _) (own_lit (hp_new w4 _) rfl (by simp [maxLen]))).mono ?_
  rintro e w5 ⟨rfl, hb5⟩
  have F5 := Lib.hid (F4.out.below (bl_step (bl_alloc (Below.refl _ _) _) hb5))
  have B5 := Lib.hid (bl_step (bl_alloc B4.out _) hb5)
  have hs5 := B5.out.size
  have hw5 := F5.out.lt
  clear hb5 F4 B4 hs4 hw4 HO
  go_wp2_with (fail)
  refine (mtripped_any 3 F5.out).mono ?_
  rintro e w6 ⟨rfl, hb6⟩
  rw [show [s3].any (isTr · 3) = true from rfl]
  have F6 := Lib.hid (F5.out.below hb6)
  have B6 := Lib.hid (bl_step B5.out hb6)
  have hs6 := B6.out.size
  have hw6 := F6.out.lt
  clear hb6 F5 B5 hs5 hw5
  go_wp2_with (fail)
  refine (mtripped_any 1 F6.out).mono ?_
  rintro e w7 ⟨rfl, hb7⟩
  rw [show [s3].any (isTr · 1) = false from rfl]
  have F7 := Lib.hid (F6.out.below hb7)
  have B7 := Lib.hid (bl_step B6.out hb7)
  have hs7 := B7.out.size
  have hw7 := F7.out.lt
  clear hb7 F6 B6 hs6 hw6
  go_wp2_with (fail)
  refine (clear_in 0 F7.out (e := s3) rfl).mono ?_
  rintro e w8 hT
  have b8 := MSet.below (B := w.heap.size) F7.out (by omega) hs7 hT
  obtain ⟨rfl, F8, -⟩ := hT
  replace F8 : FO w8 (w.heap.size + 1) (w.heap.size + 1) v [s1] := F8
  have B8 := Lib.hid (B7.out.trans b8)
  have hs8 := B8.out.size
  have hw8 := F8.lt
  replace F8 := Lib.hid F8
  clear b8 F7 B7 hs7 hw7
  go_wp2_with (fail)
  refine (clear_out 1 F8.out (by simp)).mono ?_
  rintro e _ ⟨rfl, rfl⟩
  go_wp2_with (fail)
  refine (mwatches_any F8.out).mono ?_
  rintro e w9 ⟨out, rfl, hb9, ho⟩
  replace ho : w9.ownsRow _ 69 2 out 1 [.int .i64 0, .bool false] := ho
  have B9 := Lib.hid (bl_step B8.out hb9)
  have HO := Lib.hid ho
  obtain ⟨oa3, oc3, rfl⟩ := slice_of ho
  clear ho hb9
  go_wp2_with (fail)
  refine (sameW_any (l1 := [s1]) (l2 := [s1]) (by simp) (HO.out.alloc _) (own_lit (hp_new w9 _) rfl (by simp [maxLen]))).mono ?_
  rintro e w10 ⟨rfl, hb10⟩
  have B10 := Lib.hid (bl_step (bl_alloc B9.out _) hb10)
  clear hb10
  go_wp2_with (fail)
  go_ret
  exact ⟨rfl, B10.out⟩
end Go.Proofs.Ythgilipffdcddaa
