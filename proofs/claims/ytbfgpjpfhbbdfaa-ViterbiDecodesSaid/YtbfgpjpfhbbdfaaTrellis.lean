/-
  The walk of convol.trellis: the table of all steps. Conditions: none.
-/
import Derived.Test.YtbfgpjpfhbbdfaaBase
import Derived.Laws.CopyOwn
import Derived.Laws.Rows
import Derived.Laws.Tables
namespace Go.Proofs.Ytbfgpjpfhbbdfaa
open Go.RowKit Kit
set_option linter.unusedVariables false
/-- The number in cell i of the table: step i/6, bit i/3 % 2: the next state, the two symbols. -/
def tnum (i : Nat) : Nat := if i % 3 = 0 then nx (i / 6) (i / 3 % 2) else if i % 3 = 1 then o1 (i / 6) (i / 3 % 2) else o2 (i / 6) (i / 3 % 2)
/-- The table's cells when k steps have been written. -/
def tcells (k : Nat) : Array Value := Array.ofFn (n := 384) fun i => .int .i64 (if i.val < 3 * k then (tnum i.val : Int) else 0)
theorem tcells_size (k : Nat) : (tcells k).size = 384 := by simp [tcells]
theorem tcells_get (k i : Nat) (h : i < 384) : (tcells k)[i]? = some (.int .i64 (if i < 3 * k then (tnum i : Int) else 0)) := by
  simp [tcells, h]
theorem tcells_step (k : Nat) (hk : k < 128) (i0 i1 i2 : Nat) (h0 : i0 = 3 * k) (h1 : i1 = 3 * k + 1) (h2 : i2 = 3 * k + 2) (a b c : Int) (ha : a = tnum i0) (hb : b = tnum i1) (hc : c = tnum i2) :
    (((tcells k).setIfInBounds i0 (.int .i64 a)).setIfInBounds i1 (.int .i64 b)).setIfInBounds i2 (.int .i64 c) = tcells (k + 1) := by
  subst h0 h1 h2 ha hb hc
  apply Array.ext_getElem?
  intro j
  rcases Nat.lt_or_ge j 384 with hj | hj
  · rw [tcells_get _ _ hj]
    simp only [Array.getElem?_setIfInBounds, Array.size_setIfInBounds, tcells_size, tcells_get _ _ hj]
    by_cases e2 : 3 * k + 2 = j
    · subst e2; rw [if_pos rfl, if_pos hj, if_pos (by omega)]
    · rw [if_neg e2]
      by_cases e1 : 3 * k + 1 = j
      · subst e1; rw [if_pos rfl, if_pos hj, if_pos (by omega)]
      · rw [if_neg e1]
        by_cases e0 : 3 * k = j
        · subst e0; rw [if_pos rfl, if_pos hj, if_pos (by omega)]
        · rw [if_neg e0]
          by_cases hl : j < 3 * k
          · rw [if_pos hl, if_pos (by omega)]
          · rw [if_neg hl, if_neg (by omega)]
  · rw [Array.getElem?_eq_none (by simp [tcells_size]; omega), Array.getElem?_eq_none (by simp [tcells_size]; omega)]
theorem tnum0 (s b : Nat) (hb : b < 2) : tnum (s * 6 + b * 3) = nx s b ∧ tnum (s * 6 + b * 3 + 1) = o1 s b ∧ tnum (s * 6 + b * 3 + 2) = o2 s b := by
  have e1 : (s * 6 + b * 3) % 3 = 0 := by omega
  have e2 : (s * 6 + b * 3 + 1) % 3 = 1 := by omega
  have e3 : (s * 6 + b * 3 + 2) % 3 = 2 := by omega
  have f1 : (s * 6 + b * 3) / 6 = s := by omega
  have f2 : (s * 6 + b * 3 + 1) / 6 = s := by omega
  have f3 : (s * 6 + b * 3 + 2) / 6 = s := by omega
  have g1 : (s * 6 + b * 3) / 3 % 2 = b := by omega
  have g2 : (s * 6 + b * 3 + 1) / 3 % 2 = b := by omega
  have g3 : (s * 6 + b * 3 + 2) / 3 % 2 = b := by omega
  simp [tnum, e1, e2, e3, f1, f2, f3, g1, g2, g3]
theorem zero42 (w : World) : Sem.run Try.prog (zeroValue 79) w = .ok (.agg (tcells 0)) w := by kernel_rfl
def TR (w : World) (i : Value) (wr : World) : Prop :=
  ∃ s : Nat, s ≤ 64 ∧ i = .int .i64 s ∧ wr.heap[w.heap.size + 1]? = some (.cells (tcells (2 * s)) 79) ∧ wr.heap[w.heap.size]? = some (.cells (tcells 0) 79) ∧ Below w.heap.size w wr
theorem step_at (s b : Nat) (hs : s < 64) (hb : b < 2) (si bi : Int) (h1 : si = s) (h2 : bi = b) (w : World) :
    Calls Try.prog 37 #[.int .i64 si, .int .i64 bi] w fun e w' => e = .returned (.tuple #[.int .i64 (nx s b), .int .i64 (o1 s b), .int .i64 (o2 s b)]) ∧ w = w' := by
  subst h1 h2; exact step_in s b hs hb w
set_option maxRecDepth 100000 in
set_option maxHeartbeats 1600000 in
theorem trellis_any (w : World) :
    Calls Try.prog 41 #[] w fun e w' => e = .returned (.agg (tcells 128)) ∧ Below w.heap.size w w' := by
  have hz := zero42
  go_enter Try.func41, Try.ntmps41
  go_wp2_with (fail)
  go_loopw [7] (fun i wr => TR w i wr) (fun i _ => 64 - (intOf i).toNat)
  case atStart => exact ⟨0, by omega, rfl, by have := hp_new (w.alloc (.cells (tcells 0) 79)) (.cells (tcells 0) 79); simpa using this, hp_old (hp_new _ _) _, bl_alloc (bl_alloc (Below.refl _ _) _) _⟩
  case round =>
    obtain ⟨s, hs, rfl, hB, hA, hW⟩ := hrel
    have HB := Lib.hid hB
    have HA := Lib.hid hA
    have HW := Lib.hid hW
    have hg := hW.size
    clear hz hB hA hW
    by_cases hlt : s < 64
    · have x0 : ∀ j, j < 6 → wr.cell? ⟨w.heap.size + 1, s * 6 + j, none⟩ = some (.int .i64 0) := fun j hj => by
        refine cell_of HB.out ?_
        rw [tcells_get _ _ (by omega), if_neg (by omega)]
      have c0 : wr.cell? ⟨w.heap.size + 1, s * 6, none⟩ = some (.int .i64 0) := x0 0 (by omega)
      have c1 := x0 1 (by omega)
      have c2 := x0 2 (by omega)
      have c3 := x0 3 (by omega)
      have c4 := x0 4 (by omega)
      have c5 := x0 5 (by omega)
      have c4' : wr.cell? ⟨w.heap.size + 1, s * 6 + 3 + 1, none⟩ = some (.int .i64 0) := c4
      have c5' : wr.cell? ⟨w.heap.size + 1, s * 6 + 3 + 2, none⟩ = some (.int .i64 0) := c5
      have y : ∀ j, wr.frozen? ⟨w.heap.size + 1, j, none⟩ = false := fun j => free_of HB.out
      clear x0
      go_wp2_with (fail)
      refine wp_loop_rounds 3 ?_
      rw [rounds_succ]
      go_wp2_with (fail)
      refine (step_at s 0 (by omega) (by omega) _ _ rfl rfl _).mono ?_
      rintro e _ ⟨rfl, rfl⟩
      go_wp2_with (fail)
      rw [rounds_succ]
      go_wp2_with (fail)
      refine (step_at s 1 (by omega) (by omega) _ _ rfl rfl _).mono ?_
      rintro e _ ⟨rfl, rfl⟩
      go_wp2_with (fail)
      rw [rounds_succ]
      go_wp2_with (fail)
      refine ⟨⟨s + 1, by omega, by go_num, ?_, ?_, ?_⟩, ?_⟩
      · obtain ⟨t1, t2, t3⟩ := tnum0 s 0 (by omega)
        obtain ⟨t4, t5, t6⟩ := tnum0 s 1 (by omega)
        have e1 := tcells_step (2 * s) (by omega) (s * 6) (s * 6 + 1) (s * 6 + 2) (by omega) (by omega) (by omega) (nx s 0) (o1 s 0) (o2 s 0) (by rw [← t1]; rfl) (by rw [← t2]) (by rw [← t3])
        have e2 := tcells_step (2 * s + 1) (by omega) (s * 6 + 3) (s * 6 + 3 + 1) (s * 6 + 3 + 2) (by omega) (by omega) (by omega) (nx s 1) (o1 s 1) (o2 s 1) (by rw [← t4]) (by rw [← t5]) (by rw [← t6])
        have h := hp_set (i := s * 6 + 3 + 2) (hp_set (i := s * 6 + 3 + 1) (hp_set (i := s * 6 + 3) (hp_set (i := s * 6 + 2) (hp_set (i := s * 6 + 1) (hp_set (i := s * 6) HB.out (.int .i64 (nx s 0))) (.int .i64 (o1 s 0))) (.int .i64 (o2 s 0))) (.int .i64 (nx s 1))) (.int .i64 (o1 s 1))) (.int .i64 (o2 s 1))
        rw [e1, e2] at h
        exact h
      · exact hp_set_ne (hp_set_ne (hp_set_ne (hp_set_ne (hp_set_ne (hp_set_ne HA.out (by omega) _) (by omega) _) (by omega) _) (by omega) _) (by omega) _) (by omega) _
      · exact bl_set (bl_set (bl_set (bl_set (bl_set (bl_set HW.out (by omega) _) (by omega) _) (by omega) _) (by omega) _) (by omega) _) (by omega) _
      · simp [intOf]; omega
    · have he : s = 64 := by omega
      subst he
      have HB' : Hid (wr.heap[w.heap.size + 1]? = some (.cells (tcells 128) 79)) := HB.out
      clear HB
      go_wp2_with (first | (refine wpList_load_row rfl 79 _ rfl (w.heap.size + 1) rfl 79 _ _ _ HB'.out Try.underlying79 rfl (by rw [tcells_size]; kernel_rfl) ?_) | (refine wpList_store_row rfl 79 _ _ rfl w.heap.size (tcells 128) rfl rfl 79 _ HA.out (by rw [tcells_size]; kernel_rfl) (by rw [tcells_size, tcells_size]) (by kernel_rfl) ?_))
      refine bodyPost_ret (results_cell_row rfl _ _ w.heap.size 79 (tcells 128) (0, 0) _ rfl ?_ Try.underlying79 rfl (by rw [tcells_size]; kernel_rfl)) rfl ⟨rfl, below_setRow HW.out (Nat.le_refl _) _⟩
      · exact setRow_heap _ _ _ _ _ _ HA.out
end Go.Proofs.Ytbfgpjpfhbbdfaa
