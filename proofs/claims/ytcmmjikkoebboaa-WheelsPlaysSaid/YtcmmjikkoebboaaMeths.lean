/-
  The walks of the methods of wheels.Set and of its specification. Conditions: the object lies at its block; its numbers are those that New lets.
-/
import Derived.Test.YtcmmjikkoebboaaObjs
import Derived.Test.YtcmmjikkoebboaaKitb
namespace Go.Proofs.Ytcmmjikkoebboaa
open Go.RowKit Kit
def stepI (s c : Int) : Int := clampI (s + (clampI c (-1048576) 1048576 - fric s)) (-16777216) 16777216
def cmdI (s t : Int) : Int := clampI t (-16777216) 16777216 - s + fric s
theorem fric_bd {s : Int} (h : -16777216 ≤ s ∧ s ≤ 16777216) : -16384 ≤ fric s ∧ fric s ≤ 16384 := by unfold fric; split <;> omega
theorem clamp_bd (c lo hi : Int) (h : lo ≤ hi) : lo ≤ clampI c lo hi ∧ clampI c lo hi ≤ hi := by unfold clampI; omega
theorem okS_f {s0 s1 s2 s3 f : Int} (h : okS s0 s1 s2 s3 f) : f = -1 ∨ f = 0 ∨ f = 1 ∨ f = 2 ∨ f = 3 := by unfold okS at h; omega
theorem okS_bd {s0 s1 s2 s3 f : Int} (h : okS s0 s1 s2 s3 f) : -16777216 ≤ s0 ∧ s0 ≤ 16777216 ∧ -16777216 ≤ s1 ∧ s1 ≤ 16777216 ∧ -16777216 ≤ s2 ∧ s2 ≤ 16777216 ∧ -16777216 ≤ s3 ∧ s3 ≤ 16777216 := by unfold okS at h; omega
set_option maxHeartbeats 800000 in
theorem speeds_any (b : Nat) (s0 s1 s2 s3 f : Int) (w : World) (h : w.heap[b]? = some (setO s0 s1 s2 s3 f)) :
    Calls Try.prog 19 #[.pointer (some ⟨b, 0, none⟩)] w fun e w' => e = .returned (four s0 s1 s2 s3) ∧ Below w.heap.size w w' := by
  have hb := lt_of_obj h
  have x0 : w.cell? ⟨b, 0, none⟩ = some (.int .i64 s0) := cell_of h rfl
  have x1 : w.cell? ⟨b, 1, none⟩ = some (.int .i64 s1) := cell_of h rfl
  have x2 : w.cell? ⟨b, 2, none⟩ = some (.int .i64 s2) := cell_of h rfl
  have x3 : w.cell? ⟨b, 3, none⟩ = some (.int .i64 s3) := cell_of h rfl
  have x5 : w.cell? ⟨b, 5, none⟩ = some (.bool true) := cell_of h rfl
  clear h
  go_enter Try.func19, Try.ntmps19
  go_wp2_with ((with_reducible refine (none_any _ _ (by go_simp)).mono ?_); rintro e w' ⟨rfl, rfl⟩)
  go_returns
  exact ⟨rfl, by go_grown⟩
theorem failed_any (b : Nat) (s0 s1 s2 s3 f : Int) (w : World) (h : w.heap[b]? = some (setO s0 s1 s2 s3 f)) :
    Calls Try.prog 26 #[.pointer (some ⟨b, 0, none⟩)] w fun e w' => e = .returned (.int .i64 f) ∧ w = w' := by
  have x4 : w.cell? ⟨b, 4, none⟩ = some (.int .i64 f) := cell_of h rfl
  have x5 : w.cell? ⟨b, 5, none⟩ = some (.bool true) := cell_of h rfl
  clear h
  go_enter Try.func26, Try.ntmps26
  go_wp2_with ((with_reducible refine (none_any _ _ (by go_simp)).mono ?_); rintro e w' ⟨rfl, rfl⟩)
  go_ret
  exact ⟨rfl, rfl⟩
set_option maxHeartbeats 800000 in
theorem sum_any (b : Nat) (s0 s1 s2 s3 f : Int) (w : World) (ok : okS s0 s1 s2 s3 f) (h : w.heap[b]? = some (setO s0 s1 s2 s3 f)) :
    Calls Try.prog 27 #[.pointer (some ⟨b, 0, none⟩)] w fun e w' => e = .returned (.agg #[.int .i64 (s0 + s3), .int .i64 (s1 + s3), .int .i64 (s2 + s3)]) ∧ Below w.heap.size w w' := by
  obtain ⟨b1, b2, b3, b4, b5, b6, b7, b8⟩ := okS_bd ok
  have H := Lib.hid h; clear h ok
  go_enter Try.func27, Try.ntmps27
  go_wp2_with (fail)
  refine (speeds_any _ _ _ _ _ _ _ (hp_old H.out _)).mono ?_
  rintro e w1 ⟨rfl, hb⟩
  obtain ⟨hc, hf⟩ := bcell hb
  have hz : w.heap.size < w1.heap.size := by have := hb.size; simp at this; omega
  have HB := Lib.hid hb
  clear hb
  unfold four
  go_wp2_with (fail)
  refine bodyPost_ret (v := .agg #[.int .i64 (s0 + s3), .int .i64 (s1 + s3), .int .i64 (s2 + s3)]) (by simp [results, Try.results27, go_sem, hc, hz]) rfl ⟨rfl, ?_⟩
  have hb := HB.out
  exact ((((((Below.refl w.heap.size w).alloc (Nat.le_refl _) _).trans (hb.mono (by simp))).setCell (Nat.le_refl _) _).setCell (Nat.le_refl _) _).setCell (Nat.le_refl _) _).alloc (by simp; omega) _
set_option maxHeartbeats 1600000 in
theorem command_any (b : Nat) (s0 s1 s2 s3 f c0 c1 c2 c3 : Int) (w : World) (ok : okS s0 s1 s2 s3 f) (h : w.heap[b]? = some (setO s0 s1 s2 s3 f)) :
    Calls Try.prog 18 #[.pointer (some ⟨b, 0, none⟩), .agg #[.int .i64 c0, .int .i64 c1, .int .i64 c2, .int .i64 c3]] w fun e w' =>
      e = .returned (four (if f = 0 then 0 else cmdI s0 c0) (if f = 1 then 0 else cmdI s1 c1) (if f = 2 then 0 else cmdI s2 c2) (if f = 3 then 0 else cmdI s3 c3)) ∧ Below w.heap.size w w' := by
  have hb := lt_of_obj h
  have x0 : w.cell? ⟨b, 0, none⟩ = some (.int .i64 s0) := cell_of h rfl
  have x1 : w.cell? ⟨b, 1, none⟩ = some (.int .i64 s1) := cell_of h rfl
  have x2 : w.cell? ⟨b, 2, none⟩ = some (.int .i64 s2) := cell_of h rfl
  have x3 : w.cell? ⟨b, 3, none⟩ = some (.int .i64 s3) := cell_of h rfl
  have x4 : w.cell? ⟨b, 4, none⟩ = some (.int .i64 f) := cell_of h rfl
  have x5 : w.cell? ⟨b, 5, none⟩ = some (.bool true) := cell_of h rfl
  obtain ⟨b1, b2, b3, b4, b5, b6, b7, b8⟩ := okS_bd ok
  obtain ⟨p0, q0⟩ := fric_bd ⟨b1, b2⟩
  obtain ⟨p1, q1⟩ := fric_bd ⟨b3, b4⟩
  obtain ⟨p2, q2⟩ := fric_bd ⟨b5, b6⟩
  obtain ⟨p3, q3⟩ := fric_bd ⟨b7, b8⟩
  obtain ⟨k0, l0⟩ := clamp_bd c0 (-16777216) 16777216 (by omega)
  obtain ⟨k1, l1⟩ := clamp_bd c1 (-16777216) 16777216 (by omega)
  obtain ⟨k2, l2⟩ := clamp_bd c2 (-16777216) 16777216 (by omega)
  obtain ⟨k3, l3⟩ := clamp_bd c3 (-16777216) 16777216 (by omega)
  have hf := okS_f ok
  clear ok h
  obtain ⟨⟨l1, m1, n1⟩, ⟨l2, m2, n2⟩, ⟨l3, m3, n3⟩, ⟨l4, m4, n4⟩⟩ := ladder hb
  rcases hf with rfl | rfl | rfl | rfl | rfl
  all_goals
    go_enter Try.func18, Try.ntmps18
    go_wp2_with (first | ((with_reducible refine (none_any _ _ (by go_simp)).mono ?_); rintro e w' ⟨rfl, rfl⟩))
    refine wp_loop_rounds 5 ?_
    iterate 4
      rw [rounds_succ]
      go_wp2_with (first | ((with_reducible refine (clamp_any _ _ _ _).mono ?_); rintro e w' ⟨rfl, rfl⟩) | ((with_reducible refine (fric_any _ _ (by omega) (by omega)).mono ?_); rintro e w' ⟨rfl, rfl⟩))
    rw [rounds_succ]
    go_wp2_with (fail)
    go_returns
    refine ⟨?_, by go_grown⟩
    simp [four, cmdI]
/-- What Fail answers. -/
def failE (f i : Int) : Int := if i < 0 ∨ 3 < i then 2 else if 0 ≤ f then 5 else 0
set_option maxHeartbeats 1600000 in
theorem fail_no (b : Nat) (s0 s1 s2 s3 f i : Int) (w : World) (h : w.heap[b]? = some (setO s0 s1 s2 s3 f)) (he : failE f i ≠ 0) :
    Calls Try.prog 23 #[.pointer (some ⟨b, 0, none⟩), .int .i64 i] w fun e w' => e = .returned (.int .i64 (failE f i)) ∧ w = w' := by
  have x4 : w.cell? ⟨b, 4, none⟩ = some (.int .i64 f) := cell_of h rfl
  have x5 : w.cell? ⟨b, 5, none⟩ = some (.bool true) := cell_of h rfl
  by_cases h1 : i < 0
  · have H : failE f i = 2 := by unfold failE; rw [if_pos (Or.inl h1)]
    rw [H]; clear H he h
    go_enter Try.func23, Try.ntmps23
    go_wp2_with (first | ((with_reducible refine (none_any _ _ (by go_simp)).mono ?_); rintro e w' ⟨rfl, rfl⟩) | (with_reducible refine (is_any _ _).mono ?_; rintro e w' ⟨rfl, rfl⟩))
    go_ret
    exact ⟨rfl, rfl⟩
  · by_cases h2 : 3 < i
    · have H : failE f i = 2 := by unfold failE; rw [if_pos (Or.inr h2)]
      have hB : isB i = false := by simp [isB]; omega
      rw [H]; clear H he h
      go_enter Try.func23, Try.ntmps23
      go_wp2_with (first | ((with_reducible refine (none_any _ _ (by go_simp)).mono ?_); rintro e w' ⟨rfl, rfl⟩) | (with_reducible refine (is_any _ _).mono ?_; rintro e w' ⟨rfl, rfl⟩))
      go_ret
      exact ⟨rfl, rfl⟩
    · have h3 : 0 ≤ f := by unfold failE at he; rw [if_neg (by omega)] at he; split at he <;> omega
      have H : failE f i = 5 := by unfold failE; rw [if_neg (by omega), if_pos h3]
      have hB : isB i = true := by simp [isB]; omega
      have h1' : 0 ≤ i := by omega
      rw [H]; clear H he h h1
      go_enter Try.func23, Try.ntmps23
      go_wp2_with (first | ((with_reducible refine (none_any _ _ (by go_simp)).mono ?_); rintro e w' ⟨rfl, rfl⟩) | (with_reducible refine (is_any _ _).mono ?_; rintro e w' ⟨rfl, rfl⟩))
      go_ret
      exact ⟨rfl, rfl⟩
set_option maxHeartbeats 1600000 in
theorem fail_yes (b : Nat) (s0 s1 s2 s3 f i : Int) (w : World) (h : w.heap[b]? = some (setO s0 s1 s2 s3 f)) (he : failE f i = 0) :
    Calls Try.prog 23 #[.pointer (some ⟨b, 0, none⟩), .int .i64 i] w fun e w' => e = .returned (.int .i64 0) ∧
      w'.heap[b]? = some (setO (if i = 0 then 0 else s0) (if i = 1 then 0 else s1) (if i = 2 then 0 else s2) (if i = 3 then 0 else s3) i) ∧ Mod (fun x => x = b) w w' := by
  have x0 : w.cell? ⟨b, 0, none⟩ = some (.int .i64 s0) := cell_of h rfl
  have x1 : w.cell? ⟨b, 1, none⟩ = some (.int .i64 s1) := cell_of h rfl
  have x2 : w.cell? ⟨b, 2, none⟩ = some (.int .i64 s2) := cell_of h rfl
  have x3 : w.cell? ⟨b, 3, none⟩ = some (.int .i64 s3) := cell_of h rfl
  have x4 : w.cell? ⟨b, 4, none⟩ = some (.int .i64 f) := cell_of h rfl
  have x5 : w.cell? ⟨b, 5, none⟩ = some (.bool true) := cell_of h rfl
  have y0 : w.frozen? ⟨b, 0, none⟩ = false := free_of h
  have y1 : w.frozen? ⟨b, 1, none⟩ = false := free_of h
  have y2 : w.frozen? ⟨b, 2, none⟩ = false := free_of h
  have y3 : w.frozen? ⟨b, 3, none⟩ = false := free_of h
  have y4 : w.frozen? ⟨b, 4, none⟩ = false := free_of h
  have hi : (i = 0 ∨ i = 1 ∨ i = 2 ∨ i = 3) ∧ f < 0 := by unfold failE at he; split at he; omega; split at he <;> omega
  obtain ⟨hi, hf⟩ := hi
  have hB : isB i = true := by simp [isB]; omega
  have H := Lib.hid h; clear h he
  rcases hi with rfl | rfl | rfl | rfl
  all_goals
    go_enter Try.func23, Try.ntmps23
    go_wp2_with (first | ((with_reducible refine (none_any _ _ (by go_simp)).mono ?_); rintro e w' ⟨rfl, rfl⟩) | (with_reducible refine (is_any _ _).mono ?_; rintro e w' ⟨rfl, rfl⟩))
    go_region
    go_wp2_with (fail)
    go_ret
    refine ⟨rfl, ?_, ?_⟩
    · apply hp_as
      focus
        repeat' (first | (with_reducible apply hp_drew) | (with_reducible apply hp_old) | (with_reducible apply hp_set))
        exact H.out
      simp [setO]
    · repeat' (first | (with_reducible exact Mod.refl _ _) | (with_reducible apply Mod.drew) | (with_reducible apply Mod.alloc) | (with_reducible apply mod_at))
end Go.Proofs.Ytcmmjikkoebboaa
