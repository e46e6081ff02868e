/-
  The walk of the law ConvolMemory. Conditions: none.
-/
import Derived.Test.YtaifnonamkidiaaAwk
namespace Go.Proofs.Ytaifnonamkidiaa
open Go.RowKit Kit
set_option linter.unusedVariables false
/-- How many of the first k steps lead to the state n. -/
def manyTo (n k : Nat) : Nat := ((List.range k).filter fun i => nx (i / 2) (i % 2) = n).length
theorem manyTo_succ (n k : Nat) : manyTo n (k + 1) = manyTo n k + if nx (k / 2) (k % 2) = n then 1 else 0 := by
  unfold manyTo
  rw [List.range_succ, List.filter_append]
  by_cases h : nx (k / 2) (k % 2) = n <;> simp [h]
theorem manyTo_le (n k : Nat) : manyTo n k ≤ k := by unfold manyTo; have := List.length_filter_le (fun i => decide (nx (i / 2) (i % 2) = n)) (List.range k); simpa using this
theorem manyTo_all : ∀ s : Fin 64, ∀ b : Fin 2, manyTo (nx s.val b.val) 128 = 2 := by decide +kernel
theorem mem_facts : ∀ s : Fin 64, ∀ b : Fin 2, nx s.val b.val = 32 * b.val + s.val / 2 ∧ o1 s.val b.val < 2 ∧ o2 s.val b.val < 2 ∧ o1 s.val (1 - b.val) = 1 - o1 s.val b.val ∧ o2 s.val (1 - b.val) = 1 - o2 s.val b.val := by decide +kernel
theorem step_at' (s b : Nat) (hs : s < 64) (hb : b < 2) (si bi : Int) (h1 : si = s) (h2 : bi = b) (w : World) (x y z : Nat) (hx : nx s b = x) (hy : o1 s b = y) (hz : o2 s b = z) :
    Calls Try.prog 9 #[.int .i64 si, .int .i64 bi] w fun e w' => e = .returned (.tuple #[.int .i64 x, .int .i64 y, .int .i64 z]) ∧ w = w' := by
  subst hx hy hz; exact step_at s b hs hb si bi h1 h2 w
set_option maxHeartbeats 1600000 in
theorem memory_at (a0 a1 : Int) (s b n y z : Nat) (h0 : 0 ≤ a0 ∧ a0 ≤ 255) (h1 : 0 ≤ a1 ∧ a1 ≤ 255) (hs : a0 % 64 = s) (hb : a1 % 2 = b) (hn : nx s b = n) (hy : o1 s b = y) (hz : o2 s b = z) (w : World) :
    Calls Try.prog 6 #[.int .u8 a0, .int .u8 a1] w fun e w' => e = .returned (.bool true) ∧ Below w.heap.size w w' := by
  have hs64 : s < 64 := by omega
  have hb2 : b < 2 := by omega
  obtain ⟨f1, f2, f3, f4, f5⟩ := mem_facts ⟨s, hs64⟩ ⟨b, hb2⟩
  have f6 := manyTo_all ⟨s, hs64⟩ ⟨b, hb2⟩
  simp only at f1 f2 f3 f4 f5 f6
  rw [hn] at f1 f6; rw [hy] at f2 f4; rw [hz] at f3 f5
  have HN := Lib.hid hn; have HY := Lib.hid hy; have HZ := Lib.hid hz
  have F1 : Hid (n = 32 * b + s / 2) := Lib.hid f1
  have F4 := Lib.hid f4; have F5 := Lib.hid f5; have F6 := Lib.hid f6
  have HS := Lib.hid hs
  have HB := Lib.hid hb
  clear hn hy hz f1 f4 f5 f6 hs hb
  obtain ⟨p0, p1⟩ := h0; obtain ⟨p2, p3⟩ := h1
  go_enter Try.func6, Try.ntmps6
  go_wp2_with (fail)
  rw [HS.out, HB.out]
  refine (step_at' s b hs64 hb2 _ _ rfl rfl _ n y z HN.out HY.out HZ.out).mono ?_
  rintro e _ ⟨rfl, rfl⟩
  have e1 : ((n : Int) != 32 * (b : Int) + (s : Int) / 2) = false := by have := F1.out; simp; omega
  have e2 : ¬ (y : Int) < 0 := by omega
  have e3 : ¬ (1 : Int) < (y : Int) := by omega
  have e4 : ¬ (z : Int) < 0 := by omega
  have e5 : ¬ (1 : Int) < (z : Int) := by omega
  go_wp2_with (fail)
  go_loop [10, 11] (fun m i => ∃ k : Nat, k ≤ 64 ∧ i = .int .i64 k ∧ m = .int .i64 (manyTo n (2 * k))) (fun _ i => 64 - (intOf i).toNat)
  case atStart => exact ⟨0, by omega, rfl, rfl⟩
  case round =>
    obtain ⟨k, hk, rfl, rfl⟩ := hrel
    by_cases hlt : k < 64
    · obtain ⟨m, hm⟩ : ∃ m, Hid (m = manyTo n (2 * k)) := ⟨_, Lib.hid rfl⟩
      have ml : m ≤ 200 := by have := manyTo_le n (2 * k); have := hm.out; omega
      have c1 := manyTo_succ n (2 * k)
      have c2 := manyTo_succ n (2 * k + 1)
      rw [← hm.out] at c1 ⊢
      rw [show 2 * k / 2 = k by omega, show 2 * k % 2 = 0 by omega] at c1
      rw [show (2 * k + 1) / 2 = k by omega, show (2 * k + 1) % 2 = 1 by omega, c1] at c2
      obtain ⟨x0, hx0⟩ : ∃ x, nx k 0 = x := ⟨_, rfl⟩
      obtain ⟨x1, hx1⟩ : ∃ x, nx k 1 = x := ⟨_, rfl⟩
      have C : Hid (manyTo n (2 * (k + 1)) = m + (if x0 = n then 1 else 0) + if x1 = n then 1 else 0) := Lib.hid (by rw [← hx0, ← hx1]; exact c2)
      have X0 := Lib.hid hx0; have X1 := Lib.hid hx1
      clear c1 c2 hx0 hx1
      have t0 : ((x0 : Int) == (n : Int)) = true ∧ Hid (x0 = n) ∨ ((x0 : Int) == (n : Int)) = false ∧ Hid (x0 ≠ n) := by
        by_cases h : x0 = n
        · left; exact ⟨by simp [h], Lib.hid h⟩
        · right; exact ⟨by simp; omega, Lib.hid h⟩
      have t1 : ((x1 : Int) == (n : Int)) = true ∧ Hid (x1 = n) ∨ ((x1 : Int) == (n : Int)) = false ∧ Hid (x1 ≠ n) := by
        by_cases h : x1 = n
        · left; exact ⟨by simp [h], Lib.hid h⟩
        · right; exact ⟨by simp; omega, Lib.hid h⟩
      rcases t0 with ⟨t0, T0⟩ | ⟨t0, T0⟩ <;> rcases t1 with ⟨t1, T1⟩ | ⟨t1, T1⟩
      all_goals
        go_wp2_with (fail)
        refine wp_loop_rounds 3 ?_
        rw [rounds_succ]
        go_wp2_with (fail)
        refine (step_at' k 0 (by omega) (by omega) _ _ rfl rfl _ x0 _ _ X0.out rfl rfl).mono ?_
        rintro e _ ⟨rfl, rfl⟩
        go_wp2_with (fail)
        rw [rounds_succ]
        go_wp2_with (fail)
        refine (step_at' k 1 (by omega) (by omega) _ _ rfl rfl _ x1 _ _ X1.out rfl rfl).mono ?_
        rintro e _ ⟨rfl, rfl⟩
        go_wp2_with (fail)
        rw [rounds_succ]
        go_wp2_with (fail)
        go_round
        case rel => exact ⟨k + 1, by omega, by go_num, by rw [C.out]; simp [T0.out, T1.out]⟩
        case measure => simp [intOf]; omega
    · have he : k = 64 := by omega
      subst he
      rw [show manyTo n (2 * 64) = 2 from F6.out]
      go_wp2_with (fail)
      refine (step_at' s (1 - b) hs64 (by omega) _ _ rfl (by omega) _ (32 * (1 - b) + s / 2) (1 - y) (1 - z) ?_ F4.out F5.out).mono ?_
      · exact (mem_facts ⟨s, hs64⟩ ⟨1 - b, by omega⟩).1
      rintro e _ ⟨rfl, rfl⟩
      go_wp2_with (fail)
      refine (awake_any _).mono ?_
      rintro e w1 ⟨rfl, hb1⟩
      have HB := Lib.hid hb1; clear hb1
      go_wp2_with (fail)
      go_ret
      exact ⟨rfl, HB.out⟩
theorem wf8 {a : Int} (h : (Lit.int .u8 a).wf = true) : 0 ≤ a ∧ a ≤ 255 := by
  simpa [Lit.wf, IntKind.min, IntKind.max, IntKind.signed, IntKind.bits] using h
theorem ConvolMemory_walk (a0 : Int) (a1 : Int) (w : World) (w0 : (Lit.int .u8 a0).wf = true) (w1 : (Lit.int .u8 a1).wf = true) :
    Calls Try.prog 6 #[.int .u8 a0, .int .u8 a1] w fun e w' => e = .returned (.bool true) ∧ Below w.heap.size w w' := by
  have h0 := wf8 w0
  have h1 := wf8 w1
  exact memory_at a0 a1 (a0 % 64).toNat (a1 % 2).toNat _ _ _ h0 h1 (by omega) (by omega) rfl rfl rfl w
end Go.Proofs.Ytaifnonamkidiaa
