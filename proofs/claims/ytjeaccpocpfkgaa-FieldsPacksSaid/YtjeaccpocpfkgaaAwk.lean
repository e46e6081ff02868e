/-
  The contract of fields.Pack, and the walk of awake. Conditions: slices of at most 1000 elements.
-/
import Derived.Test.YtjeaccpocpfkgaaPack
namespace Go.Proofs.Ytjeaccpocpfkgaa
open Go.RowKit Kit
set_option linter.unusedVariables false
theorem pack_any (X V : List Int) (a a' : Option Addr) (n n' c c' : Nat) (w : World) (hX : Nums .i64 w a n c X) (hV : Nums .u64 w a' n' c' V) (hn : n ≤ 1000) (hn' : n' ≤ 1000) (hV64 : ∀ x ∈ V, 0 ≤ x ∧ x < 18446744073709551616) :
    Calls Try.prog 23 #[.slice a n c, .slice a' n' c'] w fun e w' => e = .returned (packR X V) ∧ Below w.heap.size w w' := by
  have N1 := hX.1
  have N2 := hV.1
  by_cases hok : okW X
  · have SA := Lib.hid (fun W h => sum_any X a n c W h (by omega))
    have hsR : sumR X = .tuple #[.int .i64 (offs (wid X) X.length : Nat), .bool true] := by unfold sumR; rw [if_pos hok]
    rw [hsR] at SA
    by_cases hl : n = n'
    · by_cases hs : offs (wid X) X.length ≤ 524288
      · have hz : packR X V = if fitsA X V then .tuple #[.string (packB X V), .int .i64 0] else .tuple #[emp, .int .i64 7] := by
          unfold packR; rw [if_neg (by rintro (h | h); exact h hok; exact h (by omega)), if_neg (by omega)]
        rw [hz]
        subst hl
        exact pack_good X V a a' n c c' w hX hV hn hV64 hok hs
      · have hz : packR X V = .tuple #[emp, .int .i64 3] := by
          unfold packR; rw [if_neg (by rintro (h | h); exact h hok; exact h (by omega)), if_pos (by omega)]
        rw [hz]
        have hle := offs_le X hok X.length (Nat.le_refl _)
        obtain ⟨s, hss⟩ : ∃ s, s = offs (wid X) X.length := ⟨_, rfl⟩
        rw [← hss] at SA hs hle
        have HX := Lib.hid hX
        have hne : ((n : Int) != (n' : Int)) = false := by simp; omega
        clear hz hss hsR hX hok N1 N2 hl hV
        go_enter Try.func23, Try.ntmps23
        go_wp2_with (fail)
        refine (SA.out _ HX.out).mono ?_
        rintro e _ ⟨rfl, rfl⟩
        go_wp2_with (fail)
        go_ret2
        exact ⟨rfl, Below.refl _ _⟩
    · have hz : packR X V = .tuple #[emp, .int .i64 2] := by
        unfold packR; rw [if_pos (.inr (by omega))]
      rw [hz]
      obtain ⟨s, hss⟩ : ∃ s, s = offs (wid X) X.length := ⟨_, rfl⟩
      rw [← hss] at SA
      have HX := Lib.hid hX
      have hne : ((n : Int) != (n' : Int)) = true := by simp; omega
      clear hz hss hsR hX hok N1 N2 hl hV
      go_enter Try.func23, Try.ntmps23
      go_wp2_with (fail)
      refine (SA.out _ HX.out).mono ?_
      rintro e _ ⟨rfl, rfl⟩
      go_wp2_with (fail)
      go_ret2
      exact ⟨rfl, Below.refl _ _⟩
  · have hz : packR X V = .tuple #[emp, .int .i64 2] := by
      unfold packR; rw [if_pos (.inl hok)]
    rw [hz]
    have SA := Lib.hid (fun W h => sum_any X a n c W h (by omega))
    have hsR : sumR X = .tuple #[.int .i64 0, .bool false] := by unfold sumR; rw [if_neg hok]
    rw [hsR] at SA
    have HX := Lib.hid hX
    clear hz hsR hX hok N1 N2 hV
    go_enter Try.func23, Try.ntmps23
    go_wp2_with (fail)
    refine (SA.out _ HX.out).mono ?_
    rintro e _ ⟨rfl, rfl⟩
    go_wp2_with (fail)
    go_ret2
    exact ⟨rfl, Below.refl _ _⟩
theorem aw1 : getR ⟨#[165, 195]⟩ 4 8 = .tuple #[.int .u64 92, .int .i64 0] := by kernel_rfl
theorem aw2 : sgnR ⟨#[165, 195]⟩ 0 4 = .tuple #[.int .i64 (-6), .int .i64 0] := by kernel_rfl
theorem aw3 : putR ⟨#[0, 0]⟩ 6 4 11 = .tuple #[.string ⟨#[2, 192]⟩, .int .i64 0] := by kernel_rfl
theorem aw4 : psR ⟨#[255]⟩ 0 4 (-8) = .tuple #[.string ⟨#[143]⟩, .int .i64 0] := by kernel_rfl
theorem aw5 : packR [3, 2, 7] [5, 1, 100] = .tuple #[.string ⟨#[174, 64]⟩, .int .i64 0] := by kernel_rfl
theorem aw6 : distR ⟨#[255, 0]⟩ ⟨#[15, 1]⟩ = .tuple #[.int .i64 5, .int .i64 0] := by kernel_rfl
theorem nums_new (k : IntKind) (w : World) (X : List Int) (t : TypeId) (hX : X.length ≤ 1000) : Nums k (w.alloc (.cells (X.map (Value.int k)).toArray t)) (some ⟨w.heap.size, 0, none⟩) X.length X.length X :=
  ⟨rfl, Nat.le_refl _, by unfold maxLen; omega, fun i x hx => ⟨_, _, rfl, by simp, cell_of (hp_new w _) (by simp [hx])⟩⟩
set_option maxRecDepth 100000 in
theorem awake_any (w : World) : Calls Try.prog 9 #[] w fun e w' => e = .returned (.bool true) ∧ Below w.heap.size w w' := by
  go_enter Try.func9, Try.ntmps9
  go_wp2_with (fail)
  refine (get_any _ 4 8 _ (by decide)).mono ?_
  rw [aw1]
  rintro e w1 ⟨rfl, b1⟩
  have B1 := Lib.hid b1
  clear b1
  go_wp2_with (fail)
  refine (signed_any _ 0 4 _ (by decide)).mono ?_
  rw [aw2]
  rintro e w2 ⟨rfl, b2⟩
  have B2 := Lib.hid (bl_step B1.out b2)
  clear b2 B1
  go_wp2_with (fail)
  refine (put_any _ 6 4 11 (by decide) _ (by decide)).mono ?_
  rw [aw3]
  rintro e w3 ⟨rfl, b3⟩
  have B3 := Lib.hid (bl_step B2.out b3)
  clear b3 B2
  go_wp2_with (fail)
  refine (psigned_any _ 0 4 (-8) _ (by decide) (by decide)).mono ?_
  rw [aw4]
  rintro e w4 ⟨rfl, b4⟩
  have B4 := Lib.hid (bl_step B3.out b4)
  clear b4 B3
  go_wp2_with (fail)
  have n1 : Nums .i64 ((w4.alloc (.cells #[.int .i64 3, .int .i64 2, .int .i64 7] 3)).alloc (.cells #[.int .u64 5, .int .u64 1, .int .u64 100] 23)) (some ⟨w4.heap.size, 0, none⟩) 3 3 [3, 2, 7] :=
    Nums.below (nums_new .i64 w4 [3, 2, 7] 3 (by decide)) (bl_alloc (Below.refl _ _) _)
  have n2 : Nums .u64 ((w4.alloc (.cells #[.int .i64 3, .int .i64 2, .int .i64 7] 3)).alloc (.cells #[.int .u64 5, .int .u64 1, .int .u64 100] 23)) (some ⟨w4.heap.size + 1, 0, none⟩) 3 3 [5, 1, 100] := by
    have := nums_new .u64 (w4.alloc (.cells #[.int .i64 3, .int .i64 2, .int .i64 7] 3)) [5, 1, 100] 23 (by decide)
    rw [World.size_alloc] at this
    exact this
  have B5 : Hid (Below w.heap.size w ((w4.alloc (.cells #[.int .i64 3, .int .i64 2, .int .i64 7] 3)).alloc (.cells #[.int .u64 5, .int .u64 1, .int .u64 100] 23))) := Lib.hid (bl_alloc (bl_alloc B4.out _) _)
  refine (pack_any [3, 2, 7] [5, 1, 100] _ _ 3 3 3 3 _ n1 n2 (by decide) (by decide) (by decide)).mono ?_
  rw [aw5]
  rintro e w6 ⟨rfl, b6⟩
  have B6 := Lib.hid (bl_step B5.out b6)
  clear b6 B5 B4 n1 n2
  go_wp2_with (fail)
  refine (dist_any _ _ _ (by decide) (by decide)).mono ?_
  rw [aw6]
  rintro e _ ⟨rfl, n, rfl⟩
  go_wp2_with (fail)
  go_ret
  exact ⟨rfl, below_drewN B6.out n⟩
end Go.Proofs.Ytjeaccpocpfkgaa
