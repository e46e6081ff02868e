/-
  The walks of fixed.Hypot at four numbers, and of quats.Valid. Conditions: numbers of 64 bits.
-/
import Derived.Test.YtfjhlgmdkkdooaaFix
import Derived.Laws.Externs
namespace Go.Proofs.Ytfjhlgmdkkdooaa
open Go.RowKit Kit
set_option linter.unusedVariables false
theorem add64 (x y : Nat) (hx : x < 18446744073709551616) (hy : y < 18446744073709551616) (w : World) :
    (callFunc 34 #[.int .u64 x, .int .u64 y, .int .u64 0]).run Try.prog w = .ok (.value (.tuple #[.int .u64 (((x + y) % 18446744073709551616 : Nat) : Int), .int .u64 (((x + y) / 18446744073709551616 : Nat) : Int)])) w := by
  rw [run_callFunc_extern Try.func34 (by kernel_rfl) (by kernel_rfl) (by kernel_rfl) (e := add64Entry) (by kernel_rfl), run_add64 x y 0 (by omega) (by omega) (by omega) (by omega)]
  simp only [Result.andThen]
  congr 5 <;> omega
/-- The sum of the squares of the first numbers. -/
def sq (L : List Int) : Nat → Nat
  | 0 => 0
  | i + 1 => sq L i + (L.getD i 0).natAbs * (L.getD i 0).natAbs
theorem sq_mono (L : List Int) {i j : Nat} (h : i ≤ j) : sq L i ≤ sq L j := by
  induction h with
  | refl => exact Nat.le_refl _
  | step _ ih => exact Nat.le_trans ih (Nat.le_add_right _ _)
/-- What Hypot returns. -/
def HY (V : Nat) (e : Ending) (w w' : World) : Prop :=
  (V < 85070591730234615865843651857942052864 ∧ ∃ n : Nat, e = .returned (.tuple #[.int .i64 n, .int .i64 0]) ∧ isRoot V n ∧ w = w') ∨ (85070591730234615865843651857942052864 ≤ V ∧ e = .returned (.tuple #[.int .i64 0, .int .i64 7]) ∧ w = w')
def HR (L : List Int) (k X Y : Nat) : Prop := Y < 18446744073709551616 ∧ X < 4611686018427387904 ∧ sq L k = X * 18446744073709551616 + Y
set_option maxRecDepth 100000 in
set_option maxHeartbeats 3200000 in
theorem hypot_any (L : List Int) (hL : L.length = 4) (hb : ∀ x ∈ L, -9223372036854775808 ≤ x ∧ x ≤ 9223372036854775807) (B c : Nat) (w : World) (hc : ∀ i, i < 4 → w.cell? ⟨B, i, none⟩ = some (.int .i64 (L.getD i 0))) :
    Calls Try.prog 26 #[.slice (some ⟨B, 0, none⟩) 4 c] w fun e w' => HY (sq L 4) e w w' := by
  have HC := Lib.hid hc; have HBD := Lib.hid hb; have HL := Lib.hid hL
  clear hc hb hL
  go_enter Try.func26, Try.ntmps26
  go_wp2_with (fail)
  go_loop [4, 5, 16] (fun h l i => ∃ (k X Y : Nat), k ≤ 4 ∧ i = .int .i64 k ∧ h = .int .u64 X ∧ l = .int .u64 Y ∧ HR L k X Y) (fun _ _ i => 4 - (intOf i).toNat)
  case atStart => exact ⟨0, 0, 0, by omega, rfl, rfl, rfl, ⟨by omega, by omega, rfl⟩⟩
  case round =>
    obtain ⟨k, X, Y, hk, rfl, rfl, rfl, hh⟩ := hrel
    have HHR := Lib.hid hh
    obtain ⟨hY, hX, hs⟩ := hh
    have HS := Lib.hid hs; clear hs
    by_cases hlt : k < 4
    · have hck := HC.out k hlt
      obtain ⟨a, ha⟩ : ∃ a, a = L.getD k 0 := ⟨_, rfl⟩
      have hab : -9223372036854775808 ≤ a ∧ a ≤ 9223372036854775807 := by
        have hl := HL.out
        have : L.getD k 0 = L[k] := by simp [List.getD_eq_getElem?_getD, List.getElem?_eq_getElem (show k < L.length by omega)]
        rw [ha, this]; exact HBD.out _ (List.getElem_mem _)
      have hsk : sq L (k + 1) = sq L k + a.natAbs * a.natAbs := by rw [ha]; rfl
      rw [← ha] at hck
      clear ha
      obtain ⟨x, hx⟩ : ∃ x, x = a.natAbs := ⟨_, rfl⟩
      have hx2 : x ≤ 9223372036854775808 := by omega
      rw [← hx] at hsk
      have SZ : Hid (∀ w, Calls Try.prog 33 #[.int .i64 a] w fun e w' => e = .returned (.int .u64 (x : Int)) ∧ w = w') := Lib.hid (fun w => by rw [hx]; exact size_any a hab w)
      obtain ⟨p, hp⟩ : ∃ p, p = x * x / 18446744073709551616 := ⟨_, rfl⟩
      obtain ⟨q, hq⟩ : ∃ p, p = x * x % 18446744073709551616 := ⟨_, rfl⟩
      have hxx : x * x ≤ 9223372036854775808 * 9223372036854775808 := Nat.mul_le_mul hx2 hx2
      have hpq : x * x = p * 18446744073709551616 + q := by rw [hp, hq]; omega
      have hq2 : q < 18446744073709551616 := by rw [hq]; omega
      have hp2 : p ≤ 4611686018427387904 := by omega
      have MU : Hid (∀ w, Calls Try.prog 32 #[.int .u64 x, .int .u64 x] w fun e w' => e = .returned (.tuple #[.int .u64 p, .int .u64 q]) ∧ w = w') := Lib.hid (fun w => by
        refine (Try.bits_Mul64 x x (by omega) (by omega) w).mono ?_
        rintro e w' ⟨rfl, rfl⟩
        rw [hp, hq]; exact ⟨rfl, rfl⟩)
      obtain ⟨s, hs⟩ : ∃ p, p = (Y + q) % 18446744073709551616 := ⟨_, rfl⟩
      obtain ⟨t, ht⟩ : ∃ p, p = (Y + q) / 18446744073709551616 := ⟨_, rfl⟩
      have ht2 : t ≤ 1 := by rw [ht]; omega
      have hs2 : s < 18446744073709551616 := by rw [hs]; omega
      have A : ∀ w, (callFunc 34 #[.int .u64 Y, .int .u64 q, .int .u64 0]).run Try.prog w = .ok (.value (.tuple #[.int .u64 s, .int .u64 t])) w := fun w => by rw [hs, ht]; exact add64 Y q hY hq2 w
      have hnew : Hid (sq L (k + 1) = (X + (p + t)) * 18446744073709551616 + s) := Lib.hid (by rw [hsk, HS.out, hpq]; omega)
      clear hp hq hs ht hx hpq hxx hsk hab
      have w1 : IntKind.u64.wrap ((p : Int) + (t : Int)) = (p : Int) + (t : Int) := by simp only [IntKind.wrap, IntKind.bits, IntKind.signed]; simp; omega
      have w2 : IntKind.u64.wrap ((X : Int) + ((p : Int) + (t : Int))) = (X : Int) + ((p : Int) + (t : Int)) := by simp only [IntKind.wrap, IntKind.bits, IntKind.signed]; simp; omega
      have W1 := Lib.hid w1; have W2 := Lib.hid w2
      clear w1 w2
      by_cases hbig : (4611686018427387904 : Int) ≤ (X : Int) + ((p : Int) + (t : Int))
      · have R : Hid (HY (sq L 4) (.returned (.tuple #[.int .i64 0, .int .i64 7])) w w) := Lib.hid (.inr ⟨by
          have h1 := sq_mono L (show k + 1 ≤ 4 by omega)
          have h2 := hnew.out
          omega, rfl, rfl⟩)
        clear hnew
        go_wp2_with (first | ((with_reducible refine (SZ.out _).mono ?_); rintro e w' ⟨rfl, rfl⟩) | ((with_reducible refine (MU.out _).mono ?_); rintro e w' ⟨rfl, rfl⟩))
        go_ret2
        exact R.out
      · have KN : HR L (k + 1) (X + (p + t)) s := ⟨hs2, by omega, hnew.out⟩
        have HKN := Lib.hid KN
        obtain ⟨bF, hbF⟩ : ∃ b, decide ((4611686018427387904 : Int) ≤ (X : Int) + ((p : Int) + (t : Int))) = b := ⟨_, rfl⟩
        have HF : Hid (bF = false) := Lib.hid (by rw [← hbF, decide_eq_false_iff_not]; exact hbig)
        clear KN hnew hbig
        go_wp2_with (first | ((with_reducible refine (SZ.out _).mono ?_); rintro e w' ⟨rfl, rfl⟩) | ((with_reducible refine (MU.out _).mono ?_); rintro e w' ⟨rfl, rfl⟩))
        · exfalso
          have h1 := HF.out
          simp_all
        · go_round
          case rel => exact ⟨k + 1, X + (p + t), s, by omega, by go_num, by simp, rfl, HKN.out⟩
          case measure => simp [intOf]; omega
    · have he : k = 4 := by omega
      subst he
      have R : Hid (∀ n : Nat, isRoot (X * 18446744073709551616 + Y) n → n < 9223372036854775808 → HY (sq L 4) (.returned (.tuple #[.int .i64 n, .int .i64 0])) w w) := Lib.hid (fun n hn _ => .inl ⟨by rw [HS.out]; omega, n, rfl, by rw [HS.out]; exact hn, rfl⟩)
      have RA : Hid (∀ w, Calls Try.prog 35 #[.int .u64 X, .int .u64 Y] w fun e w' => RT (X * 18446744073709551616 + Y) e w w') := Lib.hid (fun w => root_any X Y hX hY w)
      clear hY hX
      go_wp2_with (fail)
      refine (RA.out _).mono ?_
      rintro e w' ⟨n, rfl, hn, hn2, rfl⟩
      have R2 := Lib.hid (R.out n hn hn2)
      have hn3 : (n : Int) ≤ 9223372036854775807 := by omega
      clear R hn hn2
      go_wp2_with (fail)
      go_ret2
      exact R2.out
/-! Valid -/
def qv (L : List Int) : Bool := decide (1152921496016912400 ≤ sq L 4 ∧ sq L 4 < 1152921515344265241)
theorem qv_root {V n : Nat} (h : isRoot V n) : (1073741820 ≤ n ↔ 1152921496016912400 ≤ V) ∧ (n ≤ 1073741828 ↔ V < 1152921515344265241) := by
  obtain ⟨h1, h2⟩ := h
  refine ⟨⟨fun h => ?_, fun h => ?_⟩, ⟨fun h => ?_, fun h => ?_⟩⟩
  · have := Nat.mul_le_mul h h; omega
  · rcases Nat.lt_or_ge n 1073741820 with h' | h'
    · have := Nat.mul_le_mul (show n + 1 ≤ 1073741820 from h') (show n + 1 ≤ 1073741820 from h'); omega
    · exact h'
  · have := Nat.mul_le_mul (show n + 1 ≤ 1073741829 by omega) (show n + 1 ≤ 1073741829 by omega); omega
  · rcases Nat.lt_or_ge 1073741828 n with h' | h'
    · have := Nat.mul_le_mul (show 1073741829 ≤ n from h') (show 1073741829 ≤ n from h'); omega
    · exact h'
def VQ (a b c d : Int) (e : Ending) (w w' : World) : Prop := e = .returned (.bool (qv [a, b, c, d])) ∧ w' = w.alloc (.cells #[.int .i64 a, .int .i64 b, .int .i64 c, .int .i64 d] 28)
set_option maxHeartbeats 3200000 in
theorem valid_any (a b c d : Int) (h : ∀ x ∈ [a, b, c, d], -9223372036854775808 ≤ x ∧ x ≤ 9223372036854775807) (w : World) :
    Calls Try.prog 20 #[.agg #[.int .i64 a, .int .i64 b, .int .i64 c, .int .i64 d]] w fun e w' => VQ a b c d e w w' := by
  have H := Lib.hid h; clear h
  obtain ⟨Q, hQ⟩ : ∃ Q, Hid (Q = qv [a, b, c, d]) := ⟨_, Lib.hid rfl⟩
  have R : Hid (∀ B, Q = B → VQ a b c d (.returned (.bool B)) w (w.alloc (.cells #[.int .i64 a, .int .i64 b, .int .i64 c, .int .i64 d] 28))) := Lib.hid (fun B hB => ⟨by rw [← hB, hQ.out], rfl⟩)
  have hn := hp_new w (.cells #[.int .i64 a, .int .i64 b, .int .i64 c, .int .i64 d] 28)
  go_enter Try.func20, Try.ntmps20
  go_wp2_with (fail)
  refine (hypot_any [a, b, c, d] rfl H.out w.heap.size 4 _ (fun i hi => ?_)).mono ?_
  · have hi' : i = 0 ∨ i = 1 ∨ i = 2 ∨ i = 3 := by omega
    rcases hi' with rfl | rfl | rfl | rfl
    · exact cell_of (i := 0) hn rfl
    · exact cell_of (i := 1) hn rfl
    · exact cell_of (i := 2) hn rfl
    · exact cell_of (i := 3) hn rfl
  · rintro e w' (⟨h1, n, rfl, hr, rfl⟩ | ⟨h1, rfl, rfl⟩)
    · obtain ⟨q1, q2⟩ := qv_root hr
      have K : Hid (Q = decide (1073741820 ≤ n ∧ n ≤ 1073741828)) := Lib.hid (by rw [hQ.out, Bool.eq_iff_iff]; unfold qv; simp only [decide_eq_true_eq]; rw [q1, q2])
      clear h1 hr q1 q2 hn
      by_cases c1 : (1073741820 : Int) ≤ (n : Int)
      · by_cases c2 : (n : Int) ≤ 1073741828
        · have k := Lib.hid (R.out true (by rw [K.out]; simp; omega))
          clear R
          go_wp2_with (fail)
          go_ret
          exact k.out
        · have k := Lib.hid (R.out false (by rw [K.out, decide_eq_false_iff_not]; omega))
          have hd : decide ((n : Int) ≤ 1073741828) = false := by rw [decide_eq_false_iff_not]; exact c2
          clear R c2
          go_wp2_with (fail)
          go_ret
          exact k.out
      · have k := Lib.hid (R.out false (by rw [K.out, decide_eq_false_iff_not]; omega))
        obtain ⟨bF, hbF⟩ : ∃ b, decide ((1073741820 : Int) ≤ (n : Int)) = b := ⟨_, rfl⟩
        have HF : Hid (bF = false) := Lib.hid (by rw [← hbF, decide_eq_false_iff_not]; exact c1)
        clear R c1
        go_wp2_with (fail)
        · exfalso
          have h1 := HF.out
          simp_all
        · go_ret
          exact k.out
    · have k := Lib.hid (R.out false (by rw [hQ.out]; unfold qv; rw [decide_eq_false_iff_not]; omega))
      clear R h1 hn
      go_wp2_with (fail)
      go_ret
      exact k.out
end Go.Proofs.Ytfjhlgmdkkdooaa
