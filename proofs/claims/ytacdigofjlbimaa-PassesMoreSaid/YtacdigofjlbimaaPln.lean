/-
  Plans: the walks of checked and wrong, of Value and Feasible, and of the reference's. Conditions: those that each theorem names.
-/
import Derived.Test.YtacdigofjlbimaaChk
namespace Go.Proofs.Ytacdigofjlbimaa
open Go.RowKit Kit
set_option linter.unusedVariables false
def pv (P : List Int) (i : Nat) : Int := P.getD i 0
/-- A slice of numbers, as a list. -/
def NS (w : World) (a : Option Addr) (n c : Nat) (P : List Int) : Prop :=
  n = P.length ∧ n ≤ c ∧ c ≤ maxLen ∧ ∀ i, i < n → ∃ b off, a = some ⟨b, off, none⟩ ∧ b < w.heap.size ∧ w.cell? ⟨b, off + i, none⟩ = some (.int .i64 (pv P i))
theorem NS.keep {w w' : World} {a : Option Addr} {n c : Nat} {P : List Int} (h : NS w a n c P) (hk : Keep w w') : NS w' a n c P := by
  refine ⟨h.1, h.2.1, h.2.2.1, fun i hi => ?_⟩
  obtain ⟨b, off, rfl, hl, hc⟩ := h.2.2.2 i hi
  exact ⟨b, off, rfl, Nat.lt_of_lt_of_le hl hk.1, hk.2 _ _ _ hc⟩
theorem NS.below {w w' : World} {a : Option Addr} {n c : Nat} {P : List Int} (h : NS w a n c P) (hb : Below w.heap.size w w') : NS w' a n c P := h.keep (keep_below hb)
def inP (P : List Int) (n : Nat) : Prop := ∀ i, i < P.length → 0 ≤ pv P i ∧ pv P i < n
instance (P : List Int) (n : Nat) : Decidable (inP P n) := by unfold inP; exact inferInstance
/-- The error of windows, rules and a plan. -/
def chkE (L : List Wn) (g b m : Int) (P : List Int) : Int := if ckE L g b m ≠ 0 then ckE L g b m else if 40 < P.length then 3 else if inP P L.length then 0 else 2
theorem ckE_zero {L : List Wn} {g b m : Int} (hE : ckE L g b m = 0) : L.length ≤ 40 ∧ vL (wl L) L.length ∧ vR g b m := by
  unfold ckE at hE
  split at hE
  · cases hE
  · split at hE
    · rename_i h1 h2; exact ⟨by omega, h2⟩
    · cases hE
theorem chkE_zero {L : List Wn} {g b m : Int} {P : List Int} (hE : chkE L g b m P = 0) : ckE L g b m = 0 ∧ P.length ≤ 40 ∧ inP P L.length := by
  unfold chkE at hE
  split at hE
  · rename_i h; exact absurd hE h
  · rename_i h
    split at hE
    · cases hE
    · rename_i h2
      split at hE
      · rename_i h3; exact ⟨by simpa using h, by omega, h3⟩
      · cases hE
def pl (P : List Int) : List Nat := P.map Int.toNat
theorem pl_take {P : List Int} {k : Nat} (h : k < P.length) : (pl P).take (k + 1) = (pl P).take k ++ [(pv P k).toNat] := by
  rw [List.take_add_one]
  unfold pl pv
  rw [List.getElem?_map, List.getElem?_eq_getElem h, List.getD_eq_getElem?_getD, List.getElem?_eq_getElem h]
  rfl
theorem value_snoc (W : Nat → Wn) (p : List Nat) (x : Nat) : value W (p ++ [x]) = value W p + (W x).va := by rw [value_app]; simp [value]
theorem cost_snoc (W : Nat → Wn) (p : List Nat) (x : Nat) : cost W (p ++ [x]) = cost W p + (W x).co := by rw [cost_app]; simp [cost]
theorem chain_one (W : Nat → Wn) (gap : Int) (last : Option Nat) (x : Nat) : chain W gap last [x] = lastOk W gap last x := by simp [chain]
theorem chain_two (W : Nat → Wn) (gap : Int) : ∀ (last : Option Nat) (p : List Nat) (x y : Nat), chain W gap last (p ++ [y] ++ [x]) = (chain W gap last (p ++ [y]) && fol (W y) (W x) gap)
  | last, [], x, y => by simp [chain, lastOk]
  | last, z :: p, x, y => by
    have := chain_two W gap (some z) p x y
    simp only [List.cons_append, chain] at this ⊢
    rw [this, Bool.and_assoc]
theorem pl_len (P : List Int) : (pl P).length = P.length := by simp [pl]
theorem pl_all (P : List Int) : (pl P).take P.length = pl P := by rw [← pl_len]; exact List.take_length
theorem take_bound {W : Nat → Wn} {n : Nat} {P : List Int} (hv : vL W n) (hP : inP P n) : ∀ k, k ≤ P.length → (0 ≤ value W ((pl P).take k) ∧ value W ((pl P).take k) ≤ k * 1099511627776) ∧ (0 ≤ cost W ((pl P).take k) ∧ cost W ((pl P).take k) ≤ k * 1000)
  | 0, _ => by simp [value, cost]
  | k + 1, h => by
    have ih := take_bound hv hP k (by omega)
    have hp := hP k (by omega)
    have := hv (pv P k).toNat (by omega)
    unfold vW at this
    rw [pl_take (by omega), value_snoc, cost_snoc]
    omega
/-! The reference's Check -/
set_option maxHeartbeats 3200000 in
theorem rcheck_any (L : List Wn) (g b m : Int) (a : Option Addr) (n c : Nat) (w : World) (hW : WS w a n c L) :
    Calls Try.prog 9 #[.slice a n c, .agg #[.int .i64 g, .int .i64 b, .int .i64 m]] w fun e w' => e = .returned (.int .i64 (ckE L g b m)) ∧ Below w.heap.size w w' := by
  obtain ⟨R, hR⟩ : ∃ R, Hid (R = ckE L g b m) := ⟨_, Lib.hid rfl⟩
  rw [← hR.out]
  have N1 := Lib.hid hW.1; have HL := Lib.hid hW
  have hcap := hW.2.1
  have hcap2 := hW.2.2.1
  unfold maxLen at hcap2
  clear hW
  by_cases h40 : 40 < n
  · have e : R = 3 := by rw [hR.out, ckE_long (by rw [← N1.out]; exact h40)]
    subst e
    go_enter Try.func9, Try.ntmps9
    go_wp2_with (fail)
    go_ret
    exact ⟨rfl, bl_alloc (Below.refl _ _) _⟩
  · go_enter Try.func9, Try.ntmps9
    go_wp2_with (fail)
    go_loopw [5] (fun i wr => ∃ k : Nat, k ≤ n ∧ i = .int .i64 k ∧ vL (wl L) k ∧ Below w.heap.size w wr ∧ wr.heap[w.heap.size]? = some (.cells #[.int .i64 g, .int .i64 b, .int .i64 m] 24)) (fun i _ => n - (intOf i).toNat)
    case atStart => exact ⟨0, by omega, rfl, fun i hi => by omega, bl_alloc (Below.refl _ _) _, hp_new w _⟩
    case round =>
      obtain ⟨k, hk, rfl, hok, hB, hO⟩ := hrel
      have HB := Lib.hid hB; have HK := Lib.hid hok; have HO := Lib.hid hO
      have hg := hB.size
      have hg2 := lt_of_obj hO
      have r0 : wr.cell? ⟨w.heap.size, 0, none⟩ = some (.int .i64 g) := cell_of hO rfl
      have r1 : wr.cell? ⟨w.heap.size, 1, none⟩ = some (.int .i64 b) := cell_of hO rfl
      have r2 : wr.cell? ⟨w.heap.size, 2, none⟩ = some (.int .i64 m) := cell_of hO rfl
      clear hB hok hO
      by_cases hlt : k < n
      · obtain ⟨bb, off, rfl, hbl, c0, c1, c2, c3, c4⟩ := (HL.out.below HB.out).2.2.2 k hlt
        obtain ⟨x, hx⟩ : ∃ x, Hid (x = wl L k) := ⟨_, Lib.hid rfl⟩
        rw [← hx.out] at c0 c1 c2 c3 c4
        obtain ⟨fr, tt, st, va, co⟩ := x
        simp only at c0 c1 c2 c3 c4
        have V := Lib.hid (rvalid_any fr tt st va co wr)
        clear r0 r1 r2
        by_cases hv : vW ⟨fr, tt, st, va, co⟩
        · have HV := Lib.hid hv
          rw [decide_eq_true hv] at V
          clear hv
          go_wp2_with (fail)
          refine V.out.mono ?_
          rintro e w2 ⟨rfl, b2⟩
          have B2 := Lib.hid b2
          clear b2 V
          go_wp2_with (fail)
          go_roundw
          case rel => exact ⟨k + 1, by omega, by simp, vL_succ HK.out (by rw [← hx.out]; exact HV.out), bl_step HB.out B2.out, below_keeps B2.out HO.out hg2⟩
          case measure => simp [intOf]; omega
        · have e : R = 2 := by rw [hR.out, ckE_bad (by rw [← N1.out]; exact h40) (fun h => vL_not (by rw [← N1.out]; exact hlt) (by rw [← hx.out]; exact hv) h.1)]
          subst e
          rw [decide_eq_false hv] at V
          clear hv
          go_wp2_with (fail)
          refine V.out.mono ?_
          rintro e w2 ⟨rfl, b2⟩
          have B2 := Lib.hid b2
          clear b2 V
          go_wp2_with (fail)
          go_ret
          exact ⟨rfl, bl_step HB.out B2.out⟩
      · have hkn : k = n := by omega
        subst hkn
        by_cases hr : vR g b m
        · have e : R = 0 := by rw [hR.out, ckE_ok (by rw [← N1.out]; exact h40) (by rw [← N1.out]; exact HK.out) hr]
          subst e
          simp only [vR] at hr
          obtain ⟨v1, v2, v3, v4, v5, v6⟩ := hr
          go_wp2_with (fail)
          go_ret
          exact ⟨rfl, HB.out⟩
        · have e : R = 2 := by rw [hR.out, ckE_bad (by rw [← N1.out]; exact h40) (fun h => hr h.2)]
          subst e
          simp only [vR] at hr
          go_wp2_with (fail)
          all_goals first
            | (go_ret; exact ⟨rfl, HB.out⟩)
            | (exfalso; omega)
/-! checked, wrong -/
theorem chkE_bad {L : List Wn} {g b m : Int} {P : List Int} (h : ckE L g b m = 0) (h2 : ¬ 40 < P.length) (h3 : ¬ inP P L.length) : chkE L g b m P = 2 := by unfold chkE; rw [if_neg (by simpa using h), if_neg h2, if_neg h3]
theorem chkE_ok {L : List Wn} {g b m : Int} {P : List Int} (h : ckE L g b m = 0) (h2 : ¬ 40 < P.length) (h3 : inP P L.length) : chkE L g b m P = 0 := by unfold chkE; rw [if_neg (by simpa using h), if_neg h2, if_pos h3]
theorem chkE_long {L : List Wn} {g b m : Int} {P : List Int} (h : ckE L g b m = 0) (h2 : 40 < P.length) : chkE L g b m P = 3 := by unfold chkE; rw [if_neg (by simpa using h), if_pos h2]
theorem chkE_err {L : List Wn} {g b m : Int} {P : List Int} (h : ckE L g b m ≠ 0) : chkE L g b m P = ckE L g b m := by unfold chkE; rw [if_pos h]
set_option maxHeartbeats 3200000 in
theorem checked_any (L : List Wn) (g b m : Int) (P : List Int) (a : Option Addr) (n c : Nat) (a' : Option Addr) (n' c' : Nat) (w : World) (hW : WS w a n c L) (hP : NS w a' n' c' P) :
    Calls Try.prog 30 #[.slice a n c, .agg #[.int .i64 g, .int .i64 b, .int .i64 m], .slice a' n' c'] w fun e w' => e = .returned (.int .i64 (chkE L g b m P)) ∧ Below w.heap.size w w' := by
  obtain ⟨R, hR⟩ : ∃ R, Hid (R = chkE L g b m P) := ⟨_, Lib.hid rfl⟩
  rw [← hR.out]
  have N1 := Lib.hid hW.1; have N2 := Lib.hid hP.1; have HL := Lib.hid hW; have HP := Lib.hid hP
  have hcap := hW.2.1
  have hcap2 := hW.2.2.1
  have hcap' := hP.2.1
  have hcap2' := hP.2.2.1
  unfold maxLen at hcap2 hcap2'
  have C := Lib.hid (fun W h => check_any L g b m a n c W h)
  clear hW hP
  by_cases hE : ckE L g b m = 0
  · rw [hE] at C
    by_cases h40 : 40 < n'
    · have e : R = 3 := by rw [hR.out, chkE_long hE (by rw [← N2.out]; exact h40)]
      subst e
      clear hE
      go_enter Try.func30, Try.ntmps30
      go_wp2_with (fail)
      refine (C.out _ (HL.out.below (bl_alloc (Below.refl _ _) _))).mono ?_
      rintro e w1 ⟨rfl, b1⟩
      have B1 := Lib.hid (bl_go (bl_alloc (Below.refl w.heap.size w) (.cells #[.int .i64 g, .int .i64 b, .int .i64 m] 24)) b1 (by simp))
      clear b1
      go_wp2_with (fail)
      go_ret
      exact ⟨rfl, B1.out⟩
    · have HE := Lib.hid hE
      clear hE
      go_enter Try.func30, Try.ntmps30
      go_wp2_with (fail)
      refine (C.out _ (HL.out.below (bl_alloc (Below.refl _ _) _))).mono ?_
      rintro e w1 ⟨rfl, b1⟩
      have B1 := Lib.hid (bl_go (bl_alloc (Below.refl w.heap.size w) (.cells #[.int .i64 g, .int .i64 b, .int .i64 m] 24)) b1 (by simp))
      clear b1 C
      go_wp2_with (fail)
      go_loopw [9, 21] (fun _ i wr => ∃ k : Nat, k ≤ n' ∧ i = .int .i64 k ∧ (∀ i, i < k → 0 ≤ pv P i ∧ pv P i < n) ∧ Below w.heap.size w wr) (fun _ i _ => n' - (intOf i).toNat)
      case atStart => exact ⟨0, by omega, rfl, fun i hi => by omega, B1.out⟩
      case round =>
        obtain ⟨k, hk, rfl, hok, hB⟩ := hrel
        have HB := Lib.hid hB; have HK := Lib.hid hok
        clear hB hok
        by_cases hlt : k < n'
        · obtain ⟨bb, off, rfl, hbl, c0⟩ := (HP.out.below HB.out).2.2.2 k hlt
          obtain ⟨x, hx⟩ : ∃ x, Hid (x = pv P k) := ⟨_, Lib.hid rfl⟩
          rw [← hx.out] at c0
          by_cases hv : 0 ≤ x ∧ x < n
          · have HV := Lib.hid hv
            obtain ⟨v1, v2⟩ := hv
            go_wp2_with (fail)
            go_roundw
            case rel => exact ⟨k + 1, by omega, by simp, fun i hi => by
              rcases Nat.lt_succ_iff_lt_or_eq.1 hi with h | rfl
              · exact HK.out i h
              · rw [← hx.out]; exact HV.out, HB.out⟩
            case measure => simp [intOf]; omega
          · have e : R = 2 := by rw [hR.out, chkE_bad HE.out (by rw [← N2.out]; exact h40) (fun h => hv (by rw [hx.out, N1.out]; exact h k (by rw [← N2.out]; exact hlt)))]
            subst e
            by_cases hv0 : x < 0
            · clear hv
              go_wp2_with (fail)
              go_ret
              exact ⟨rfl, HB.out⟩
            · have hv1 : (n : Int) ≤ x := by omega
              clear hv
              go_wp2_with (fail)
              go_ret
              exact ⟨rfl, HB.out⟩
        · have hkn : k = n' := by omega
          subst hkn
          have e : R = 0 := by rw [hR.out, chkE_ok HE.out (by rw [← N2.out]; exact h40) (by unfold inP; rw [← N1.out, ← N2.out]; exact HK.out)]
          subst e
          go_wp2_with (fail)
          go_ret
          exact ⟨rfl, HB.out⟩
  · have e : R = ckE L g b m := by rw [hR.out, chkE_err hE]
    rw [← e] at C hE
    have hb : (R != 0) = true := by simpa using hE
    clear hE e
    go_enter Try.func30, Try.ntmps30
    go_wp2_with (fail)
    refine (C.out _ (HL.out.below (bl_alloc (Below.refl _ _) _))).mono ?_
    rintro e w1 ⟨rfl, b1⟩
    have B1 := Lib.hid (bl_go (bl_alloc (Below.refl w.heap.size w) (.cells #[.int .i64 g, .int .i64 b, .int .i64 m] 24)) b1 (by simp))
    clear b1
    go_wp2_with (fail)
    go_ret
    exact ⟨rfl, B1.out⟩
end Go.Proofs.Ytacdigofjlbimaa
