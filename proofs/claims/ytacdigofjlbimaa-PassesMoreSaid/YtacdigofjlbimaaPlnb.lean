/-
  Plans, second part: wrong, Value and Feasible, the program's and the reference's. Conditions: those that each theorem names.
-/
import Derived.Test.YtacdigofjlbimaaPln
namespace Go.Proofs.Ytacdigofjlbimaa
open Go.RowKit Kit
set_option linter.unusedVariables false
set_option maxHeartbeats 3200000 in
theorem wrong_any (L : List Wn) (g b m : Int) (P : List Int) (a : Option Addr) (n c : Nat) (a' : Option Addr) (n' c' : Nat) (w : World) (hW : WS w a n c L) (hP : NS w a' n' c' P) :
    Calls Try.prog 32 #[.slice a n c, .agg #[.int .i64 g, .int .i64 b, .int .i64 m], .slice a' n' c'] w fun e w' => e = .returned (.int .i64 (chkE L g b m P)) ∧ Below w.heap.size w w' := by
  obtain ⟨R, hR⟩ : ∃ R, Hid (R = chkE L g b m P) := ⟨_, Lib.hid rfl⟩
  rw [← hR.out]
  have N1 := Lib.hid hW.1; have N2 := Lib.hid hP.1; have HL := Lib.hid hW; have HP := Lib.hid hP
  have hcap := hW.2.1
  have hcap2 := hW.2.2.1
  have hcap' := hP.2.1
  have hcap2' := hP.2.2.1
  unfold maxLen at hcap2 hcap2'
  have C := Lib.hid (fun W h => rcheck_any L g b m a n c W h)
  clear hW hP
  by_cases hE : ckE L g b m = 0
  · rw [hE] at C
    by_cases h40 : 40 < n'
    · have e : R = 3 := by rw [hR.out, chkE_long hE (by rw [← N2.out]; exact h40)]
      subst e
      clear hE
      go_enter Try.func32, Try.ntmps32
      go_wp2_with (fail)
      refine (C.out _ (HL.out.below (bl_alloc (Below.refl _ _) _))).mono ?_
      rintro e w1 ⟨rfl, b1⟩
      have B1 := Lib.hid (bl_go (bl_alloc (Below.refl w.heap.size w) (.cells #[.int .i64 g, .int .i64 b, .int .i64 m] 24)) b1 (by simp))
      clear b1
      go_wp2_with (fail)
      go_ret
      exact ⟨rfl, B1.out⟩
    · have HE := Lib.hid hE
      clear hE
      go_enter Try.func32, Try.ntmps32
      go_wp2_with (fail)
      refine (C.out _ (HL.out.below (bl_alloc (Below.refl _ _) _))).mono ?_
      rintro e w1 ⟨rfl, b1⟩
      have B1 := Lib.hid (bl_go (bl_alloc (Below.refl w.heap.size w) (.cells #[.int .i64 g, .int .i64 b, .int .i64 m] 24)) b1 (by simp))
      clear b1 C
      go_wp2_with (fail)
      go_loopw [8] (fun i wr => ∃ k : Nat, k ≤ n' ∧ i = .int .i64 k ∧ (∀ i, i < k → 0 ≤ pv P i ∧ pv P i < n) ∧ Below w.heap.size w wr) (fun i _ => n' - (intOf i).toNat)
      case atStart => exact ⟨0, by omega, rfl, fun i hi => by omega, B1.out⟩
      case round =>
        obtain ⟨k, hk, rfl, hok, hB⟩ := hrel
        have HB := Lib.hid hB; have HK := Lib.hid hok
        clear hB hok
        by_cases hlt : k < n'
        · obtain ⟨bb, off, rfl, hbl, c0⟩ := (HP.out.below HB.out).2.2.2 k hlt
          obtain ⟨x, hx⟩ : ∃ x, Hid (x = pv P k) := ⟨_, Lib.hid rfl⟩
          rw [← hx.out] at c0
          by_cases hv : 0 ≤ x ∧ x < n
          · have HV := Lib.hid hv
            obtain ⟨v1, v2⟩ := hv
            go_wp2_with (fail)
            go_roundw
            case rel => exact ⟨k + 1, by omega, by simp, fun i hi => by
              rcases Nat.lt_succ_iff_lt_or_eq.1 hi with h | rfl
              · exact HK.out i h
              · rw [← hx.out]; exact HV.out, HB.out⟩
            case measure => simp [intOf]; omega
          · have e : R = 2 := by rw [hR.out, chkE_bad HE.out (by rw [← N2.out]; exact h40) (fun h => hv (by rw [hx.out, N1.out]; exact h k (by rw [← N2.out]; exact hlt)))]
            subst e
            by_cases hv0 : x < 0
            · clear hv
              go_wp2_with (fail)
              go_ret
              exact ⟨rfl, HB.out⟩
            · have hv1 : (n : Int) ≤ x := by omega
              clear hv
              go_wp2_with (fail)
              go_ret
              exact ⟨rfl, HB.out⟩
        · have hkn : k = n' := by omega
          subst hkn
          have e : R = 0 := by rw [hR.out, chkE_ok HE.out (by rw [← N2.out]; exact h40) (by unfold inP; rw [← N1.out, ← N2.out]; exact HK.out)]
          subst e
          go_wp2_with (fail)
          go_ret
          exact ⟨rfl, HB.out⟩
  · have e : R = ckE L g b m := by rw [hR.out, chkE_err hE]
    rw [← e] at C hE
    have hb : (R != 0) = true := by simpa using hE
    clear hE e
    go_enter Try.func32, Try.ntmps32
    go_wp2_with (fail)
    refine (C.out _ (HL.out.below (bl_alloc (Below.refl _ _) _))).mono ?_
    rintro e w1 ⟨rfl, b1⟩
    have B1 := Lib.hid (bl_go (bl_alloc (Below.refl w.heap.size w) (.cells #[.int .i64 g, .int .i64 b, .int .i64 m] 24)) b1 (by simp))
    clear b1
    go_wp2_with (fail)
    go_ret
    exact ⟨rfl, B1.out⟩

/-- The chain of the first k. -/
def chT (W : Nat → Wn) (gap : Int) (P : List Int) (k : Nat) : Bool := chain W gap none ((pl P).take k)
theorem chT_zero (W : Nat → Wn) (gap : Int) (P : List Int) : chT W gap P 0 = true := by simp [chT, chain]
theorem chT_one {W : Nat → Wn} {gap : Int} {P : List Int} (h : 0 < P.length) : chT W gap P 1 = true := by
  unfold chT
  rw [pl_take h]
  simp [chain, lastOk]
theorem chT_succ {W : Nat → Wn} {gap : Int} {P : List Int} {k : Nat} (h : k + 1 < P.length) : chT W gap P (k + 1 + 1) = (chT W gap P (k + 1) && fol (W (pv P k).toNat) (W (pv P (k + 1)).toNat) gap) := by
  unfold chT
  rw [pl_take h, pl_take (by omega), chain_two]
theorem chT_mono {W : Nat → Wn} {gap : Int} {P : List Int} {k : Nat} (h : chT W gap P k = false) : chain W gap none (pl P) = false := by
  unfold chT at h
  rw [← Bool.not_eq_true]
  intro hc
  rw [← List.take_append_drop k (pl P)] at hc
  rw [chain_pre _ _ _ hc] at h
  cases h
theorem chT_all (W : Nat → Wn) (gap : Int) (P : List Int) : chT W gap P P.length = chain W gap none (pl P) := by unfold chT; rw [pl_all]
def vT (W : Nat → Wn) (P : List Int) (k : Nat) : Int := value W ((pl P).take k)
def cT (W : Nat → Wn) (P : List Int) (k : Nat) : Int := cost W ((pl P).take k)
theorem vT_succ {W : Nat → Wn} {P : List Int} {k : Nat} (h : k < P.length) : vT W P (k + 1) = vT W P k + (W (pv P k).toNat).va := by unfold vT; rw [pl_take h, value_snoc]
theorem cT_succ {W : Nat → Wn} {P : List Int} {k : Nat} (h : k < P.length) : cT W P (k + 1) = cT W P k + (W (pv P k).toNat).co := by unfold cT; rw [pl_take h, cost_snoc]
/-- A window that a plan names. -/
theorem plan_row {w wr : World} {L : List Wn} {P : List Int} {a a' : Option Addr} {n c n' c' : Nat} (hW : WS w a n c L) (hP : NS w a' n' c' P) (hi : inP P n) (hb : Below w.heap.size w wr) (k : Nat) (hk : k < n') :
    ∃ (x b off b' off' : Nat), pv P k = x ∧ x < n ∧ a = some ⟨b, off, none⟩ ∧ a' = some ⟨b', off', none⟩ ∧ b < wr.heap.size ∧ b' < wr.heap.size ∧ wr.cell? ⟨b', off' + k, none⟩ = some (.int .i64 x) ∧ WC wr b (off + x * 5) (wl L x) := by
  have hp := hi k (by rw [← hP.1]; exact hk)
  obtain ⟨x, hx⟩ : ∃ x : Nat, pv P k = x := ⟨(pv P k).toNat, by omega⟩
  have hxn : x < n := by omega
  obtain ⟨b, off, e1, hl, hc⟩ := (hW.below hb).2.2.2 x hxn
  obtain ⟨b', off', e2, hl', hc'⟩ := (hP.below hb).2.2.2 k hk
  exact ⟨x, b, off, b', off', hx, hxn, e1, e2, hl, hl', by rw [← hx]; exact hc', hc⟩
set_option maxHeartbeats 1600000 in
theorem rvalue_any (L : List Wn) (P : List Int) (a : Option Addr) (n c : Nat) (a' : Option Addr) (n' c' : Nat) (w : World) (hW : WS w a n c L) (hP : NS w a' n' c' P) (hv : vL (wl L) n) (hi : inP P n) (h40 : n' ≤ 10000) :
    Calls Try.prog 34 #[.slice a n c, .slice a' n' c'] w fun e w' => e = .returned (.int .i64 (value (wl L) (pl P))) ∧ Below w.heap.size w w' := by
  obtain ⟨R, hR⟩ : ∃ R, Hid (R = value (wl L) (pl P)) := ⟨_, Lib.hid rfl⟩
  rw [← hR.out]
  have N2 := Lib.hid hP.1; have HL := Lib.hid hW; have HP := Lib.hid hP; have HV := Lib.hid hv; have HI := Lib.hid hi
  have hcap := hW.2.1
  have hcap2 := hW.2.2.1
  have hcap' := hP.2.1
  have hcap2' := hP.2.2.1
  unfold maxLen at hcap2 hcap2'
  clear hW hP hv hi
  go_enter Try.func34, Try.ntmps34
  go_wp2_with (fail)
  go_loopw [5, 6] (fun s i wr => ∃ k : Nat, k ≤ n' ∧ i = .int .i64 k ∧ s = .int .i64 (vT (wl L) P k) ∧ Below w.heap.size w wr) (fun _ i _ => n' - (intOf i).toNat)
  case atStart => exact ⟨0, by omega, rfl, rfl, Below.refl _ _⟩
  case round =>
    obtain ⟨k, hk, rfl, rfl, hB⟩ := hrel
    have HB := Lib.hid hB
    clear hB
    by_cases hlt : k < n'
    · obtain ⟨x, b, off, b', off', hx, hxn, rfl, rfl, hl, hl', d0, c0, c1, c2, c3, c4⟩ := plan_row HL.out HP.out HI.out HB.out k hlt
      have hbd := (take_bound HV.out HI.out (k + 1) (by rw [← N2.out]; omega)).1
      have Z := Lib.hid (vT_succ (W := wl L) (P := P) (k := k) (by rw [← N2.out]; exact hlt))
      change 0 ≤ vT (wl L) P (k + 1) ∧ vT (wl L) P (k + 1) ≤ _ at hbd
      rw [Z.out] at hbd
      rw [hx] at hbd Z
      simp only [Int.toNat_natCast] at hbd Z
      generalize (wl L x).va = va at c3 hbd Z
      generalize vT (wl L) P k = S at hbd Z ⊢
      have W1 := IntWalk.i64_in (S + va) (by omega)
      clear hbd hx c0 c1 c2 c4
      go_wp2_with (fail)
      go_roundw
      case rel => exact ⟨k + 1, by omega, by simp, by rw [Z.out], HB.out⟩
      case measure => simp [intOf]; omega
    · have hkn : k = n' := by omega
      subst hkn
      have e : vT (wl L) P k = R := by rw [hR.out, N2.out]; unfold vT; rw [pl_all]
      rw [e]
      clear e
      go_wp2_with (fail)
      go_ret
      exact ⟨rfl, HB.out⟩
end Go.Proofs.Ytacdigofjlbimaa
