/-
  The walk of the reference's better. Conditions: plans of windows that are there.
-/
import Derived.Test.YtacdigofjlbimaaVal
namespace Go.Proofs.Ytacdigofjlbimaa
open Go.RowKit Kit
set_option linter.unusedVariables false
/-- Is the first list less, at the first place at which they differ? -/
theorem lex_take {p q : List Nat} {k : Nat} (hl : p.length = q.length) (hk : k < p.length) (h : ∀ i, i < k → p.getD i 0 = q.getD i 0) (hne : p.getD k 0 ≠ q.getD k 0) : lexlt p q = decide (p.getD k 0 < q.getD k 0) := by
  induction k generalizing p q with
  | zero =>
    cases p with
    | nil => simp at hk
    | cons a p =>
      cases q with
      | nil => simp at hl
      | cons b q =>
        simp at hne ⊢
        simp [lexlt, hne]
  | succ k ih =>
    cases p with
    | nil => simp at hk
    | cons a p =>
      cases q with
      | nil => simp at hl
      | cons b q =>
        have h0 := h 0 (by omega)
        simp at h0
        subst h0
        simp only [lexlt, Nat.lt_irrefl, decide_false, decide_true, Bool.true_and, Bool.false_or]
        rw [ih (by simpa using hl) (by simpa using hk) (fun i hi => by have := h (i + 1) (by omega); simpa using this) (by simpa using hne)]
        simp
theorem lex_same {p q : List Nat} (hl : p.length = q.length) (h : ∀ i, i < p.length → p.getD i 0 = q.getD i 0) : lexlt p q = false := by
  have : p = q := by
    apply List.ext_getElem hl
    intro i h1 h2
    have := h i h1
    rwa [List.getD_eq_getElem?_getD, List.getD_eq_getElem?_getD, List.getElem?_eq_getElem h1, List.getElem?_eq_getElem h2] at this
  rw [this, lex_irrefl]
theorem zs_at' {p : List Nat} {i : Nat} (h : i < p.length) : pv (zs p) i = ((p.getD i 0 : Nat) : Int) := by
  unfold pv zs
  rw [List.getD_eq_getElem?_getD, List.getElem?_map, List.getD_eq_getElem?_getD, List.getElem?_eq_getElem h]
  rfl
set_option maxRecDepth 100000 in
set_option maxHeartbeats 3200000 in
theorem better_any (L : List Wn) (p q : List Nat) (a : Option Addr) (n c : Nat) (a1 : Option Addr) (n1 c1 : Nat) (a2 : Option Addr) (n2 c2 : Nat) (w : World) (hW : WS w a n c L) (hP : NS w a1 n1 c1 (zs p)) (hQ : NS w a2 n2 c2 (zs q)) (hv : vL (wl L) n) (hp : ∀ i ∈ p, i < n) (hq : ∀ i ∈ q, i < n) (h1 : n1 ≤ 10000) (h2 : n2 ≤ 10000) :
    Calls Try.prog 35 #[.slice a n c, .slice a1 n1 c1, .slice a2 n2 c2] w fun e w' => e = .returned (.bool (better (wl L) p q)) ∧ Below w.heap.size w w' := by
  obtain ⟨R, hR⟩ : ∃ R, Hid (R = better (wl L) p q) := ⟨_, Lib.hid rfl⟩
  rw [← hR.out]
  have HW := Lib.hid hW; have HP := Lib.hid hP; have HQ := Lib.hid hQ
  have N1 := Lib.hid (hP.1.trans (zs_len p)); have N2 := Lib.hid (hQ.1.trans (zs_len q))
  have VP := Lib.hid (fun W (h : WS W a n c L) (h' : NS W a1 n1 c1 (zs p)) => rvalue_any L (zs p) a n c a1 n1 c1 W h h' hv (zs_in hp) h1)
  have VQ := Lib.hid (fun W (h : WS W a n c L) (h' : NS W a2 n2 c2 (zs q)) => rvalue_any L (zs q) a n c a2 n2 c2 W h h' hv (zs_in hq) h2)
  rw [pl_zs] at VP VQ
  have hcap1 := hP.2.1
  have hcap2 := hP.2.2.1
  have hcap3 := hQ.2.1
  have hcap4 := hQ.2.2.1
  unfold maxLen at hcap2 hcap4
  have HR : Hid (R = (gt (value (wl L) p, (n1 : Int)) (value (wl L) q, (n2 : Int)) || (decide ((value (wl L) p, (n1 : Int)) = (value (wl L) q, (n2 : Int))) && lexlt p q))) := Lib.hid (by rw [hR.out, N1.out, N2.out]; rfl)
  generalize value (wl L) p = V1 at VP HR
  generalize value (wl L) q = V2 at VQ HR
  clear hW hP hQ hv hp hq hR
  by_cases hV : V1 = V2
  · subst hV
    by_cases hN : n1 = n2
    · subst hN
      have e1 : R = lexlt p q := by rw [HR.out]; unfold gt; simp
      have E1 := Lib.hid e1
      clear e1 HR
      go_enter Try.func35, Try.ntmps35
      go_wp2_with (fail)
      refine (VP.out _ HW.out HP.out).mono ?_
      rintro e w1 ⟨rfl, b1⟩
      have B1 := Lib.hid b1
      clear b1
      go_wp2_with (fail)
      refine (VQ.out _ (HW.out.below B1.out) (HQ.out.below B1.out)).mono ?_
      rintro e w2 ⟨rfl, b2⟩
      have B2 := Lib.hid (bl_step B1.out b2)
      clear b2 B1 VP VQ
      go_wp2_with (fail)
      go_loopw [7] (fun i wr => ∃ k : Nat, k ≤ n1 ∧ i = .int .i64 k ∧ (∀ i, i < k → p.getD i 0 = q.getD i 0) ∧ ∃ q', wr = w2.drewN q') (fun i _ => n1 - (intOf i).toNat)
      case atStart => exact ⟨0, by omega, rfl, fun i hi => by omega, 0, rfl⟩
      case round =>
        obtain ⟨k, hk, rfl, hall, q', rfl⟩ := hrel
        have HA := Lib.hid hall
        clear hall
        by_cases hlt : k < n1
        · obtain ⟨b1, o1, rfl, hb1, d1⟩ := (HP.out.below B2.out).2.2.2 k hlt
          obtain ⟨b2, o2, rfl, hb2, d2⟩ := (HQ.out.below B2.out).2.2.2 k hlt
          rw [zs_at' (by rw [← N1.out]; exact hlt)] at d1
          rw [zs_at' (by rw [← N2.out]; exact hlt)] at d2
          obtain ⟨x, hx⟩ : ∃ x, Hid (x = p.getD k 0) := ⟨_, Lib.hid rfl⟩
          obtain ⟨y, hy⟩ : ∃ y, Hid (y = q.getD k 0) := ⟨_, Lib.hid rfl⟩
          rw [← hx.out] at d1
          rw [← hy.out] at d2
          by_cases hxy : x = y
          · subst hxy
            have hne : ((x : Int) != (x : Int)) = false := by simp
            go_wp2_with (fail)
            go_quiet (fail)
            go_wp2_with (fail)
            go_roundw
            case rel => exact ⟨k + 1, by omega, by simp, fun i hi => by
              rcases Nat.lt_succ_iff_lt_or_eq.1 hi with h | rfl
              · exact HA.out i h
              · rw [← hx.out, ← hy.out], _, rfl⟩
            case measure => simp [intOf]; omega
          · have e2 := E1.out.trans (lex_take (k := k) (by rw [← N1.out, ← N2.out]) (by rw [← N1.out]; exact hlt) HA.out (by rw [← hx.out, ← hy.out]; exact hxy))
            rw [← hx.out, ← hy.out] at e2
            have hne : ((x : Int) != (y : Int)) = true := by simp; omega
            by_cases hlt2 : x < y
            · rw [decide_eq_true hlt2] at e2
              subst e2
              have hd1 : decide ((x : Int) < (y : Int)) = true := by simp; omega
              have hd2 : decide (x < y) = true := by simpa using hlt2
              clear hxy hlt2
              go_wp2_with (fail)
              go_quiet (fail)
              go_wp2_with (fail)
              go_quiet (fail)
              go_wp2_with (fail)
              go_ret
              exact ⟨rfl, below_drewN (below_drewN (below_drewN B2.out _) _) _⟩
            · rw [decide_eq_false hlt2] at e2
              subst e2
              have hd1 : decide ((x : Int) < (y : Int)) = false := by simp; omega
              have hd2 : decide (x < y) = false := by simpa using hlt2
              clear hxy hlt2
              go_wp2_with (fail)
              go_quiet (fail)
              go_wp2_with (fail)
              go_quiet (fail)
              go_wp2_with (fail)
              go_ret
              exact ⟨rfl, below_drewN (below_drewN (below_drewN B2.out _) _) _⟩
        · have hkn : n1 = k := by omega
          subst hkn
          have e2 := E1.out.trans (lex_same (by rw [← N1.out, ← N2.out]) (by rw [← N1.out]; exact HA.out))
          subst e2
          clear hlt
          go_wp2_with (fail)
          go_ret
          exact ⟨rfl, below_drewN B2.out _⟩
    · have e1 : R = decide (n1 < n2) := by
        rw [HR.out]; unfold gt
        rw [Bool.eq_iff_iff]
        simp
        omega
      have hnn : ((n1 : Int) != (n2 : Int)) = true := by simp; omega
      have hnn2 : ((n1 : Nat) != n2) = true := by simpa using hN
      by_cases hlt : n1 < n2
      · rw [decide_eq_true hlt] at e1
        subst e1
        clear hN HR
        go_enter Try.func35, Try.ntmps35
        go_wp2_with (fail)
        refine (VP.out _ HW.out HP.out).mono ?_
        rintro e w1 ⟨rfl, b1⟩
        have B1 := Lib.hid b1
        clear b1
        go_wp2_with (fail)
        refine (VQ.out _ (HW.out.below B1.out) (HQ.out.below B1.out)).mono ?_
        rintro e w2 ⟨rfl, b2⟩
        have B2 := Lib.hid (bl_step B1.out b2)
        clear b2 B1 VP VQ
        go_wp2_with (fail)
        go_ret
        exact ⟨ret_bool (by first | (simp; done) | (simp; omega)), B2.out⟩
      · rw [decide_eq_false hlt] at e1
        subst e1
        clear hN HR
        go_enter Try.func35, Try.ntmps35
        go_wp2_with (fail)
        refine (VP.out _ HW.out HP.out).mono ?_
        rintro e w1 ⟨rfl, b1⟩
        have B1 := Lib.hid b1
        clear b1
        go_wp2_with (fail)
        refine (VQ.out _ (HW.out.below B1.out) (HQ.out.below B1.out)).mono ?_
        rintro e w2 ⟨rfl, b2⟩
        have B2 := Lib.hid (bl_step B1.out b2)
        clear b2 B1 VP VQ
        go_wp2_with (fail)
        go_ret
        exact ⟨ret_bool (by first | (simp; done) | (simp; omega)), B2.out⟩
  · have e1 : R = decide (V2 < V1) := by
      rw [HR.out]; unfold gt
      rw [Bool.eq_iff_iff]
      simp
      omega
    have hvv : (V1 != V2) = true := by simpa using hV
    clear hV HR
    go_enter Try.func35, Try.ntmps35
    go_wp2_with (fail)
    refine (VP.out _ HW.out HP.out).mono ?_
    rintro e w1 ⟨rfl, b1⟩
    have B1 := Lib.hid b1
    clear b1
    go_wp2_with (fail)
    refine (VQ.out _ (HW.out.below B1.out) (HQ.out.below B1.out)).mono ?_
    rintro e w2 ⟨rfl, b2⟩
    have B2 := Lib.hid (bl_step B1.out b2)
    clear b2 B1
    go_wp2_with (fail)
    refine (VP.out _ (HW.out.below B2.out) (HP.out.below B2.out)).mono ?_
    rintro e w3 ⟨rfl, b3⟩
    have B3 := Lib.hid (bl_step B2.out b3)
    clear b3 B2
    go_wp2_with (fail)
    refine (VQ.out _ (HW.out.below B3.out) (HQ.out.below B3.out)).mono ?_
    rintro e w4 ⟨rfl, b4⟩
    have B4 := Lib.hid (bl_step B3.out b4)
    clear b4 B3 VP VQ
    go_wp2_with (fail)
    go_ret
    exact ⟨ret_bool e1.symm, B4.out⟩
end Go.Proofs.Ytacdigofjlbimaa
