/-
  The walks of the reference's Tripped and violated on an object that the reference's New has made. Conditions: at most 32 valid monitors.
-/
import Derived.Test.YthgilipffdcddaaRo
namespace Go.Proofs.Ythgilipffdcddaa
open Go.RowKit Kit
set_option linter.unusedVariables false
/-! Tripped -/
theorem rtripped_any {w : World} {base r : Nat} {lv wv : Value} {L : List E} (t : Int) (h : RO w base r lv wv L) :
    Calls Try.prog 23 #[.pointer (some ⟨r, 0, none⟩), .int .i64 t] w fun e w' => e = .returned (.bool (L.any (isTr · t))) ∧ w = w' := by
  obtain ⟨la, lc, hlv⟩ := slice_of h.lrow
  obtain ⟨wa, wcp, hwv⟩ := slice_of h.wrow
  have hc0 : w.cell? ⟨r, 0, none⟩ = some lv := cell_of (i := 0) h.obj rfl
  have hc1 : w.cell? ⟨r, 1, none⟩ = some wv := cell_of (i := 1) h.obj rfl
  rw [hlv] at hc0
  rw [hwv] at hc1
  have HH := Lib.hid h
  have h32 := h.le
  obtain ⟨n, hn⟩ : ∃ n, n = L.length := ⟨_, rfl⟩
  rw [← hn] at hc0 hc1 h32 hlv hwv
  have HN := Lib.hid hn
  have HV := Lib.hid (And.intro hlv hwv)
  clear h hn hlv hwv
  obtain ⟨AN, hAN⟩ : ∃ b, b = L.any (isTr · t) := ⟨_, rfl⟩
  rw [← hAN]
  have HAN := Lib.hid hAN
  clear hAN
  go_enter Try.func23, Try.ntmps23
  go_wp2_with (fail)
  go_loopw [5] (fun i wr => ∃ k : Nat, k ≤ n ∧ i = .int .i64 k ∧ wr = w ∧ (L.take k).any (isTr · t) = false) (fun i _ => n - (intOf i).toNat)
  case atStart => exact ⟨0, by omega, rfl, rfl, by simp⟩
  case round =>
    obtain ⟨k, hk, rfl, rfl, hA⟩ := hrel
    by_cases hlt : k < n
    · obtain ⟨e, he⟩ : ∃ e, L[k]? = some e := ⟨_, List.getElem?_eq_getElem (by have := HN.out; omega)⟩
      obtain ⟨g1, cap1, h1⟩ := row_some HH.out.lrow (by have := HN.out; omega)
      obtain ⟨g2, cap2, h2⟩ := row_some HH.out.wrow (by have := HN.out; omega)
      have r1 := HH.out.lrow
      have r2 := HH.out.wrow
      rw [h1] at r1
      rw [h2] at r2
      have c4 := rw_get mc_len r1 he 4 (by omega)
      have c1 := rw_get wc_len r2 he 1 (by omega)
      simp only [mc, wc, List.getElem?_cons_succ, List.getElem?_cons_zero] at c4 c1
      have q1 := h1.symm.trans HV.out.1
      have q2 := h2.symm.trans HV.out.2
      simp only [Value.slice.injEq] at q1 q2
      obtain ⟨rfl, _, rfl⟩ := q1
      obtain ⟨rfl, _, rfl⟩ := q2
      have S := rtr_succ L t k e he
      rw [hA, Bool.false_or] at S
      have hany : isTr e t = true → L.any (isTr · t) = true := fun h => List.any_eq_true.2 ⟨e, List.mem_of_getElem? he, h⟩
      have HS := Lib.hid S
      have HA := Lib.hid hany
      have hI : isTr e t = (decide (e.tier = t) && e.tr) := by unfold isTr; rfl
      rw [hI] at HS HA
      generalize e.tier = ti at c4 HS HA
      generalize e.tr = tr at c1 HS HA
      clear S hany r1 r2 h1 h2 he hA hI
      by_cases ht : ti = t
      · subst ht
        cases tr with
        | true =>
          have R := HAN.out.trans (HA.out (by simp))
          subst R
          go_wp2_with (fail)
          go_ret
          exact ⟨rfl, rfl⟩
        | false =>
          go_wp2_with (fail)
          go_roundw
          case rel => exact ⟨k + 1, by omega, by simp, by simp, by rw [HS.out]; simp⟩
          case measure => simp [intOf]; omega
      · have hq : (ti == t) = false := by simpa using ht
        have hq2 : Hid (decide (ti = t) = false) := Lib.hid (decide_eq_false ht)
        clear ht
        go_wp2_with (fail)
        go_roundw
        case rel => exact ⟨k + 1, by omega, by simp, by simp, by rw [HS.out, hq2.out]; rfl⟩
        case measure => simp [intOf]; omega
    · obtain rfl : k = n := by omega
      have R : Hid (L.any (isTr · t) = false) := Lib.hid (by rw [HN.out, List.take_length] at hA; exact hA)
      have R2 := HAN.out.trans R.out
      subst R2
      clear R hA
      go_wp2_with (fail)
      go_ret
      exact ⟨rfl, rfl⟩
/-! violated -/
theorem viol_fit (k : Nat) (lo hi per t s x : Int) (on : Bool) (b off c pn : Nat) (w : World) (hk : k < pn) (hc : w.cell? ⟨b, off + k, none⟩ = some (.int .i64 x)) :
    Calls Try.prog 36 #[.agg #[.int .i64 k, .int .i64 lo, .int .i64 hi, .int .i64 per, .int .i64 t, .int .i64 s, .bool on], .slice (some ⟨b, off, none⟩) pn c] w fun en w' => en = .returned (.bool (decide (x < lo) || decide (hi < x))) ∧ Below w.heap.size w w' := by
  have hbl := World.block_lt_of_cell? w _ hc
  simp only at hbl
  have B1 : Hid (∀ q, Below w.heap.size w ((w.alloc (.cells #[.int .i64 k, .int .i64 lo, .int .i64 hi, .int .i64 per, .int .i64 t, .int .i64 s, .bool on] 30)).drewN q)) := Lib.hid (fun q => below_drewN (bl_alloc (Below.refl _ _) _) q)
  have hd : decide ((k : Int) < (pn : Int)) = true := by simp; omega
  have hd1 : decide (k < pn) = true := by simp; omega
  have h0 : (0 : Int) ≤ (k : Int) := by omega
  cases hb1 : decide (x < lo) with
  | true =>
    go_enter Try.func36, Try.ntmps36
    go_wp2_with (fail)
    go_quiet (fail)
    go_wp2_with (fail)
    go_ret
    exact ⟨rfl, B1.out _⟩
  | false =>
    cases hb2 : decide (hi < x) with
    | true =>
      go_enter Try.func36, Try.ntmps36
      go_wp2_with (fail)
      go_quiet (fail)
      go_wp2_with (fail)
      go_ret
      exact ⟨rfl, B1.out _⟩
    | false =>
      go_enter Try.func36, Try.ntmps36
      go_wp2_with (fail)
      go_quiet (fail)
      go_wp2_with (fail)
      go_ret
      exact ⟨rfl, B1.out _⟩
theorem viol_lack (p lo hi per t s : Int) (on : Bool) (a : Option Addr) (c pn : Nat) (w : World) (hk : (pn : Int) ≤ p) :
    Calls Try.prog 36 #[.agg #[.int .i64 p, .int .i64 lo, .int .i64 hi, .int .i64 per, .int .i64 t, .int .i64 s, .bool on], .slice a pn c] w fun en w' => en = .returned (.bool false) ∧ Below w.heap.size w w' := by
  have B1 : Hid (∀ q, Below w.heap.size w ((w.alloc (.cells #[.int .i64 p, .int .i64 lo, .int .i64 hi, .int .i64 per, .int .i64 t, .int .i64 s, .bool on] 30)).drewN q)) := Lib.hid (fun q => below_drewN (bl_alloc (Below.refl _ _) _) q)
  have hd : decide (p < (pn : Int)) = false := by simp; omega
  clear hk
  go_enter Try.func36, Try.ntmps36
  go_wp2_with (fail)
  go_quiet (fail)
  go_wp2_with (fail)
  go_ret
  exact ⟨rfl, B1.out _⟩
theorem viol_any (e : E) (P : List Int) (pv : Value) (w : World) (h0 : 0 ≤ e.par) (hp : PS w pv P) :
    Calls Try.prog 36 #[.agg #[.int .i64 e.par, .int .i64 e.lo, .int .i64 e.hi, .int .i64 e.per, .int .i64 e.tier, .int .i64 e.seq, .bool e.on], pv] w fun en w' => en = .returned (.bool (viol e P)) ∧ Below w.heap.size w w' := by
  rcases hp with ⟨b, off, c, rfl, hc⟩ | ⟨rfl, a, c, rfl⟩
  · obtain ⟨k, hk⟩ : ∃ k : Nat, e.par = k := ⟨e.par.toNat, by omega⟩
    by_cases hlt : k < P.length
    · have hx : P[k]? = some (P[k]'hlt) := List.getElem?_eq_getElem _
      generalize P[k]'hlt = x at hx
      have hv : viol e P = (decide (x < e.lo) || decide (e.hi < x)) := by unfold viol; rw [hk]; simp only [Int.toNat_natCast, hx]
      rw [hv, hk]
      exact viol_fit k _ _ _ _ _ x _ b off c _ w hlt (hc k x hx)
    · have hv : viol e P = false := by unfold viol; rw [List.getElem?_eq_none (by omega)]
      rw [hv]
      exact viol_lack _ _ _ _ _ _ _ _ _ _ w (by omega)
  · have hv : viol e [] = false := by unfold viol; simp
    rw [hv]
    exact viol_lack _ _ _ _ _ _ _ a c 0 w (by simpa using h0)
end Go.Proofs.Ythgilipffdcddaa
