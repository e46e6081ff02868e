/-
  The trellis in plain Lean: the best way to each state, that it is the best of all ways, and what the program's sums and ranks have to do with it. Conditions: those that each names.
-/
import Derived.Test.YtbfgpjpfhbbdfaaScore
import Derived.Test.YtbfgpjpfhbbdfaaBefore
namespace Go.Proofs.Ytbfgpjpfhbbdfaa
open Go.RowKit Kit
set_option linter.unusedVariables false
theorem stS_lt (f : Nat → Nat) (hf : ∀ i, f i < 2) : ∀ k, stS f k < 64
  | 0 => by simp [stS]
  | k + 1 => by have := stS_lt f hf k; have := hf k; simp only [stS, nx]; omega
/-- What a step adds. -/
def eW (X : List Int) (i s b : Nat) : Int := (o1 s b : Int) * pv X (2 * i) + (o2 s b : Int) * pv X (2 * i + 1)
theorem o1_lt (s b : Nat) : o1 s b < 2 := par_lt _
theorem o2_lt (s b : Nat) : o2 s b < 2 := by unfold o2; omega
theorem sc_step (X : List Int) (f : Nat → Nat) (i : Nat) : sc (outF f) X (2 * (i + 1)) = sc (outF f) X (2 * i) + eW X i (stS f i) (f i) := by
  have h1 : outF f (2 * i) = o1 (stS f i) (f i) := by unfold outF; rw [if_pos (by omega)]; rw [show 2 * i / 2 = i by omega]
  have h2 : outF f (2 * i + 1) = o2 (stS f i) (f i) := by unfold outF; rw [if_neg (by omega)]; rw [show (2 * i + 1) / 2 = i by omega]
  rw [show 2 * (i + 1) = 2 * i + 1 + 1 by omega]
  simp only [sc, h1, h2, eW]
  have e1 := o1_lt (stS f i) (f i)
  have e2 := o2_lt (stS f i) (f i)
  generalize o1 (stS f i) (f i) = a at *
  generalize o2 (stS f i) (f i) = b at *
  have : a = 0 ∨ a = 1 := by omega
  have : b = 0 ∨ b = 1 := by omega
  rcases ‹a = 0 ∨ a = 1› with rfl | rfl <;> rcases ‹b = 0 ∨ b = 1› with rfl | rfl <;> simp <;> omega
/-- The bits as a number. -/
def num (f : Nat → Nat) : Nat → Nat
  | 0 => 0
  | k + 1 => 2 * num f k + f k
theorem num_bit (f : Nat → Nat) (hf : ∀ i, f i < 2) : ∀ k j, j < k → num f k / 2 ^ (k - 1 - j) % 2 = f j
  | 0, j, h => by omega
  | k + 1, j, h => by
    rcases Nat.lt_succ_iff_lt_or_eq.1 h with h | rfl
    · have ih := num_bit f hf k j h
      have e : k + 1 - 1 - j = (k - 1 - j) + 1 := by omega
      rw [e, Nat.pow_succ, Nat.mul_comm (2 ^ (k - 1 - j)) 2, ← Nat.div_div_eq_div_mul]
      have e2 : num f (k + 1) / 2 = num f k := by have := hf k; simp only [num]; omega
      rw [e2]; exact ih
    · have e : j + 1 - 1 - j = 0 := by omega
      rw [e]; have := hf j; simp only [num, Nat.pow_zero, Nat.div_one]; omega
/-- The better of two ways. -/
def pick (p q : Option (Int × Nat)) : Option (Int × Nat) :=
  match p, q with
  | none, q => q
  | some p, none => some p
  | some p, some q => if p.1 < q.1 ∨ (p.1 = q.1 ∧ q.2 < p.2) then some q else some p
/-- A way, one step longer. -/
def cand (X : List Int) (T i : Nat) (p : Option (Int × Nat)) (s b : Nat) : Option (Int × Nat) :=
  if T ≤ i ∧ b = 1 then none else p.map fun p => (p.1 + eW X i s b, 2 * p.2 + b)
/-- The best way to each state, behind so many steps: its sum, and its bits as a number. -/
def P (X : List Int) (T : Nat) : Nat → Nat → Option (Int × Nat)
  | 0, s => if s = 0 then some (0, 0) else none
  | i + 1, t => pick (cand X T i (P X T i (2 * (t % 32))) (2 * (t % 32)) (t / 32)) (cand X T i (P X T i (2 * (t % 32) + 1)) (2 * (t % 32) + 1) (t / 32))
def better (c a : Int × Nat) : Prop := a.1 < c.1 ∨ (a.1 = c.1 ∧ c.2 ≤ a.2)
theorem pick_left {p q : Option (Int × Nat)} {a : Int × Nat} (h : p = some a) : ∃ c, pick p q = some c ∧ better c a := by
  subst h
  cases q with
  | none => exact ⟨a, rfl, by unfold better; omega⟩
  | some q =>
    simp only [pick]
    split
    · exact ⟨q, rfl, by unfold better; omega⟩
    · exact ⟨a, rfl, by unfold better; omega⟩
theorem pick_right {p q : Option (Int × Nat)} {a : Int × Nat} (h : q = some a) : ∃ c, pick p q = some c ∧ better c a := by
  subst h
  cases p with
  | none => exact ⟨a, rfl, by unfold better; omega⟩
  | some p =>
    simp only [pick]
    split
    · exact ⟨a, rfl, by unfold better; omega⟩
    · exact ⟨p, rfl, by unfold better; omega⟩
theorem pick_from {p q : Option (Int × Nat)} {c : Int × Nat} (h : pick p q = some c) : p = some c ∨ q = some c := by
  cases p with
  | none => right; exact h
  | some p =>
    cases q with
    | none => left; exact h
    | some q =>
      simp only [pick] at h
      split at h
      · right; exact h
      · left; exact h
theorem P_opt (X : List Int) (T : Nat) (f : Nat → Nat) (hf : ∀ i, f i < 2) (hz : ∀ i, T ≤ i → f i = 0) : ∀ i, ∃ c, P X T i (stS f i) = some c ∧ better c (sc (outF f) X (2 * i), num f i)
  | 0 => ⟨(0, 0), rfl, by simp [better, sc, num]⟩
  | i + 1 => by
    obtain ⟨c, hc, hb⟩ := P_opt X T f hf hz i
    have hs := stS_lt f hf i
    have h2 := hf i
    have ht : stS f (i + 1) = nx (stS f i) (f i) := rfl
    rw [sc_step, ht]
    generalize hS : stS f i = s at *
    have et : nx s (f i) / 32 = f i := by unfold nx; omega
    have em : nx s (f i) % 32 = s / 2 := by unfold nx; omega
    have hn : ¬ (T ≤ i ∧ f i = 1) := by
      rintro ⟨h3, h4⟩
      have := hz i h3
      omega
    have hcand : cand X T i (P X T i s) s (f i) = some (c.1 + eW X i s (f i), 2 * c.2 + f i) := by
      unfold cand; rw [if_neg hn, hc]; rfl
    have fin : ∀ d : Int × Nat, better d (c.1 + eW X i s (f i), 2 * c.2 + f i) → better d (sc (outF f) X (2 * i) + eW X i s (f i), num f (i + 1)) := by
      intro d hd
      unfold better at *
      simp only [num] at *
      omega
    simp only [P, et, em]
    rcases Nat.mod_two_eq_zero_or_one s with h | h
    · obtain ⟨d, hd, hbd⟩ := pick_left (q := cand X T i (P X T i (2 * (s / 2) + 1)) (2 * (s / 2) + 1) (f i)) hcand
      rw [show 2 * (s / 2) = s by omega] at *
      exact ⟨d, hd, fin d hbd⟩
    · obtain ⟨d, hd, hbd⟩ := pick_right (p := cand X T i (P X T i (2 * (s / 2))) (2 * (s / 2)) (f i)) hcand
      rw [show 2 * (s / 2) + 1 = s by omega] at *
      exact ⟨d, hd, fin d hbd⟩
theorem stS_congr {f g : Nat → Nat} : ∀ k, (∀ j, j < k → f j = g j) → stS f k = stS g k
  | 0, _ => rfl
  | k + 1, h => by simp only [stS]; rw [stS_congr k (fun j hj => h j (by omega)), h k (by omega)]
theorem num_congr {f g : Nat → Nat} : ∀ k, (∀ j, j < k → f j = g j) → num f k = num g k
  | 0, _ => rfl
  | k + 1, h => by simp only [num]; rw [num_congr k (fun j hj => h j (by omega)), h k (by omega)]
theorem scf_congr (X : List Int) {f g : Nat → Nat} : ∀ k, (∀ j, j < k → f j = g j) → sc (outF f) X (2 * k) = sc (outF g) X (2 * k)
  | 0, _ => rfl
  | k + 1, h => by rw [sc_step, sc_step, scf_congr X k (fun j hj => h j (by omega)), stS_congr k (fun j hj => h j (by omega)), h k (by omega)]
theorem cand_some {X : List Int} {T i s b : Nat} {p : Option (Int × Nat)} {c : Int × Nat} (h : cand X T i p s b = some c) : ∃ d, p = some d ∧ ¬ (T ≤ i ∧ b = 1) ∧ c = (d.1 + eW X i s b, 2 * d.2 + b) := by
  unfold cand at h
  split at h
  · cases h
  · cases p with
    | none => cases h
    | some d => exact ⟨d, rfl, ‹_›, by simpa using h.symm⟩
theorem P_way (X : List Int) (T : Nat) : ∀ i s c, s < 64 → P X T i s = some c → ∃ f : Nat → Nat, (∀ j, f j < 2) ∧ (∀ j, T ≤ j → f j = 0) ∧ stS f i = s ∧ sc (outF f) X (2 * i) = c.1 ∧ num f i = c.2
  | 0, s, c, _, h => by
    simp only [P] at h
    split at h
    · simp only [Option.some.injEq] at h
      subst h
      exact ⟨fun _ => 0, by simp, by simp, by simp [stS, *], by simp [sc], by simp [num]⟩
    · cases h
  | i + 1, t, c, ht, h => by
    have key : ∃ s d, s < 64 ∧ s / 2 = t % 32 ∧ P X T i s = some d ∧ ¬ (T ≤ i ∧ t / 32 = 1) ∧ c = (d.1 + eW X i s (t / 32), 2 * d.2 + t / 32) := by
      simp only [P] at h
      rcases pick_from h with h | h
      · obtain ⟨d, h1, h2, h3⟩ := cand_some h
        exact ⟨_, d, by omega, by omega, h1, h2, h3⟩
      · obtain ⟨d, h1, h2, h3⟩ := cand_some h
        exact ⟨_, d, by omega, by omega, h1, h2, h3⟩
    obtain ⟨s, d, hs, hst, hP, hn, rfl⟩ := key
    obtain ⟨f, f1, f2, f3, f4, f5⟩ := P_way X T i s d hs hP
    let g : Nat → Nat := fun j => if j = i then t / 32 else if j < i then f j else 0
    have hg : ∀ j, j < i → f j = g j := by intro j hj; simp only [g]; rw [if_neg (by omega), if_pos hj]
    have hgi : g i = t / 32 := by simp [g]
    refine ⟨g, fun j => ?_, fun j hj => ?_, ?_, ?_, ?_⟩
    · simp only [g]; split
      · omega
      · split
        · exact f1 j
        · omega
    · simp only [g]; split
      · subst j; omega
      · split
        · exact f2 j hj
        · rfl
    · simp only [stS]
      rw [← stS_congr i hg, f3, hgi]; unfold nx; omega
    · rw [sc_step, ← scf_congr X i hg, ← stS_congr i hg, f3, f4, hgi]
    · simp only [num]
      rw [← num_congr i hg, f5, hgi]
theorem eW_bound {X : List Int} (hX : softL X = true) {i s b : Nat} (hi : 2 * i + 1 < X.length) : -16 ≤ eW X i s b ∧ eW X i s b ≤ 16 := by
  have h1 := soft_at hX (i := 2 * i) (by omega)
  have h2 := soft_at hX (i := 2 * i + 1) (by omega)
  have e1 := o1_lt s b
  have e2 := o2_lt s b
  unfold eW
  generalize o1 s b = a at *
  generalize o2 s b = c at *
  have : a = 0 ∨ a = 1 := by omega
  have : c = 0 ∨ c = 1 := by omega
  rcases ‹a = 0 ∨ a = 1› with rfl | rfl <;> rcases ‹c = 0 ∨ c = 1› with rfl | rfl <;> simp <;> omega
theorem P_bound {X : List Int} (hX : softL X = true) (T : Nat) : ∀ i s c, 2 * i ≤ X.length → P X T i s = some c → -16 * (i : Int) ≤ c.1 ∧ c.1 ≤ 16 * (i : Int)
  | 0, s, c, _, h => by
    simp only [P] at h
    split at h
    · simp only [Option.some.injEq] at h
      subst h; simp
    · cases h
  | i + 1, t, c, hi, h => by
    simp only [P] at h
    rcases pick_from h with h | h
    all_goals
      obtain ⟨d, h1, h2, rfl⟩ := cand_some h
      have := P_bound hX T i _ d (by omega) h1
      have := eW_bound hX (i := i) (s := 2 * (t % 32)) (b := t / 32) (by omega)
      have := eW_bound hX (i := i) (s := 2 * (t % 32) + 1) (b := t / 32) (by omega)
      simp only
      omega
/-- The sum of a state that is not reached. -/
def lst : Int := -1099511627776
/-- What the program knows of each state: a sum and a rank. -/
structure Inv (X : List Int) (T i : Nat) (A : Nat → Int) (R : Nat → Nat) : Prop where
  some : ∀ s, s < 64 → ∀ c, P X T i s = some c → A s = c.1
  none : ∀ s, s < 64 → P X T i s = none → lst - 16 * i ≤ A s ∧ A s ≤ lst + 16 * i
  lt : ∀ s, s < 64 → R s < 64
  inj : ∀ s t, s < 64 → t < 64 → R s = R t → s = t
  mono : ∀ s t, s < 64 → t < 64 → ∀ c d, P X T i s = Option.some c → P X T i t = Option.some d → (R s < R t ↔ c.2 < d.2)
def yS (X : List Int) (T i : Nat) (A : Nat → Int) (t s : Nat) : Int := if T ≤ i ∧ 32 ≤ t then lst else A s + eW X i s (t / 32)
/-- Which of the two ways to a state is taken. -/
def frm (X : List Int) (T i : Nat) (A : Nat → Int) (R : Nat → Nat) (t : Nat) : Nat :=
  if worse (yS X T i A t (2 * (t % 32)), (R (2 * (t % 32)) : Nat)) (yS X T i A t (2 * (t % 32) + 1), (R (2 * (t % 32) + 1) : Nat)) = true then 2 * (t % 32) + 1 else 2 * (t % 32)
theorem frm_lt (X : List Int) (T i : Nat) (A : Nat → Int) (R : Nat → Nat) (t : Nat) : frm X T i A R t < 64 := by unfold frm; split <;> omega
theorem frm_half (X : List Int) (T i : Nat) (A : Nat → Int) (R : Nat → Nat) (t : Nat) : frm X T i A R t / 2 = t % 32 := by unfold frm; split <;> omega
theorem Inv.bound {X : List Int} {T i : Nat} {A : Nat → Int} {R : Nat → Nat} (h : Inv X T i A R) (hX : softL X = true) (hi : 2 * i ≤ X.length) (s : Nat) (hs : s < 64) : lst - 16 * i ≤ A s ∧ A s ≤ 16 * i := by
  cases hP : P X T i s with
  | none => have := h.none s hs hP; unfold lst at *; omega
  | some c => have := h.some s hs c hP; have := P_bound hX T i s c hi hP; unfold lst; omega
theorem Inv.start (X : List Int) (T : Nat) : Inv X T 0 (fun s => if s = 0 then 0 else lst) (fun s => s) where
  some s hs c h := by
    simp only [P] at h
    split at h
    · simp only [Option.some.injEq] at h; subst h; simp [*]
    · cases h
  none s hs h := by
    simp only [P] at h
    split at h
    · cases h
    · simp [*]
  lt s hs := hs
  inj s t _ _ h := h
  mono s t hs ht c d h1 h2 := by
    simp only [P] at h1 h2
    split at h1
    · split at h2
      · simp only [Option.some.injEq] at h1 h2; subst h1 h2; simp [*]
      · cases h2
    · cases h1
theorem Inv.from {X : List Int} {T i : Nat} {A : Nat → Int} {R : Nat → Nat} (h : Inv X T i A R) (hX : softL X = true) (hi : 2 * i + 1 < X.length) (hm : X.length ≤ 20000) (t : Nat) (ht : t < 64) (c : Int × Nat) (hc : P X T (i + 1) t = Option.some c) :
    ∃ d, P X T i (frm X T i A R t) = Option.some d ∧ ¬ (T ≤ i ∧ 32 ≤ t) ∧ c = (d.1 + eW X i (frm X T i A R t) (t / 32), 2 * d.2 + t / 32) := by
  have e0 := eW_bound hX (i := i) (s := 2 * (t % 32)) (b := t / 32) hi
  have e1 := eW_bound hX (i := i) (s := 2 * (t % 32) + 1) (b := t / 32) hi
  have hN : ¬ (T ≤ i ∧ 32 ≤ t) := by
    rintro ⟨h1, h2⟩
    have h3 : t / 32 = 1 := by omega
    simp [P, h3, cand, h1, pick] at hc
  have hN' : ¬ (T ≤ i ∧ t / 32 = 1) := by
    rintro ⟨h1, h2⟩
    exact hN ⟨h1, by omega⟩
  have s0 : 2 * (t % 32) < 64 := by omega
  have s1 : 2 * (t % 32) + 1 < 64 := by omega
  unfold frm yS worse
  rw [if_neg hN, if_neg hN]
  simp only [P, cand, if_neg hN'] at hc
  generalize hp0 : 2 * (t % 32) = p0 at *
  cases h0 : P X T i p0 with
  | none =>
    have b0 := h.none _ s0 h0
    cases h1 : P X T i (p0 + 1) with
    | none => rw [h0, h1] at hc; simp [pick] at hc
    | some d =>
      rw [h0, h1] at hc
      simp only [Option.map_none, Option.map_some, pick, Option.some.injEq] at hc
      have b1 := P_bound hX T i _ d (by omega) h1
      have := h.some _ s1 d h1
      have hlt : A p0 + eW X i p0 (t / 32) < A (p0 + 1) + eW X i (p0 + 1) (t / 32) := by unfold lst at *; omega
      rw [if_pos (by simp [hlt])]
      exact ⟨d, h1, hN, hc.symm⟩
  | some d0 =>
    have b0 := P_bound hX T i _ d0 (by omega) h0
    have a0 := h.some _ s0 d0 h0
    cases h1 : P X T i (p0 + 1) with
    | none =>
      rw [h0, h1] at hc
      simp only [Option.map_none, Option.map_some, pick, Option.some.injEq] at hc
      have b1 := h.none _ s1 h1
      rw [if_neg (by simp; unfold lst at *; omega)]
      exact ⟨d0, h0, hN, hc.symm⟩
    | some d1 =>
      rw [h0, h1] at hc
      have a1 := h.some _ s1 d1 h1
      have hmo := h.mono _ _ s1 s0 d1 d0 h1 h0
      simp only [Option.map_some, pick] at hc
      have hiff : (d0.1 + eW X i p0 (t / 32) < d1.1 + eW X i (p0 + 1) (t / 32) ∨ d0.1 + eW X i p0 (t / 32) = d1.1 + eW X i (p0 + 1) (t / 32) ∧ 2 * d1.2 + t / 32 < 2 * d0.2 + t / 32) ↔ (decide (A p0 + eW X i p0 (t / 32) < A (p0 + 1) + eW X i (p0 + 1) (t / 32)) || decide (A p0 + eW X i p0 (t / 32) = A (p0 + 1) + eW X i (p0 + 1) (t / 32)) && decide (((R (p0 + 1) : Nat) : Int) < ((R p0 : Nat) : Int))) = true := by
        simp only [Bool.or_eq_true, Bool.and_eq_true, decide_eq_true_eq]
        rw [a0, a1]
        omega
      split at hc
      · rename_i hq
        rw [if_pos (hiff.1 hq)]
        exact ⟨d1, h1, hN, by simpa using hc.symm⟩
      · rename_i hq
        rw [if_neg (fun e => hq (hiff.2 e))]
        exact ⟨d0, h0, hN, by simpa using hc.symm⟩
theorem Inv.step {X : List Int} {T i : Nat} {A : Nat → Int} {R R' : Nat → Nat} (h : Inv X T i A R) (hX : softL X = true) (hi : 2 * i + 1 < X.length) (hm : X.length ≤ 20000)
    (r1 : ∀ s, s < 64 → R' s < 64) (r2 : ∀ s t, s < 64 → t < 64 → R' s = R' t → s = t)
    (r3 : ∀ s t, s < 64 → t < 64 → (R' s < R' t ↔ 2 * R (frm X T i A R s) + s / 32 < 2 * R (frm X T i A R t) + t / 32)) :
    Inv X T (i + 1) (fun t => yS X T i A t (frm X T i A R t)) R' where
  some s hs c hc := by
    obtain ⟨d, h1, h2, rfl⟩ := h.from hX hi hm s hs c hc
    have := h.some _ (frm_lt X T i A R s) d h1
    simp only [yS]; rw [if_neg h2, this]
  none s hs hc := by
    simp only [yS]
    split
    · omega
    · rename_i hN
      have hN' : ¬ (T ≤ i ∧ s / 32 = 1) := by
        rintro ⟨h1, h2⟩
        exact hN ⟨h1, by omega⟩
      have key : P X T i (frm X T i A R s) = Option.none := by
        simp only [P, cand, if_neg hN'] at hc
        cases h0 : P X T i (2 * (s % 32)) with
        | some d =>
          rw [h0] at hc
          cases h1 : P X T i (2 * (s % 32) + 1) with
          | none => rw [h1] at hc; simp [pick] at hc
          | some e => rw [h1] at hc; simp only [Option.map_some, pick] at hc; split at hc <;> cases hc
        | none =>
          cases h1 : P X T i (2 * (s % 32) + 1) with
          | some e => rw [h0, h1] at hc; simp [pick] at hc
          | none => unfold frm; split <;> assumption
      have := h.none _ (frm_lt X T i A R s) key
      have := eW_bound hX (i := i) (s := frm X T i A R s) (b := s / 32) hi
      omega
  lt := r1
  inj := r2
  mono s t hs ht c d hc hd := by
    obtain ⟨c', h1, _, rfl⟩ := h.from hX hi hm s hs c hc
    obtain ⟨d', h2, _, rfl⟩ := h.from hX hi hm t ht d hd
    rw [r3 s t hs ht]
    have m1 := h.mono _ _ (frm_lt X T i A R s) (frm_lt X T i A R t) c' d' h1 h2
    have m2 := h.mono _ _ (frm_lt X T i A R t) (frm_lt X T i A R s) d' c' h2 h1
    simp only
    rcases Nat.lt_trichotomy (R (frm X T i A R s)) (R (frm X T i A R t)) with hlt | heq | hgt
    · have := m1.1 hlt; omega
    · have e := h.inj _ _ (frm_lt X T i A R s) (frm_lt X T i A R t) heq
      rw [e] at h1
      rw [h1] at h2
      simp only [Option.some.injEq] at h2
      subst h2
      omega
    · have := m2.1 hgt; omega
theorem frm_key {X : List Int} {T i : Nat} {A : Nat → Int} {R : Nat → Nat} (h : Inv X T i A R) (s t : Nat) (hs : s < 64) (ht : t < 64) (e : 2 * R (frm X T i A R s) + s / 32 = 2 * R (frm X T i A R t) + t / 32) : s = t := by
  have e1 : R (frm X T i A R s) = R (frm X T i A R t) := by omega
  have e2 := h.inj _ _ (frm_lt X T i A R s) (frm_lt X T i A R t) e1
  have h1 := frm_half X T i A R s
  have h2 := frm_half X T i A R t
  rw [e2] at h1
  omega
end Go.Proofs.Ytbfgpjpfhbbdfaa
