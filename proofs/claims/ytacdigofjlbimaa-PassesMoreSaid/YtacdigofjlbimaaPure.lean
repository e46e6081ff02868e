/-
  The plain law of the planner of passes: what may be gained, the plan that gains it, and that no feasible plan is better. Conditions: none.
-/
namespace Go.Proofs.Ytacdigofjlbimaa
/-- A window. -/
structure Wn where
  fr : Int
  to : Int
  st : Int
  va : Int
  co : Int
instance : Inhabited Wn := ⟨⟨0, 0, 0, 0, 0⟩⟩
def fol (a b : Wn) (gap : Int) : Bool := decide (a.to + (if a.st = b.st then 0 else gap) ≤ b.fr)
def lastOk (W : Nat → Wn) (gap : Int) : Option Nat → Nat → Bool
  | none, _ => true
  | some j, i => fol (W j) (W i) gap
def nextOk (W : Nat → Wn) (gap : Int) (last : Option Nat) (bud : Int) (i : Nat) : Bool := lastOk W gap last i && decide ((W i).co ≤ bud)
def gt (a b : Int × Int) : Bool := decide (b.1 < a.1) || (decide (a.1 = b.1) && decide (a.2 < b.2))
def plus (g : Int × Int) (v : Int) : Int × Int := (g.1 + v, g.2 + 1)
/-- One round of the planner's loop. -/
def rnd (W : Nat → Wn) (gap : Int) (last : Option Nat) (bud : Int) (aft : Nat → Int × Int) (best : Int × Int) (i : Nat) : Int × Int :=
  if nextOk W gap last bud i = true then (if gt (aft i) best = true then aft i else best) else best
def rest (W : Nat → Wn) (m : Nat) (gap : Int) : Nat → Option Nat → Int → Int × Int
  | 0, _, _ => (0, 0)
  | n + 1, last, bud => (List.range m).foldl (rnd W gap last bud (fun i => plus (rest W m gap n (some i) (bud - (W i).co)) (W i).va)) (0, 0)
def aft (W : Nat → Wn) (m : Nat) (gap : Int) (n : Nat) (bud : Int) (i : Nat) : Int × Int := plus (rest W m gap n (some i) (bud - (W i).co)) (W i).va
theorem rest_succ (W : Nat → Wn) (m : Nat) (gap : Int) (n : Nat) (last : Option Nat) (bud : Int) : rest W m gap (n + 1) last bud = (List.range m).foldl (rnd W gap last bud (aft W m gap n bud)) (0, 0) := rfl
def value (W : Nat → Wn) : List Nat → Int
  | [] => 0
  | i :: p => (W i).va + value W p
def cost (W : Nat → Wn) : List Nat → Int
  | [] => 0
  | i :: p => (W i).co + cost W p
def key (W : Nat → Wn) (p : List Nat) : Int × Int := (value W p, (p.length : Int))
/-- The plans that may follow. -/
def adm (W : Nat → Wn) (m : Nat) (gap : Int) : Nat → Option Nat → Int → List Nat → Prop
  | _, _, _, [] => True
  | 0, _, _, _ :: _ => False
  | n + 1, last, bud, i :: p => i < m ∧ nextOk W gap last bud i = true ∧ adm W m gap n (some i) (bud - (W i).co) p
def ge (a b : Int × Int) : Prop := b.1 < a.1 ∨ (a.1 = b.1 ∧ a.2 ≤ b.2)
theorem ge_refl (a : Int × Int) : ge a a := .inr ⟨rfl, Int.le_refl _⟩
theorem ge_trans {a b c : Int × Int} (h1 : ge a b) (h2 : ge b c) : ge a c := by unfold ge at *; omega
theorem gt_ge {a b : Int × Int} (h : gt a b = true) : ge a b := by unfold gt at h; unfold ge; simp at h; omega
theorem ngt_ge {a b : Int × Int} (h : ¬ gt a b = true) : ge b a := by unfold gt at h; unfold ge; simp at h; omega
theorem ge_anti {a b : Int × Int} (h1 : ge a b) (h2 : ge b a) : a = b := by
  unfold ge at *
  exact Prod.ext (by omega) (by omega)
theorem gt_irrefl (a : Int × Int) : gt a a = false := by unfold gt; simp
section
variable {W : Nat → Wn} {m : Nat} {gap : Int}
theorem fold_ge (last : Option Nat) (bud : Int) (f : Nat → Int × Int) : ∀ (l : List Nat) (b : Int × Int), ge (l.foldl (rnd W gap last bud f) b) b ∧ ∀ i ∈ l, nextOk W gap last bud i = true → ge (l.foldl (rnd W gap last bud f) b) (f i)
  | [], b => ⟨ge_refl _, by simp⟩
  | i :: l, b => by
    have ih := fold_ge last bud f l (rnd W gap last bud f b i)
    have h1 : ge (rnd W gap last bud f b i) b ∧ (nextOk W gap last bud i = true → ge (rnd W gap last bud f b i) (f i)) := by
      unfold rnd
      split
      · split
        · exact ⟨gt_ge (by assumption), fun _ => ge_refl _⟩
        · exact ⟨ge_refl _, fun _ => ngt_ge (by assumption)⟩
      · exact ⟨ge_refl _, fun h => absurd h (by assumption)⟩
    refine ⟨ge_trans ih.1 h1.1, fun j hj hn => ?_⟩
    rcases List.mem_cons.1 hj with rfl | hj
    · exact ge_trans ih.1 (h1.2 hn)
    · exact ih.2 j hj hn
theorem fold_is (last : Option Nat) (bud : Int) (f : Nat → Int × Int) : ∀ (l : List Nat) (b : Int × Int), l.foldl (rnd W gap last bud f) b = b ∨ ∃ i ∈ l, nextOk W gap last bud i = true ∧ l.foldl (rnd W gap last bud f) b = f i
  | [], b => .inl rfl
  | i :: l, b => by
    rcases fold_is last bud f l (rnd W gap last bud f b i) with h | ⟨j, hj, h1, h2⟩
    · rw [List.foldl_cons, h]
      unfold rnd
      split
      · split
        · exact .inr ⟨i, by simp, by assumption, rfl⟩
        · exact .inl rfl
      · exact .inl rfl
    · exact .inr ⟨j, by simp [hj], h1, h2⟩
theorem plus_ge {a b : Int × Int} (v : Int) (h : ge a b) : ge (plus a v) (plus b v) := by unfold ge plus at *; simp; omega
theorem key_cons (i : Nat) (p : List Nat) : key W (i :: p) = plus (key W p) (W i).va := by
  show ((W i).va + value W p, (((i :: p).length : Nat) : Int)) = (value W p + (W i).va, (p.length : Int) + 1)
  rw [Int.add_comm, List.length_cons]; rfl
theorem rest_ge : ∀ (n : Nat) (last : Option Nat) (bud : Int) (p : List Nat), adm W m gap n last bud p → ge (rest W m gap n last bud) (key W p)
  | 0, _, _, [], _ => ge_refl _
  | 0, _, _, _ :: _, h => h.elim
  | n + 1, last, bud, [], _ => (fold_ge last bud _ _ _).1
  | n + 1, last, bud, i :: p, h => by
    obtain ⟨h1, h2, h3⟩ := h
    have ih := rest_ge n (some i) (bud - (W i).co) p h3
    have := (fold_ge (W := W) (gap := gap) last bud (aft W m gap n bud) (List.range m) (0, 0)).2 i (by simpa using h1) h2
    rw [key_cons]
    exact ge_trans this (plus_ge _ ih)
theorem rest_is : ∀ (n : Nat) (last : Option Nat) (bud : Int), ∃ p, adm W m gap n last bud p ∧ key W p = rest W m gap n last bud
  | 0, _, _ => ⟨[], trivial, rfl⟩
  | n + 1, last, bud => by
    rcases fold_is (W := W) (gap := gap) last bud (aft W m gap n bud) (List.range m) (0, 0) with h | ⟨i, hi, h1, h2⟩
    · exact ⟨[], by cases last <;> trivial, by rw [rest_succ, h]; rfl⟩
    · obtain ⟨p, hp, hk⟩ := rest_is n (some i) (bud - (W i).co)
      exact ⟨i :: p, ⟨by simpa using hi, h1, hp⟩, by rw [rest_succ, h2, key_cons, hk]; rfl⟩
theorem rest_many (n : Nat) (last : Option Nat) (bud : Int) : 0 ≤ (rest W m gap n last bud).2 ∧ (rest W m gap n last bud).2 ≤ n := by
  obtain ⟨p, hp, hk⟩ := rest_is (W := W) (m := m) (gap := gap) n last bud
  rw [← hk]
  have : ∀ (n : Nat) (last : Option Nat) (bud : Int) (p : List Nat), adm W m gap n last bud p → p.length ≤ n := by
    intro n
    induction n with
    | zero => intro _ _ p h; cases p with | nil => simp | cons => exact h.elim
    | succ n ih => intro _ _ p h; cases p with | nil => simp | cons i p => have := ih _ _ _ h.2.2; simp; omega
  have := this _ _ _ _ hp
  unfold key
  simp
  omega
/-- The plan that the planner writes. -/
def plan (W : Nat → Wn) (m : Nat) (gap : Int) : Nat → Option Nat → Int → List Nat
  | 0, _, _ => []
  | n + 1, last, bud => if (rest W m gap (n + 1) last bud).2 ≤ 0 then [] else
    match (List.range m).find? (fun i => nextOk W gap last bud i && decide (aft W m gap n bud i = rest W m gap (n + 1) last bud)) with
    | none => []
    | some i => i :: plan W m gap n (some i) (bud - (W i).co)
theorem plan_find (n : Nat) (last : Option Nat) (bud : Int) (h : 0 < (rest W m gap (n + 1) last bud).2) :
    ∃ i, i < m ∧ nextOk W gap last bud i = true ∧ aft W m gap n bud i = rest W m gap (n + 1) last bud ∧ (∀ j, j < i → ¬ (nextOk W gap last bud j = true ∧ aft W m gap n bud j = rest W m gap (n + 1) last bud)) ∧
      plan W m gap (n + 1) last bud = i :: plan W m gap n (some i) (bud - (W i).co) := by
  have hx : ∃ i ∈ List.range m, (fun i => nextOk W gap last bud i && decide (aft W m gap n bud i = rest W m gap (n + 1) last bud)) i = true := by
    rcases fold_is (W := W) (gap := gap) last bud (aft W m gap n bud) (List.range m) (0, 0) with h0 | ⟨i, hi, h1, h2⟩
    · rw [rest_succ, h0] at h; exact absurd h (by decide)
    · exact ⟨i, hi, by rw [rest_succ, h2]; simp [h1]⟩
  cases hf : (List.range m).find? (fun i => nextOk W gap last bud i && decide (aft W m gap n bud i = rest W m gap (n + 1) last bud)) with
  | none =>
    obtain ⟨i, hi, h1⟩ := hx
    have := List.find?_eq_none.1 hf i hi
    exact absurd h1 this
  | some i =>
    have h1 := List.find?_some hf
    have h2 := List.mem_of_find?_eq_some hf
    simp at h1 h2
    refine ⟨i, h2, h1.1, h1.2, fun j hj hc => ?_, ?_⟩
    · have h3 := (List.find?_range_eq_some.1 hf).2.2 j hj
      simp at h3
      rcases h3 with h3 | h3
      · rw [hc.1] at h3; cases h3
      · exact h3 hc.2
    · have : ¬ (rest W m gap (n + 1) last bud).2 ≤ 0 := by omega
      show (if _ then _ else _) = _
      rw [if_neg this, hf]
theorem plan_done (n : Nat) (last : Option Nat) (bud : Int) (h : ¬ 0 < (rest W m gap n last bud).2) : plan W m gap n last bud = [] := by
  cases n with
  | zero => rfl
  | succ n => show (if _ then _ else _) = _; rw [if_pos (by omega)]
theorem adm_nil (n : Nat) (last : Option Nat) (bud : Int) : adm W m gap n last bud [] := by cases n <;> cases last <;> trivial
theorem plan_ok : ∀ (n : Nat) (last : Option Nat) (bud : Int), adm W m gap n last bud (plan W m gap n last bud) ∧ key W (plan W m gap n last bud) = rest W m gap n last bud
  | 0, _, _ => ⟨trivial, rfl⟩
  | n + 1, last, bud => by
    by_cases h : 0 < (rest W m gap (n + 1) last bud).2
    · obtain ⟨i, h1, h2, h3, _, h5⟩ := plan_find n last bud h
      obtain ⟨g1, g2⟩ := plan_ok n (some i) (bud - (W i).co)
      rw [h5]
      exact ⟨⟨h1, h2, g1⟩, by rw [key_cons, g2, ← h3]; rfl⟩
    · rw [plan_done _ _ _ h]
      refine ⟨adm_nil _ _ _, ?_⟩
      obtain ⟨p, hp, hk⟩ := rest_is (W := W) (m := m) (gap := gap) (n + 1) last bud
      have h0 := (rest_many (W := W) (m := m) (gap := gap) (n + 1) last bud).1
      rw [← hk] at h h0 ⊢
      have hl : p.length = 0 := by have h1 : ¬ (0 : Int) < (p.length : Int) := h; omega
      rw [List.length_eq_zero_iff.1 hl]
/-! Better -/
def lexlt : List Nat → List Nat → Bool
  | a :: p, b :: q => decide (a < b) || (decide (a = b) && lexlt p q)
  | _, _ => false
def better (W : Nat → Wn) (a b : List Nat) : Bool := gt (key W a) (key W b) || (decide (key W a = key W b) && lexlt a b)
/-- a is at least as good as b. -/
def atleast (W : Nat → Wn) (a b : List Nat) : Prop := a = b ∨ better W a b = true
theorem lex_trans : ∀ {a b c : List Nat}, lexlt a b = true → lexlt b c = true → lexlt a c = true
  | a :: p, b :: q, c :: r, h1, h2 => by
    simp only [lexlt, Bool.or_eq_true, Bool.and_eq_true, decide_eq_true_eq] at h1 h2 ⊢
    rcases h1 with h1 | ⟨h1, h1'⟩ <;> rcases h2 with h2 | ⟨h2, h2'⟩
    · left; omega
    · left; omega
    · left; omega
    · right; exact ⟨by omega, lex_trans h1' h2'⟩
  | [], _, _, h, _ => by simp [lexlt] at h
  | _ :: _, [], _, h, _ => by simp [lexlt] at h
  | _ :: _, _ :: _, [], _, h => by simp [lexlt] at h
theorem lex_irrefl : ∀ a : List Nat, lexlt a a = false
  | [] => rfl
  | a :: p => by simp [lexlt, lex_irrefl p]
theorem lex_total : ∀ {a b : List Nat}, a.length = b.length → a = b ∨ lexlt a b = true ∨ lexlt b a = true
  | [], [], _ => .inl rfl
  | a :: p, b :: q, h => by
    rcases Nat.lt_trichotomy a b with h1 | h1 | h1
    · right; left; simp [lexlt, h1]
    · subst h1
      rcases lex_total (a := p) (b := q) (by simpa using h) with h2 | h2 | h2
      · left; rw [h2]
      · right; left; simp [lexlt, h2]
      · right; right; simp [lexlt, h2]
    · right; right; simp [lexlt, h1]
  | [], _ :: _, h => by simp at h
  | _ :: _, [], h => by simp at h
theorem gt_trans {a b c : Int × Int} (h1 : gt a b = true) (h2 : gt b c = true) : gt a c = true := by unfold gt at *; simp at *; omega
theorem better_trans {a b c : List Nat} (h1 : better W a b = true) (h2 : better W b c = true) : better W a c = true := by
  unfold better at *
  simp only [Bool.or_eq_true, Bool.and_eq_true, decide_eq_true_eq] at *
  rcases h1 with h1 | ⟨h1, h1'⟩ <;> rcases h2 with h2 | ⟨h2, h2'⟩
  · exact .inl (gt_trans h1 h2)
  · rw [← h2]; exact .inl h1
  · rw [h1]; exact .inl h2
  · exact .inr ⟨h1.trans h2, lex_trans h1' h2'⟩
theorem better_irrefl (a : List Nat) : better W a a = false := by unfold better; simp [gt_irrefl, lex_irrefl]
theorem better_total (a b : List Nat) : a = b ∨ better W a b = true ∨ better W b a = true := by
  unfold better
  simp only [Bool.or_eq_true, Bool.and_eq_true, decide_eq_true_eq]
  by_cases h1 : gt (key W a) (key W b) = true
  · exact .inr (.inl (.inl h1))
  by_cases h2 : gt (key W b) (key W a) = true
  · exact .inr (.inr (.inl h2))
  have he := ge_anti (ngt_ge h2) (ngt_ge h1)
  have hl : a.length = b.length := by have h3 : (a.length : Int) = (b.length : Int) := congrArg Prod.snd he; omega
  rcases lex_total hl with h | h | h
  · exact .inl h
  · exact .inr (.inl (.inr ⟨he, h⟩))
  · exact .inr (.inr (.inr ⟨he.symm, h⟩))
theorem atleast_trans {a b c : List Nat} (h1 : atleast W a b) (h2 : atleast W b c) : atleast W a c := by
  rcases h1 with rfl | h1
  · exact h2
  · rcases h2 with rfl | h2
    · exact .inr h1
    · exact .inr (better_trans h1 h2)
theorem atleast_anti {a b : List Nat} (h1 : atleast W a b) (h2 : atleast W b a) : a = b := by
  rcases h1 with rfl | h1
  · rfl
  · rcases h2 with h2 | h2
    · exact h2.symm
    · have := better_trans h1 h2
      rw [better_irrefl] at this; cases this
theorem ge_cases {a b : Int × Int} (h : ge a b) : a = b ∨ gt a b = true := by
  by_cases hg : gt a b = true
  · exact .inr hg
  · exact .inl (ge_anti h (ngt_ge hg))
theorem plan_best : ∀ (n : Nat) (last : Option Nat) (bud : Int) (q : List Nat), adm W m gap n last bud q → atleast W (plan W m gap n last bud) q
  | 0, _, _, [], _ => .inl rfl
  | 0, _, _, _ :: _, h => h.elim
  | n + 1, last, bud, q, hq => by
    have hp := (plan_ok (W := W) (m := m) (gap := gap) (n + 1) last bud).2
    rcases ge_cases (rest_ge _ _ _ _ hq) with he | hg
    · by_cases h : 0 < (rest W m gap (n + 1) last bud).2
      · obtain ⟨i, h1, h2, h3, h4, h5⟩ := plan_find n last bud h
        cases q with
        | nil => rw [he] at h; exact absurd h (by simp [key])
        | cons j q =>
          obtain ⟨k1, k2, k3⟩ := hq
          have hj : aft W m gap n bud j = rest W m gap (n + 1) last bud := by
            refine ge_anti ?_ ?_
            · rw [he, key_cons]; exact plus_ge _ (rest_ge _ _ _ _ k3)
            · exact (fold_ge (W := W) (gap := gap) last bud (aft W m gap n bud) (List.range m) (0, 0)).2 j (by simpa using k1) k2
          have hij : i ≤ j := by
            rcases Nat.lt_or_ge j i with h | h
            · exact absurd ⟨k2, hj⟩ (h4 j h)
            · exact h
          have hk : key W (plan W m gap (n + 1) last bud) = key W (j :: q) := by rw [hp, he]
          rcases Nat.lt_or_ge i j with hlt | hge
          · right
            unfold better
            rw [hk, h5]
            simp [lexlt, hlt]
          · obtain rfl : i = j := by omega
            rcases plan_best n (some i) (bud - (W i).co) q k3 with h6 | h6
            · left; rw [h5, h6]
            · right
              have e1 : key W (plan W m gap n (some i) (bud - (W i).co)) = key W q := by
                have := hk
                rw [h5, key_cons, key_cons] at this
                unfold plus at this
                simp at this
                exact Prod.ext (by omega) (by omega)
              unfold better at h6 ⊢
              rw [e1] at h6
              rw [hk, h5]
              simp [gt_irrefl] at h6
              simp [lexlt, h6]
      · rw [plan_done _ _ _ h]
        left
        have h0 := (rest_many (W := W) (m := m) (gap := gap) (n + 1) last bud).1
        rw [he] at h h0
        exact (List.length_eq_zero_iff.1 (by have h1 : ¬ (0 : Int) < (q.length : Int) := h; omega)).symm
    · right
      unfold better
      rw [hp, hg]
      rfl
/-! The reference -/
def chain (W : Nat → Wn) (gap : Int) : Option Nat → List Nat → Bool
  | _, [] => true
  | last, i :: p => lastOk W gap last i && chain W gap (some i) p
def fea (W : Nat → Wn) (gap bud most : Int) (p : List Nat) : Bool := chain W gap none p && decide (cost W p ≤ bud) && decide ((p.length : Int) ≤ most)
def rstep (W : Nat → Wn) (ok : List Nat → Bool) (p : List Nat) (f : List Nat → List Nat) (found : List Nat) (i : Nat) : List Nat :=
  if ok (p ++ [i]) = true then (if better W (f (p ++ [i])) found = true then f (p ++ [i]) else found) else found
def rbest (W : Nat → Wn) (m : Nat) (ok : List Nat → Bool) : Nat → List Nat → List Nat
  | 0, p => p
  | n + 1, p => (List.range m).foldl (rstep W ok p (rbest W m ok n)) p
theorem atleast_refl (a : List Nat) : atleast W a a := .inl rfl
theorem nbetter {a b : List Nat} (h : ¬ better W a b = true) : atleast W b a := by
  rcases better_total (W := W) a b with h1 | h1 | h1
  · exact .inl h1.symm
  · exact absurd h1 h
  · exact .inr h1
theorem rfold (ok : List Nat → Bool) (p : List Nat) (f : List Nat → List Nat) : ∀ (l : List Nat) (b : List Nat), atleast W (l.foldl (rstep W ok p f) b) b ∧ (∀ i ∈ l, ok (p ++ [i]) = true → atleast W (l.foldl (rstep W ok p f) b) (f (p ++ [i]))) ∧ (l.foldl (rstep W ok p f) b = b ∨ ∃ i ∈ l, ok (p ++ [i]) = true ∧ l.foldl (rstep W ok p f) b = f (p ++ [i]))
  | [], b => ⟨atleast_refl _, by simp, .inl rfl⟩
  | i :: l, b => by
    obtain ⟨i1, i2, i3⟩ := rfold ok p f l (rstep W ok p f b i)
    have h1 : atleast W (rstep W ok p f b i) b ∧ (ok (p ++ [i]) = true → atleast W (rstep W ok p f b i) (f (p ++ [i]))) ∧ (rstep W ok p f b i = b ∨ (ok (p ++ [i]) = true ∧ rstep W ok p f b i = f (p ++ [i]))) := by
      unfold rstep
      split
      · split
        · exact ⟨.inr (by assumption), fun _ => atleast_refl _, .inr ⟨by assumption, rfl⟩⟩
        · exact ⟨atleast_refl _, fun _ => nbetter (by assumption), .inl rfl⟩
      · exact ⟨atleast_refl _, fun h => absurd h (by assumption), .inl rfl⟩
    refine ⟨atleast_trans i1 h1.1, fun j hj hn => ?_, ?_⟩
    · rcases List.mem_cons.1 hj with rfl | hj
      · exact atleast_trans i1 (h1.2.1 hn)
      · exact i2 j hj hn
    · rw [List.foldl_cons]
      rcases i3 with i3 | ⟨j, hj, g1, g2⟩
      · rw [i3]
        rcases h1.2.2 with h | ⟨h, h'⟩
        · exact .inl h
        · exact .inr ⟨i, by simp, h, h'⟩
      · exact .inr ⟨j, by simp [hj], g1, g2⟩
/-- The reference's plan is feasible, and at least as good as each that is and that begins so. -/
theorem rbest_is {ok : List Nat → Bool} (hpre : ∀ p q, ok (p ++ q) = true → ok p = true) (N : Nat) (hlen : ∀ p, ok p = true → p.length ≤ N) : ∀ (n : Nat) (p : List Nat), N ≤ n + p.length → ok p = true → (∀ i ∈ p, i < m) →
    ok (rbest W m ok n p) = true ∧ (∀ i ∈ rbest W m ok n p, i < m) ∧ ∀ q, (∀ i ∈ q, i < m) → ok (p ++ q) = true → atleast W (rbest W m ok n p) (p ++ q)
  | 0, p, hn, hp, hm => by
    refine ⟨hp, hm, fun q _ hq => ?_⟩
    have := hlen _ hq
    rw [List.length_append] at this
    have : q.length = 0 := by omega
    rw [List.length_eq_zero_iff.1 this, List.append_nil]
    exact atleast_refl _
  | n + 1, p, hn, hp, hm => by
    obtain ⟨f1, f2, f3⟩ := rfold (W := W) ok p (rbest W m ok n) (List.range m) p
    have ih : ∀ i, i < m → ok (p ++ [i]) = true → _ := fun i hi hok => rbest_is hpre N hlen n (p ++ [i]) (by simp; omega) hok (by
      intro x hx
      rcases List.mem_append.1 hx with hx | hx
      · exact hm x hx
      · rw [List.mem_singleton.1 hx]; exact hi)
    refine ⟨?_, ?_, fun q hqm hq => ?_⟩
    · show ok ((List.range m).foldl (rstep W ok p (rbest W m ok n)) p) = true
      rcases f3 with h | ⟨i, hi, h1, h2⟩
      · rw [h]; exact hp
      · rw [h2]; exact (ih i (by simpa using hi) h1).1
    · show ∀ i ∈ (List.range m).foldl (rstep W ok p (rbest W m ok n)) p, i < m
      rcases f3 with h | ⟨i, hi, h1, h2⟩
      · rw [h]; exact hm
      · rw [h2]; exact (ih i (by simpa using hi) h1).2.1
    · show atleast W ((List.range m).foldl (rstep W ok p (rbest W m ok n)) p) (p ++ q)
      cases q with
      | nil => rw [List.append_nil]; exact f1
      | cons i q =>
        have e : p ++ i :: q = (p ++ [i]) ++ q := by simp
        have hi : i < m := hqm i (by simp)
        have h1 : ok (p ++ [i]) = true := hpre _ q (by rw [← e]; exact hq)
        rw [e]
        exact atleast_trans (f2 i (by simpa using hi) h1) ((ih i hi h1).2.2 q (fun x hx => hqm x (by simp [hx])) (by rw [← e]; exact hq))
theorem adm_iff : ∀ (n : Nat) (last : Option Nat) (bud : Int) (p : List Nat), 0 ≤ bud → (∀ i, i < m → 0 ≤ (W i).co) → (adm W m gap n last bud p ↔ (∀ i ∈ p, i < m) ∧ chain W gap last p = true ∧ cost W p ≤ bud ∧ p.length ≤ n)
  | n, last, bud, [], hb, _ => by simp [adm_nil, chain, cost, hb]
  | 0, last, bud, i :: p, _, _ => by simp [adm]
  | n + 1, last, bud, i :: p, hb, hc => by
    have hcp : (∀ i ∈ p, i < m) → 0 ≤ cost W p := by
      intro h
      clear hb
      induction p with
      | nil => simp [cost]
      | cons j p ih => have := ih (fun x hx => h x (by simp [hx])); have := hc j (h j (by simp)); simp [cost]; omega
    simp only [adm, nextOk, chain, cost, Bool.and_eq_true, decide_eq_true_eq, List.mem_cons, forall_eq_or_imp, List.length_cons]
    constructor
    · rintro ⟨h1, ⟨h2, h3⟩, h4⟩
      have := (adm_iff n (some i) (bud - (W i).co) p (by omega) hc).1 h4
      exact ⟨⟨h1, this.1⟩, ⟨h2, this.2.1⟩, by omega, by omega⟩
    · rintro ⟨⟨h1, h2⟩, ⟨h3, h4⟩, h5, h6⟩
      have := hcp h2
      exact ⟨h1, ⟨h3, by omega⟩, (adm_iff n (some i) (bud - (W i).co) p (by omega) hc).2 ⟨h2, h4, by omega, by omega⟩⟩
end
end Go.Proofs.Ytacdigofjlbimaa
