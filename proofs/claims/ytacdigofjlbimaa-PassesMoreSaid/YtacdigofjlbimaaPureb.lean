/-
  The plain law of the planner of passes, second part: the best plan, and what follows of it. Conditions: none.
-/
import Derived.Test.YtacdigofjlbimaaPure
namespace Go.Proofs.Ytacdigofjlbimaa
/-- A valid window. -/
def vW (a : Wn) : Prop := 0 ≤ a.fr ∧ a.fr < a.to ∧ a.to ≤ 1099511627776 ∧ 0 ≤ a.st ∧ a.st ≤ 255 ∧ 0 ≤ a.va ∧ a.va ≤ 1099511627776 ∧ 0 ≤ a.co ∧ a.co ≤ 1000
instance (a : Wn) : Decidable (vW a) := by unfold vW; exact inferInstance
def vL (W : Nat → Wn) (m : Nat) : Prop := ∀ i, i < m → vW (W i)
section
variable {W : Nat → Wn} {m : Nat} {gap : Int}
theorem chain_pair (hv : vL W m) (hg : 0 ≤ gap) : ∀ (last : Option Nat) (p : List Nat), chain W gap last p = true → (∀ i ∈ p, i < m) → p.Pairwise (fun i k => (W i).to ≤ (W k).fr) ∧ ∀ j, last = some j → ∀ i ∈ p, (W j).to ≤ (W i).fr
  | _, [], _, _ => by simp
  | last, i :: p, h, hm => by
    simp only [chain, Bool.and_eq_true] at h
    obtain ⟨i1, i2⟩ := chain_pair hv hg (some i) p h.2 (fun x hx => hm x (by simp [hx]))
    have hi := hv i (hm i (by simp))
    unfold vW at hi
    refine ⟨List.pairwise_cons.2 ⟨fun k hk => i2 i rfl k hk, i1⟩, ?_⟩
    rintro j rfl k hk
    have h1 : (W j).to ≤ (W i).fr := by
      have := h.1
      unfold lastOk fol at this
      simp at this
      split at this <;> omega
    rcases List.mem_cons.1 hk with rfl | hk
    · exact h1
    · have := i2 i rfl k hk; omega
theorem pair_nodup (hv : vL W m) {p : List Nat} (h : p.Pairwise (fun i k => (W i).to ≤ (W k).fr)) (hm : ∀ i ∈ p, i < m) : p.Nodup := by
  refine List.Pairwise.imp_of_mem ?_ h
  intro i k hi _ hik e
  subst e
  have := hv i (hm i hi)
  unfold vW at this
  omega
theorem cost_erase {a : Nat} : ∀ {l : List Nat}, a ∈ l → cost W l = (W a).co + cost W (l.erase a)
  | [], h => by simp at h
  | b :: l, h => by
    by_cases hb : b = a
    · subst hb; simp [cost]
    · rw [List.erase_cons_tail (by simpa using hb)]
      have := cost_erase (a := a) (l := l) (by rcases List.mem_cons.1 h with h | h; exact absurd h.symm hb; exact h)
      simp only [cost]
      omega
theorem sub_cost : ∀ (p l : List Nat), p.Nodup → (∀ i ∈ p, i ∈ l) → (∀ i ∈ l, 0 ≤ (W i).co) → p.length ≤ l.length ∧ cost W p ≤ cost W l
  | [], l, _, _, hc => by
    have : 0 ≤ cost W l := by
      induction l with
      | nil => simp [cost]
      | cons b l ih => have := ih (by simp) (fun i hi => hc i (by simp [hi])); have := hc b (by simp); simp [cost]; omega
    simpa [cost] using this
  | a :: p, l, hn, hs, hc => by
    obtain ⟨h1, h2⟩ := List.nodup_cons.1 hn
    have ha := hs a (by simp)
    have := sub_cost p (l.erase a) h2 (fun i hi => (List.mem_erase_of_ne (fun (e : i = a) => h1 (e ▸ hi))).2 (hs i (by simp [hi]))) (fun i hi => hc i (List.mem_of_mem_erase hi))
    rw [List.length_erase_of_mem ha] at this
    have hl := List.length_pos_of_mem ha
    rw [cost_erase (W := W) ha]
    simp only [cost, List.length_cons]
    omega
/-- The costs of all windows. -/
def allc (W : Nat → Wn) (m : Nat) : Int := cost W (List.range m)
/-- The best plan. -/
def bestp (W : Nat → Wn) (m : Nat) (gap bud most : Int) : List Nat := plan W m gap (min most.toNat m) none (min bud (allc W m))
def vR (gap bud most : Int) : Prop := 0 ≤ gap ∧ gap ≤ 1099511627776 ∧ 0 ≤ bud ∧ bud ≤ 1000 ∧ 0 ≤ most ∧ most ≤ 40
instance (gap bud most : Int) : Decidable (vR gap bud most) := by unfold vR; exact inferInstance
theorem allc_nn (hv : vL W m) : 0 ≤ allc W m := by
  have := (sub_cost (W := W) [] (List.range m) (by simp) (by simp) (fun i hi => (hv i (by simpa using hi)).2.2.2.2.2.2.2.1)).2
  simpa [cost, allc] using this
theorem fea_iff {bud most : Int} (p : List Nat) : fea W gap bud most p = true ↔ chain W gap none p = true ∧ cost W p ≤ bud ∧ (p.length : Int) ≤ most := by
  unfold fea; simp [and_assoc]
theorem adm_fea (hv : vL W m) {bud most : Int} (hr : vR gap bud most) (p : List Nat) (hm : ∀ i ∈ p, i < m) :
    adm W m gap (min most.toNat m) none (min bud (allc W m)) p ↔ fea W gap bud most p = true := by
  unfold vR at hr
  have hc : ∀ i, i < m → 0 ≤ (W i).co := fun i hi => (hv i hi).2.2.2.2.2.2.2.1
  have ha := allc_nn hv
  rw [adm_iff _ _ _ _ (by omega) hc, fea_iff]
  constructor
  · rintro ⟨_, h1, h2, h3⟩
    exact ⟨h1, by omega, by omega⟩
  · rintro ⟨h1, h2, h3⟩
    have hp := (chain_pair hv hr.1 none p h1 hm).1
    have := sub_cost (W := W) p (List.range m) (pair_nodup hv hp hm) (by simpa using hm) (fun i hi => hc i (by simpa using hi))
    rw [List.length_range] at this
    refine ⟨hm, h1, ?_, ?_⟩
    · unfold allc; omega
    · omega
theorem adm_lt : ∀ (n : Nat) (last : Option Nat) (bud : Int) (p : List Nat), adm W m gap n last bud p → ∀ i ∈ p, i < m
  | _, _, _, [], _ => by simp
  | 0, _, _, _ :: _, h => h.elim
  | n + 1, last, bud, i :: p, h => by
    intro x hx
    rcases List.mem_cons.1 hx with rfl | hx
    · exact h.1
    · exact adm_lt n _ _ p h.2.2 x hx
theorem best_lt (gap bud most : Int) : ∀ i ∈ bestp W m gap bud most, i < m := adm_lt _ _ _ _ (plan_ok _ _ _).1
theorem best_fea (hv : vL W m) {bud most : Int} (hr : vR gap bud most) : fea W gap bud most (bestp W m gap bud most) = true := (adm_fea hv hr _ (best_lt _ _ _)).1 (plan_ok _ _ _).1
theorem best_most (hv : vL W m) {bud most : Int} (hr : vR gap bud most) (q : List Nat) (hm : ∀ i ∈ q, i < m) (hq : fea W gap bud most q = true) : atleast W (bestp W m gap bud most) q :=
  plan_best _ _ _ _ ((adm_fea hv hr _ hm).2 hq)
theorem best_only (hv : vL W m) {bud most : Int} (hr : vR gap bud most) (p : List Nat) (hm : ∀ i ∈ p, i < m) (hp : fea W gap bud most p = true) (h : ∀ q, (∀ i ∈ q, i < m) → fea W gap bud most q = true → atleast W p q) : bestp W m gap bud most = p :=
  atleast_anti (best_most hv hr p hm hp) (h _ (best_lt _ _ _) (best_fea hv hr))
theorem chain_pre : ∀ (last : Option Nat) (p q : List Nat), chain W gap last (p ++ q) = true → chain W gap last p = true
  | _, [], _, _ => by simp [chain]
  | last, i :: p, q, h => by
    simp only [List.cons_append, chain, Bool.and_eq_true] at h ⊢
    exact ⟨h.1, chain_pre (some i) p q h.2⟩
theorem cost_app (p q : List Nat) : cost W (p ++ q) = cost W p + cost W q := by
  induction p with
  | nil => simp [cost]
  | cons i p ih => simp only [List.cons_append, cost, ih]; omega
theorem value_app (p q : List Nat) : value W (p ++ q) = value W p + value W q := by
  induction p with
  | nil => simp [value]
  | cons i p ih => simp only [List.cons_append, value, ih]; omega
theorem fea_nil {bud most : Int} (hr : vR gap bud most) : fea W gap bud most [] = true := by
  unfold vR at hr
  rw [fea_iff]; simp [chain, cost]; omega
theorem fea_len {bud most : Int} (p : List Nat) (h : fea W gap bud most p = true) : p.length ≤ most.toNat := by
  rw [fea_iff] at h; omega
/-- The windows at whose indices a plan may stand: those that are not there cost nothing. -/
def Wz (W : Nat → Wn) (m : Nat) (i : Nat) : Wn := if i < m then W i else ⟨0, 0, 0, 0, 0⟩
theorem cost_nn (hv : vL W m) (p : List Nat) (hm : ∀ i ∈ p, i < m) : 0 ≤ cost W p := by
  induction p with
  | nil => simp [cost]
  | cons i p ih => have := ih (fun x hx => hm x (by simp [hx])); have := (hv i (hm i (by simp))).2.2.2.2.2.2.2.1; simp [cost]; omega
/-- What the reference finds is the best plan. -/
theorem rbest_best (hv : vL W m) {bud most : Int} (hr : vR gap bud most) : rbest W m (fun p => p.all (fun i => decide (i < m)) && fea W gap bud most p) most.toNat [] = bestp W m gap bud most := by
  have hpre : ∀ p q, (fun p => p.all (fun i => decide (i < m)) && fea W gap bud most p) (p ++ q) = true → (fun p => p.all (fun i => decide (i < m)) && fea W gap bud most p) p = true := by
    intro p q h
    simp only [Bool.and_eq_true, List.all_eq_true, decide_eq_true_eq] at h ⊢
    rw [fea_iff] at h ⊢
    have h1 := cost_nn hv q (fun i hi => h.1 i (by simp [hi]))
    have h2 := h.2.2
    rw [cost_app, List.length_append] at h2
    exact ⟨fun i hi => h.1 i (by simp [hi]), chain_pre _ _ _ h.2.1, by omega, by omega⟩
  obtain ⟨h1, h2, h3⟩ := rbest_is (W := W) (m := m) (ok := fun p => p.all (fun i => decide (i < m)) && fea W gap bud most p) hpre most.toNat (fun p hp => fea_len p (by simp only [Bool.and_eq_true] at hp; exact hp.2)) most.toNat [] (by simp) (by simp [fea_nil hr]) (by simp)
  simp only [Bool.and_eq_true] at h1
  refine (best_only hv hr _ h2 h1.2 fun q hq hf => ?_).symm
  have := h3 q hq (by simp only [List.nil_append, Bool.and_eq_true, List.all_eq_true, decide_eq_true_eq]; exact ⟨hq, hf⟩)
  simpa using this
/-- The reference asks only for plans of windows that are there. -/
theorem rbest_ok {ok ok' : List Nat → Bool} (h : ∀ p, (∀ i ∈ p, i < m) → ok p = ok' p) : ∀ (n : Nat) (p : List Nat), (∀ i ∈ p, i < m) → rbest W m ok n p = rbest W m ok' n p
  | 0, _, _ => rfl
  | n + 1, p, hp => by
    show (List.range m).foldl (rstep W ok p (rbest W m ok n)) p = (List.range m).foldl (rstep W ok' p (rbest W m ok' n)) p
    have : ∀ (l : List Nat) (b : List Nat), (∀ i ∈ l, i < m) → l.foldl (rstep W ok p (rbest W m ok n)) b = l.foldl (rstep W ok' p (rbest W m ok' n)) b := by
      intro l
      induction l with
      | nil => intro b _; rfl
      | cons i l ih =>
        intro b hl
        have hi : ∀ x ∈ p ++ [i], x < m := by
          intro x hx
          rcases List.mem_append.1 hx with hx | hx
          · exact hp x hx
          · rw [List.mem_singleton.1 hx]; exact hl i (by simp)
        have e : rstep W ok p (rbest W m ok n) b i = rstep W ok' p (rbest W m ok' n) b i := by
          unfold rstep
          rw [h _ hi, rbest_ok h n _ hi]
        rw [List.foldl_cons, List.foldl_cons, e]
        exact ih _ (fun x hx => hl x (by simp [hx]))
    exact this _ _ (by simp)
theorem rbest_fea (hv : vL W m) {bud most : Int} (hr : vR gap bud most) : rbest W m (fea W gap bud most) most.toNat [] = bestp W m gap bud most := by
  rw [← rbest_best hv hr]
  refine rbest_ok (fun p hp => ?_) _ _ (by simp)
  have : p.all (fun i => decide (i < m)) = true := by simpa using hp
  rw [this]; rfl
/-! Greatest -/
theorem atleast_value {p q : List Nat} (h : atleast W p q) : value W q ≤ value W p := by
  rcases h with rfl | h
  · exact Int.le_refl _
  · unfold better gt key at h; simp at h; omega
theorem drop_ok (hv : vL W m) (hg : 0 ≤ gap) : ∀ (last : Option Nat) (a b : List Nat) (i : Nat), (∀ x ∈ a ++ i :: b, x < m) → chain W gap last (a ++ i :: b) = true → chain W gap last (a ++ b) = true
  | last, x :: a, b, i, hm, h => by
    simp only [List.cons_append, chain, Bool.and_eq_true] at h ⊢
    exact ⟨h.1, drop_ok hv hg (some x) a b i (fun y hy => hm y (by simp only [List.cons_append, List.mem_cons]; exact .inr hy)) h.2⟩
  | last, [], [], i, _, _ => by simp [chain]
  | none, [], k :: b, i, _, h => by
    simp only [List.nil_append, chain, Bool.and_eq_true] at h ⊢
    exact ⟨rfl, h.2.2⟩
  | some j, [], k :: b, i, hm, h => by
    simp only [List.nil_append, chain, Bool.and_eq_true] at h ⊢
    refine ⟨?_, h.2.2⟩
    have h1 := h.1
    have h2 := h.2.1
    have hi := hv i (hm i (by simp))
    unfold vW at hi
    unfold lastOk fol at *
    simp at h1 h2 ⊢
    split at h1 <;> split at h2 <;> split <;> omega
theorem best_pos (hv : vL W m) {bud most : Int} (hr : vR gap bud most) : ∀ i ∈ bestp W m gap bud most, (W i).va ≠ 0 := by
  intro i hi h0
  obtain ⟨a, b, hab⟩ := List.append_of_mem hi
  have hlt := best_lt (W := W) (m := m) gap bud most
  have hf := best_fea hv hr
  have hb := fun q hm hq => best_most hv hr q hm hq
  rw [hab] at hlt hf hb
  rw [fea_iff] at hf
  have hq : fea W gap bud most (a ++ b) = true := by
    rw [fea_iff]
    have hc := (hv i (hlt i (by simp))).2.2.2.2.2.2.2.1
    have h2 := hf.2
    rw [cost_app, List.length_append] at h2
    simp only [cost, List.length_cons] at h2
    refine ⟨drop_ok hv hr.1 none a b i hlt hf.1, ?_, ?_⟩
    · rw [cost_app]; omega
    · rw [List.length_append]; omega
  have := hb (a ++ b) (fun x hx => hlt x (by rcases List.mem_append.1 hx with h | h <;> simp [h])) hq
  rcases this with h | h
  · have := congrArg List.length h
    simp at this
  · unfold better gt key at h
    rw [value_app, value_app] at h
    simp [value, h0] at h
    omega
theorem best_order (hv : vL W m) {bud most : Int} (hr : vR gap bud most) : (bestp W m gap bud most).Pairwise (fun i k => (W i).to ≤ (W k).fr) ∧ (bestp W m gap bud most).Nodup := by
  have hf := best_fea hv hr
  rw [fea_iff] at hf
  have := (chain_pair hv hr.1 none _ hf.1 (best_lt _ _ _)).1
  exact ⟨this, pair_nodup hv this (best_lt _ _ _)⟩
/-! More -/
theorem chain_gap (hg : 0 ≤ gap) {gap' : Int} (h : gap ≤ gap') : ∀ (last : Option Nat) (p : List Nat), chain W gap' last p = true → chain W gap last p = true
  | _, [], _ => by simp [chain]
  | last, i :: p, h1 => by
    simp only [chain, Bool.and_eq_true] at h1 ⊢
    refine ⟨?_, chain_gap hg h (some i) p h1.2⟩
    cases last with
    | none => rfl
    | some j =>
      have := h1.1
      unfold lastOk fol at *
      simp at this ⊢
      split at this <;> rename_i e <;> simp only [e, if_true, if_false] <;> omega
theorem more_rules (hv : vL W m) {bud most gap' bud' most' : Int} (hr : vR gap bud most) (hr' : vR gap' bud' most') (h1 : gap ≤ gap') (h2 : bud' ≤ bud) (h3 : most' ≤ most) : value W (bestp W m gap' bud' most') ≤ value W (bestp W m gap bud most) := by
  refine atleast_value (best_most hv hr _ (best_lt _ _ _) ?_)
  have := best_fea hv hr'
  rw [fea_iff] at this ⊢
  exact ⟨chain_gap hr.1 h1 _ _ this.1, by omega, by omega⟩
theorem same_on {W' : Nat → Wn} (h : ∀ i, i < m → W' i = W i) : ∀ (last : Option Nat) (p : List Nat), (∀ j, last = some j → j < m) → (∀ i ∈ p, i < m) → chain W' gap last p = chain W gap last p ∧ cost W' p = cost W p ∧ value W' p = value W p
  | _, [], _, _ => ⟨rfl, rfl, rfl⟩
  | last, i :: p, hl, hm => by
    obtain ⟨h1, h2, h3⟩ := same_on h (some i) p (fun j e => by cases e; exact hm i (by simp)) (fun x hx => hm x (by simp [hx]))
    have hi := h i (hm i (by simp))
    simp only [chain, cost, value, h1, h2, h3, hi, and_true]
    congr 1
    cases last with
    | none => rfl
    | some j =>
      show fol (W' j) (W' i) gap = fol (W j) (W i) gap
      rw [hi, h j (hl j rfl)]
theorem more_window {W' : Nat → Wn} (hw : ∀ i, i < m → W' i = W i) (hv : vL W' (m + 1)) {bud most : Int} (hr : vR gap bud most) : value W (bestp W m gap bud most) ≤ value W' (bestp W' (m + 1) gap bud most) := by
  have hv0 : vL W m := fun i hi => by rw [← hw i hi]; exact hv i (by omega)
  have hlt := best_lt (W := W) (m := m) gap bud most
  obtain ⟨h1, h2, h3⟩ := same_on (gap := gap) hw none _ (by simp) hlt
  rw [← h3]
  refine atleast_value (best_most hv hr _ (fun i hi => by have := hlt i hi; omega) ?_)
  have := best_fea hv0 hr
  rw [fea_iff] at this ⊢
  rw [h1, h2]
  exact this
/-! Moved -/
theorem moved_same {W' : Nat → Wn} {by' : Int} (h : ∀ i, i < m → W' i = { W i with fr := (W i).fr + by', to := (W i).to + by' }) : ∀ (last : Option Nat) (p : List Nat), (∀ j, last = some j → j < m) → (∀ i ∈ p, i < m) → chain W' gap last p = chain W gap last p ∧ cost W' p = cost W p ∧ value W' p = value W p
  | _, [], _, _ => ⟨rfl, rfl, rfl⟩
  | last, i :: p, hl, hm => by
    obtain ⟨h1, h2, h3⟩ := moved_same h (some i) p (fun j e => by cases e; exact hm i (by simp)) (fun x hx => hm x (by simp [hx]))
    have hi := h i (hm i (by simp))
    simp only [chain, cost, value, h1, h2, h3, hi, and_true]
    congr 1
    cases last with
    | none => rfl
    | some j =>
      show fol (W' j) (W' i) gap = fol (W j) (W i) gap
      unfold fol
      rw [hi, h j (hl j rfl)]
      simp only
      rw [decide_eq_decide]
      omega
theorem moved_best {W' : Nat → Wn} {by' : Int} (h : ∀ i, i < m → W' i = { W i with fr := (W i).fr + by', to := (W i).to + by' }) (hv : vL W m) (hv' : vL W' m) {bud most : Int} (hr : vR gap bud most) : bestp W' m gap bud most = bestp W m gap bud most := by
  have S := fun p hm => moved_same (gap := gap) h none p (by simp) hm
  refine best_only hv' hr _ (best_lt _ _ _) ?_ fun q hq hf => ?_
  · have := best_fea hv hr
    rw [fea_iff] at this ⊢
    rw [(S _ (best_lt _ _ _)).1, (S _ (best_lt _ _ _)).2.1]
    exact this
  · have hf' : fea W gap bud most q = true := by
      rw [fea_iff] at hf ⊢
      rw [← (S q hq).1, ← (S q hq).2.1]
      exact hf
    rcases best_most hv hr q hq hf' with e | hb
    · exact .inl e
    · right
      unfold better key at hb ⊢
      rw [(S q hq).2.2, (S _ (best_lt _ _ _)).2.2]
      exact hb
end
end Go.Proofs.Ytacdigofjlbimaa
