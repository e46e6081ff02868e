/-
  Plain laws of shedding loads: in the order of ranks until the rest can be served. Conditions: those that each theorem names.
-/
import Derived.Test.YtbdobcmblbojfaaKitf
namespace Go.Proofs.Ytbdobcmblbojfaa
/-- A load: what it draws, its rank, whether it is on. -/
abbrev Ld := Int × Int × Bool
def dr (l : List Ld) (i : Nat) : Int := (l.getD i (0, 0, false)).1
def rk (l : List Ld) (i : Nat) : Int := (l.getD i (0, 0, false)).2.1
def isOn (l : List Ld) (i : Nat) : Bool := (l.getD i (0, 0, false)).2.2
def sv (S : List Bool) (i : Nat) : Bool := S.getD i false
/-- The first n terms of what is drawn by those that are marked. -/
def sumK (l : List Ld) (S : List Bool) : Nat → Int
  | 0 => 0
  | k + 1 => sumK l S k + (if sv S k then dr l k else 0)
def sumS (l : List Ld) (S : List Bool) : Int := sumK l S l.length
/-- i is shed before k. -/
def bef (l : List Ld) (i k : Nat) : Prop := rk l i < rk l k ∨ (rk l i = rk l k ∧ k < i)
instance (l : List Ld) (i k : Nat) : Decidable (bef l i k) := by unfold bef; infer_instance
theorem bef_irrefl (l : List Ld) (i : Nat) : ¬ bef l i i := by unfold bef; omega
theorem bef_trans {l : List Ld} {i j k : Nat} (h : bef l i j) (h' : bef l j k) : bef l i k := by unfold bef at *; omega
theorem bef_total (l : List Ld) (i k : Nat) : i = k ∨ bef l i k ∨ bef l k i := by unfold bef; omega
/-- Shedding in an order. -/
def shedL (l : List Ld) (e : Int) : List Nat → List Bool → List Bool
  | [], S => S
  | i :: r, S => if sumS l S ≤ e then S else shedL l e r (S.set i false)
def onL (l : List Ld) : List Bool := l.map (·.2.2)
theorem onL_len (l : List Ld) : (onL l).length = l.length := by simp [onL]
theorem sv_onL (l : List Ld) (i : Nat) : sv (onL l) i = isOn l i := by
  unfold sv onL isOn
  rw [List.getD_eq_getElem?_getD, List.getElem?_map, List.getD_eq_getElem?_getD]
  cases l[i]? <;> rfl
theorem sv_set (S : List Bool) (i j : Nat) : sv (S.set i false) j = (if j = i then false else sv S j) := by
  unfold sv
  rw [List.getD_eq_getElem?_getD, List.getElem?_set, List.getD_eq_getElem?_getD]
  by_cases h : i = j
  · subst h
    rw [if_pos rfl, if_pos rfl]
    split <;> rfl
  · rw [if_neg h, if_neg (fun e => h e.symm)]
theorem shedL_len (l : List Ld) (e : Int) : ∀ o S, (shedL l e o S).length = S.length
  | [], S => rfl
  | i :: r, S => by
    rw [shedL]; split
    · rfl
    · rw [shedL_len l e r]; simp
theorem set_off {S : List Bool} {i : Nat} (h : sv S i = false) : S.set i false = S := by
  apply List.ext_getElem (by simp)
  intro j h1 h2
  rw [List.getElem_set]
  split
  · rename_i e
    subst e
    unfold sv at h
    rw [List.getD_eq_getElem?_getD, List.getElem?_eq_getElem h2] at h
    simpa using h.symm
  · rfl
theorem sumK_congr {l : List Ld} {S T : List Bool} : ∀ k, (∀ i, i < k → sv S i = sv T i) → sumK l S k = sumK l T k
  | 0, _ => rfl
  | k + 1, h => by rw [sumK, sumK, sumK_congr k (fun i hi => h i (by omega)), h k (by omega)]
theorem sumK_set (l : List Ld) (S : List Bool) (i : Nat) (hs : sv S i = true) : ∀ k, sumK l (S.set i false) k = sumK l S k - (if i < k then dr l i else 0)
  | 0 => by simp [sumK]
  | k + 1 => by
    rw [sumK, sumK, sumK_set l S i hs k, sv_set]
    by_cases h1 : k = i
    · subst h1; simp [hs]
    · have e : (i < k + 1) ↔ (i < k) := by omega
      simp only [h1, if_false, e]
      generalize (if sv S k = true then dr l k else 0) = A
      generalize (if i < k then dr l i else 0) = B
      omega
theorem sumS_set (l : List Ld) (S : List Bool) (i : Nat) (hi : i < l.length) (hs : sv S i = true) : sumS l (S.set i false) = sumS l S - dr l i := by
  rw [sumS, sumS, sumK_set l S i hs, if_pos hi]
/-- All draws lie from 0 to 2^30. -/
def okD (l : List Ld) : Prop := ∀ x ∈ l, 0 ≤ x.1 ∧ x.1 ≤ 1073741824 ∧ 0 ≤ x.2.1 ∧ x.2.1 ≤ 15
instance (l : List Ld) : Decidable (okD l) := by unfold okD; infer_instance
theorem okD.at {l : List Ld} (h : okD l) (i : Nat) : 0 ≤ dr l i ∧ dr l i ≤ 1073741824 ∧ 0 ≤ rk l i ∧ rk l i ≤ 15 := by
  unfold dr rk
  rw [List.getD_eq_getElem?_getD]
  rcases Nat.lt_or_ge i l.length with h' | h'
  · rw [List.getElem?_eq_getElem h']; exact h _ (List.getElem_mem h')
  · rw [List.getElem?_eq_none h']; simp
theorem sumK_bound {l : List Ld} (h : okD l) (S : List Bool) : ∀ k, 0 ≤ sumK l S k ∧ sumK l S k ≤ 1073741824 * k
  | 0 => by simp [sumK]
  | k + 1 => by
    have := sumK_bound h S k
    have := h.at k
    rw [sumK]; split <;> omega
theorem sumK_none {l : List Ld} {S : List Bool} : ∀ k, (∀ i, i < k → sv S i = false) → sumK l S k = 0
  | 0, _ => rfl
  | k + 1, h => by rw [sumK, sumK_none k (fun i hi => h i (by omega)), h k (by omega)]; simp
theorem sumK_mono {l : List Ld} (h : okD l) (S : List Bool) (j : Nat) : ∀ k, j ≤ k → sumK l S j ≤ sumK l S k
  | 0, hj => by obtain rfl : j = 0 := by omega
                exact Int.le_refl _
  | k + 1, hj => by
    by_cases e : j = k + 1
    · subst e; exact Int.le_refl _
    · have := sumK_mono h S j k (by omega)
      have := h.at k
      rw [sumK]; split <;> omega
/-- An order of shedding: all places, in the order. -/
structure Ord (l : List Ld) (o : List Nat) : Prop where
  mem : ∀ i, i ∈ o ↔ i < l.length
  sorted : o.Pairwise (bef l)
/-- THE REFERENCE's STEP: where more is drawn than there is, the first of the order that is served is shed. -/
theorem shed_worst {l : List Ld} {e : Int} {S : List Bool} {x : Nat} (hx : sv S x = true) (hmin : ∀ i, i < l.length → sv S i = true → i = x ∨ bef l x i) (hs : e < sumS l S) :
    ∀ o : List Nat, o.Pairwise (bef l) → (∀ i ∈ o, i < l.length) → (∀ i, i < l.length → sv S i = true → i ∈ o) → x < l.length → ∃ r, shedL l e o S = shedL l e r (S.set x false) ∧ r.Pairwise (bef l) ∧ (∀ i ∈ r, i < l.length) ∧ ∀ i, i < l.length → sv (S.set x false) i = true → i ∈ r
  | [], _, _, h, hxl => by have := h x hxl hx; cases this
  | i :: r, hp, hr, h, hxl => by
    rw [shedL, if_neg (by omega)]
    cases hsi : sv S i with
    | false =>
      rw [set_off hsi]
      exact shed_worst hx hmin hs r (List.pairwise_cons.1 hp).2 (fun j hj => hr j (by simp [hj])) (fun j hj hsj => by
        rcases List.mem_cons.1 (h j hj hsj) with e | e
        · subst e; rw [hsi] at hsj; cases hsj
        · exact e) hxl
    | true =>
      have hil := hr i (by simp)
      have : i = x := by
        rcases hmin i hil hsi with e | e
        · exact e
        · rcases List.mem_cons.1 (h x hxl hx) with e' | e'
          · exact e'.symm
          · exact absurd (bef_trans e ((List.pairwise_cons.1 hp).1 x e')) (bef_irrefl l x)
      subst this
      exact ⟨r, rfl, (List.pairwise_cons.1 hp).2, fun j hj => hr j (by simp [hj]), fun j hj hsj => by
        rw [sv_set] at hsj
        split at hsj
        · cases hsj
        · rename_i hne
          rcases List.mem_cons.1 (h j hj hsj) with e | e
          · exact absurd e hne
          · exact e⟩
theorem shed_done {l : List Ld} {e : Int} {S : List Bool} (hs : sumS l S ≤ e) (o : List Nat) : shedL l e o S = S := by
  cases o with
  | nil => rfl
  | cons i r => rw [shedL, if_pos hs]
/-- What is left behind shedding. -/
theorem shed_facts {l : List Ld} (hd : okD l) {e : Int} (he : 0 ≤ e) : ∀ (o : List Nat) (S : List Bool), o.Pairwise (bef l) → (∀ i ∈ o, i < l.length) → (∀ i, i < l.length → sv S i = true → i ∈ o) →
    sumS l (shedL l e o S) ≤ e ∧ (∀ i, sv (shedL l e o S) i = true → sv S i = true) ∧
    (∀ i, i < l.length → sv S i = true → sv (shedL l e o S) i = false → (∀ k, k < l.length → sv (shedL l e o S) k = true → bef l i k)) ∧
    (∀ i, i < l.length → sv S i = true → sv (shedL l e o S) i = false → (∀ k, k < l.length → sv S k = true → sv (shedL l e o S) k = false → k = i ∨ bef l k i) → e < sumS l (shedL l e o S) + dr l i)
  | [], S, _, _, h => by
    refine ⟨?_, fun i hi => hi, fun i hi hs => ?_, fun i hi hs => ?_⟩
    · rw [shedL, sumS, sumK_none]
      · exact he
      · intro i hi
        cases hs : sv S i with
        | false => rfl
        | true => cases h i hi hs
    · cases h i hi hs
    · cases h i hi hs
  | i :: r, S, hp, hr, h => by
    rw [shedL]
    have hp1 := (List.pairwise_cons.1 hp).1
    have hp2 := (List.pairwise_cons.1 hp).2
    split
    · rename_i hle
      exact ⟨hle, fun i hi => hi, fun j _ h1 h2 => (by rw [h1] at h2; cases h2), fun j _ h1 h2 => (by rw [h1] at h2; cases h2)⟩
    · rename_i hgt
      have hr' : ∀ j ∈ r, j < l.length := fun j hj => hr j (by simp [hj])
      have h' : ∀ j, j < l.length → sv (S.set i false) j = true → j ∈ r := fun j hj hsj => by
        rw [sv_set] at hsj
        split at hsj
        · cases hsj
        · rename_i hne
          rcases List.mem_cons.1 (h j hj hsj) with e | e
          · exact absurd e hne
          · exact e
      obtain ⟨f1, f2, f3, f4⟩ := shed_facts hd he r (S.set i false) hp2 hr' h'
      have hil := hr i (by simp)
      obtain ⟨T, hT⟩ : ∃ T, T = shedL l e r (S.set i false) := ⟨_, rfl⟩
      rw [← hT] at f1 f2 f3 f4 ⊢
      have fi : sv T i = false := by
        cases hs : sv T i with
        | false => rfl
        | true => have := f2 i hs; rw [sv_set, if_pos rfl] at this; cases this
      refine ⟨f1, fun j hj => ?_, fun j hj hsj htj k hk htk => ?_, fun j hj hsj htj hlast => ?_⟩
      · have := f2 j hj
        rw [sv_set] at this
        split at this
        · cases this
        · exact this
      · by_cases e : j = i
        · subst e
          exact hp1 k (h' k hk (f2 k htk))
        · exact f3 j hj (by rw [sv_set, if_neg e]; exact hsj) htj k hk htk
      · by_cases e : j = i
        · subst e
          -- the last one that was shed is the first of the order: nothing else was shed
          have hsum : sumS l S = sumS l T + dr l j := by
            rw [← Int.sub_eq_iff_eq_add, ← sumS_set l S j hil hsj]
            refine sumK_congr _ fun k hk => ?_
            cases hk1 : sv (S.set j false) k with
            | false =>
              cases hk2 : sv T k with
              | false => rfl
              | true => rw [f2 k hk2] at hk1; cases hk1
            | true =>
              cases hk2 : sv T k with
              | true => rfl
              | false =>
                exfalso
                have hkr := h' k hk hk1
                have hb := hp1 k hkr
                have hne : k ≠ j := fun e => by subst e; exact bef_irrefl l k hb
                rw [sv_set, if_neg hne] at hk1
                rcases hlast k hk hk1 hk2 with e | e
                · exact hne e
                · exact bef_irrefl l j (bef_trans hb e)
          omega
        · refine f4 j hj (by rw [sv_set, if_neg e]; exact hsj) htj fun k hk hsk htk => ?_
          rw [sv_set] at hsk
          split at hsk
          · cases hsk
          · exact hlast k hk hsk htk
end Go.Proofs.Ytbdobcmblbojfaa
