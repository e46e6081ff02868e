/-
  Both ways of power.Step in one contract. Conditions: none beyond a slice of loads.
-/
import Derived.Test.YtbdobcmblbojfaaShn
namespace Go.Proofs.Ytbdobcmblbojfaa
open Go.RowKit Kit Go.Shelf
set_option linter.unusedVariables false
/-- What a good step leaves behind: the loads served, what they draw, what is spilled. -/
structure Good (c f m u s made : Int) (l : List Ld) (o : List Nat) (S : List Bool) (U P : Int) : Prop where
  ok : okC c f m u s l = true
  m0 : 0 ≤ made
  m1 : made ≤ 1073741824
  ord : Ord l o
  sh : S = shedL l (c + made) o (onL l)
  us : U = sumS l S
  sp : P = mx 0 (c + made - U - f)
theorem Good.len {c f m u s made : Int} {l : List Ld} {o : List Nat} {S : List Bool} {U P : Int} (h : Good c f m u s made l o S U P) : S.length = l.length := by rw [h.sh, shedL_len, onL_len]
/-- The sums that a step leaves are too great. -/
def tooBig (m u s made U P : Int) : Bool := decide (1152921504606846976 < mx (mx (m + made) (u + U)) (s + P))
def StepAll (c f m u s made : Int) (l : List Ld) (n : Nat) (w : World) (e : Ending) (w' : World) : Prop :=
  Below w.heap.size w w' ∧
  ((okS c f m u s made l = false ∧ e = .returned (.tuple #[batV 0 0 0 0 0, .slice none 0 0, .int .i64 2])) ∨
   (∃ o S U P, Good c f m u s made l o S U P ∧
     ((tooBig m u s made U P = true ∧ e = .returned (.tuple #[batV 0 0 0 0 0, .slice none 0 0, .int .i64 7])) ∨
      (tooBig m u s made U P = false ∧ ∃ a' c', e = .returned (.tuple #[batV (c + made - U - P) f (m + made) (u + U) (s + P), .slice a' n c', .int .i64 0]) ∧ Bls w' a' n c' S))))
theorem step_any (c f m u s made : Int) (l : List Ld) (a : Option Addr) (n cp : Nat) (w : World) (hL : Lds w a n cp l) (hn : n ≤ 1000000) :
    Calls Try.prog 11 #[batV c f m u s, .int .i64 made, .slice a n cp] w fun e w' => StepAll c f m u s made l n w e w' := by
  cases hok : okS c f m u s made l with
  | false => exact (step_bad c f m u s made l a n cp w hL hn hok).mono fun e w' h => ⟨h.2, .inl ⟨hok, h.1⟩⟩
  | true =>
    obtain ⟨h1, h2, h3⟩ := okS_parts hok
    refine (step_good c f m u s made l a n cp w hL h1 h2 h3).mono ?_
    rintro e w' ⟨o, S, U, P, ho, hS, hU, hP, hb, h⟩
    refine ⟨hb, .inr ⟨o, S, U, P, ⟨h1, h2, h3, ho, hS, hU, hP⟩, ?_⟩⟩
    rcases h with ⟨h4, h5⟩ | ⟨h4, v, h5, h6⟩
    · exact .inl ⟨decide_eq_true h4, h5⟩
    · obtain ⟨a', c', rfl, hbv⟩ := own_bls h6
      exact .inr ⟨decide_eq_false h4, a', c', h5, hbv⟩
/-- What is known of a good step. -/
theorem Good.facts {c f m u s made : Int} {l : List Ld} {o : List Nat} {S : List Bool} {U P : Int} (h : Good c f m u s made l o S U P) :
    0 ≤ U ∧ U ≤ 17179869184 ∧ U ≤ c + made ∧ 0 ≤ P ∧ 0 ≤ c + made - U - P ∧ c + made - U - P ≤ f := by
  obtain ⟨k1, k2, k3, k4, k5, k6, k7, k8, hd⟩ := okC_parts h.ok
  have hm := h.m0
  have hb := sumK_bound hd S l.length
  have hU := h.us
  have f1 := (shed_facts hd (show 0 ≤ c + made by omega) o (onL l) h.ord.sorted (fun i hi => (h.ord.mem i).1 hi) (fun i hi _ => (h.ord.mem i).2 hi)).1
  rw [← h.sh, ← hU] at f1
  have hb2 : 0 ≤ U ∧ U ≤ 17179869184 := by rw [hU]; unfold sumS; omega
  have hP := h.sp
  unfold mx at hP
  omega
/-- If all loads that are on can be served, all of them are. -/
theorem Good.all {c f m u s made : Int} {l : List Ld} {o : List Nat} {S : List Bool} {U P : Int} (h : Good c f m u s made l o S U P) (hle : sumS l (onL l) ≤ c + made) : S = onL l := by
  rw [h.sh, shed_done hle]
/-- The battery stays valid. -/
theorem Good.next {c f m u s made : Int} {l : List Ld} {o : List Nat} {S : List Bool} {U P : Int} (h : Good c f m u s made l o S U P) (hb : tooBig m u s made U P = false) : okC (c + made - U - P) f (m + made) (u + U) (s + P) l = true := by
  obtain ⟨k1, k2, k3, k4, k5, k6, k7, k8, hd⟩ := okC_parts h.ok
  obtain ⟨f1, f2, f3, f4, f5, f6⟩ := h.facts
  have hm := h.m0
  unfold tooBig mx at hb
  have hb' := of_decide_eq_false hb
  unfold okC
  simp only [Bool.and_eq_true, Bool.not_eq_true', decide_eq_false_iff_not, decide_eq_true_eq]
  refine ⟨⟨⟨⟨⟨⟨⟨inR_of (by omega) (by omega), inR_of (by omega) (by omega)⟩, inR_of (by omega) (by omega)⟩, by omega⟩, inR_of (by omega) (by omega)⟩, inR_of (by omega) (by omega)⟩, by omega⟩, hd⟩
/-- A box with a battery. -/
structure BX (w : World) (B : Nat) (x0 x1 x2 x3 x4 : Int) (W : World) : Prop where
  bt : W.heap[B]? = some (.cells #[.int .i64 x0, .int .i64 x1, .int .i64 x2, .int .i64 x3, .int .i64 x4] 23 (0, 0))
  bl : Below w.heap.size w W
theorem BX.step {w W W' : World} {B : Nat} {x0 x1 x2 x3 x4 : Int} (h : BX w B x0 x1 x2 x3 x4 W) (hb : Below W.heap.size W W') : BX w B x0 x1 x2 x3 x4 W' :=
  ⟨below_keeps hb h.bt (lt_of_obj h.bt), bl_step h.bl hb⟩
theorem BX.cells {w W : World} {B : Nat} {x0 x1 x2 x3 x4 : Int} (h : BX w B x0 x1 x2 x3 x4 W) :
    W.cell? ⟨B, 0, none⟩ = some (.int .i64 x0) ∧ W.cell? ⟨B, 1, none⟩ = some (.int .i64 x1) ∧ W.cell? ⟨B, 2, none⟩ = some (.int .i64 x2) ∧ W.cell? ⟨B, 3, none⟩ = some (.int .i64 x3) ∧ W.cell? ⟨B, 4, none⟩ = some (.int .i64 x4) ∧ B < W.heap.size ∧ ∀ i, W.frozen? ⟨B, i, none⟩ = false :=
  ⟨cell_of (i := 0) h.bt rfl, cell_of (i := 1) h.bt rfl, cell_of (i := 2) h.bt rfl, cell_of (i := 3) h.bt rfl, cell_of (i := 4) h.bt rfl, lt_of_obj h.bt, fun i => free_of h.bt⟩
theorem BX.set {w W : World} {B : Nat} {x0 x1 x2 x3 x4 : Int} (h : BX w B x0 x1 x2 x3 x4 W) (hB : w.heap.size ≤ B) (y0 y1 y2 y3 y4 : Int) :
    BX w B y0 y1 y2 y3 y4 (((((W.setCell ⟨B, 0, none⟩ (.int .i64 y0)).setCell ⟨B, 1, none⟩ (.int .i64 y1)).setCell ⟨B, 2, none⟩ (.int .i64 y2)).setCell ⟨B, 3, none⟩ (.int .i64 y3)).setCell ⟨B, 4, none⟩ (.int .i64 y4)) :=
  ⟨set5_hp h.bt _ _ _ _ _, set5_below h.bl hB _ _ _ _ _⟩
theorem BX.new {w W : World} (h : Below w.heap.size w W) (x0 x1 x2 x3 x4 : Int) : BX w W.heap.size x0 x1 x2 x3 x4 (W.alloc (.cells #[.int .i64 x0, .int .i64 x1, .int .i64 x2, .int .i64 x3, .int .i64 x4] 23)) :=
  ⟨hp_new _ _, bl_alloc h _⟩
theorem cov_sum {l : List Ld} {S : List Bool} (hd : okD l) : ∀ k, (∀ i, i < k → isOn l i = true → sv S i = true) → sumK l (onL l) k ≤ sumK l S k
  | 0, _ => Int.le_refl _
  | k + 1, h => by
    have h1 := cov_sum hd k (fun i hi => h i (by omega))
    have h2 := hd.at k
    rw [sumK, sumK, sv_onL]
    cases ho : isOn l k with
    | true => rw [h k (by omega) ho]; simp only [if_true]; omega
    | false => simp only [Bool.false_eq_true, if_false]; split <;> omega
/-- All of the first k loads that are on are served. -/
def allK (l : List Ld) (S : List Bool) : Nat → Bool
  | 0 => true
  | k + 1 => allK l S k && (sv S k || !isOn l k)
theorem allK_iff (l : List Ld) (S : List Bool) : ∀ k, allK l S k = true ↔ ∀ i, i < k → isOn l i = true → sv S i = true
  | 0 => by simp [allK]
  | k + 1 => by
    rw [allK, Bool.and_eq_true, allK_iff l S k, Bool.or_eq_true, Bool.not_eq_true']
    constructor
    · rintro ⟨h1, h2⟩ i hi ho
      rcases Nat.lt_succ_iff_lt_or_eq.1 hi with h | rfl
      · exact h1 i h ho
      · rcases h2 with h | h
        · exact h
        · rw [ho] at h; cases h
    · intro h
      refine ⟨fun i hi => h i (by omega), ?_⟩
      cases ho : isOn l k with
      | true => exact .inl (h k (by omega) ho)
      | false => exact .inr rfl
theorem Good.lives {c f m u s : Int} {l : List Ld} {o : List Nat} {S : List Bool} {U P : Int} (h : Good c f m u s 0 l o S U P) :
    (sumS l (onL l) ≤ c → U = sumS l (onL l) ∧ P = 0 ∧ allK l S l.length = true) ∧ (c < sumS l (onL l) → allK l S l.length = false) := by
  obtain ⟨k1, k2, k3, k4, k5, k6, k7, k8, hd⟩ := okC_parts h.ok
  obtain ⟨f1, f2, f3, f4, f5, f6⟩ := h.facts
  refine ⟨fun hle => ?_, fun hlt => ?_⟩
  · have hS := h.all (by omega)
    have hU : U = sumS l (onL l) := by rw [h.us, hS]
    refine ⟨hU, ?_, ?_⟩
    · have hP := h.sp
      unfold mx at hP
      omega
    · rw [allK_iff, hS]
      intro i _ ho
      rw [sv_onL]; exact ho
  · cases ha : allK l S l.length with
    | false => rfl
    | true =>
      have := cov_sum (S := S) hd l.length ((allK_iff l S l.length).1 ha)
      have hU := h.us
      unfold sumS at hU hlt
      omega
end Go.Proofs.Ytbdobcmblbojfaa
