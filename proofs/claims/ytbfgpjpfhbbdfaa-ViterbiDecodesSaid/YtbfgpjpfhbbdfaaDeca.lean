/-
  What Decode's walk leans on: memory, and plain steps. Conditions: those that each names.
-/
import Derived.Test.YtbfgpjpfhbbdfaaDecErr
import Derived.Test.YtbfgpjpfhbbdfaaPlain
import Derived.Test.YtbfgpjpfhbbdfaaRanked
import Derived.BigRegion
import Derived.Deep.LoopGhost
namespace Go.Proofs.Ytbfgpjpfhbbdfaa
open Go.RowKit Kit
set_option linter.unusedVariables false
theorem zero58 (w : World) : Sem.run Try.prog (zeroValue 58) w = .ok (.agg (afn 128 (fun _ => 0))) w := by kernel_rfl
theorem inf61 : (Try.prog.info? 61).map (fun i => (i.zero, i.size, i.bytes)) = some (some (.agg (afn 64 fun _ => 0)), 64, 512) := by kernel_rfl
/-- Survivors' cells. -/
def svC (A : Nat → Int) (R : Nat → Nat) (i : Nat) : Int := if i % 2 = 0 then A (i / 2) else (R (i / 2) : Int)
/-- The rows of the ways in new memory. -/
theorem make59 (w : World) (N : Nat) (h : N ≤ 10000) : (Instr.makeSlice 59 (.int .i64 N) (.int .i64 N)).run Try.prog w = .ok (.slice (some ⟨w.heap.size, 0, none⟩) N N) (w.alloc (.cells (afn (64 * N) fun _ => 0) 61)) := by
  obtain ⟨i, hi, hz0, hz1, hz2⟩ := info_parts inf61
  have := run_make (P := Try.prog) w 59 61 i _ Try.underlying59 hi hz0 .i64 .i64 N N (by omega) (by omega) (by rw [hz2]; omega) (by omega)
  rw [this]
  have e : madeCells (Value.agg (afn 64 fun _ => 0)).cells ((N : Int).toNat * i.size) = afn (64 * N) fun _ => 0 := by
    rw [hz1]
    apply Array.ext_getElem?
    intro j
    rcases Nat.lt_or_ge j (64 * N) with hj | hj
    · rw [afn_get _ _ _ hj]
      unfold madeCells
      have : j < (N : Int).toNat * 64 := by omega
      have e2 : (afn 64 fun _ => 0)[j % 64]! = Value.int .i64 0 := by
        rw [getElem!_pos _ _ (by rw [afn_size]; omega)]
        simp [afn]
      simp only [Value.cells, afn_size, Array.getElem?_map, Option.map_eq_some_iff]
      exact ⟨j, by rw [Array.getElem?_eq_getElem (by simpa using this)]; simp, e2⟩
    · rw [afn_none _ _ _ hj]
      exact Array.getElem?_eq_none (by simp [madeCells]; omega)
  rw [e]
  simp
theorem ecell_val (k i u j c : Nat) (h6 : i / 6 = u) (h3 : i / 3 % 2 = j) (hc : i % 3 = c) (hl : 2 * (2 * (u % 32) + j) + u / 32 < k) :
    ecell k i = if c = 0 then ((2 * (u % 32) + j : Nat) : Int) else if c = 1 then ((o1 (2 * (u % 32) + j) (u / 32) : Nat) : Int) else ((o2 (2 * (u % 32) + j) (u / 32) : Nat) : Int) := by
  subst h6 h3 hc; unfold ecell; rw [if_pos hl]
theorem ecell_at (t p0 p1 : Nat) (ht : t < 64) (h0 : p0 = 2 * (t % 32)) (h1 : p1 = 2 * (t % 32) + 1) : ecell 128 (t * 6) = (p0 : Int) ∧ ecell 128 (t * 6 + 1) = ((o1 p0 (t / 32) : Nat) : Int) ∧ ecell 128 (t * 6 + 2) = ((o2 p0 (t / 32) : Nat) : Int) ∧
    ecell 128 (t * 6 + 3) = (p1 : Int) ∧ ecell 128 (t * 6 + 4) = ((o1 p1 (t / 32) : Nat) : Int) ∧ ecell 128 (t * 6 + 5) = ((o2 p1 (t / 32) : Nat) : Int) := by
  subst h0 h1
  have e0 : 2 * (2 * (t % 32) + 0) + t / 32 < 128 := by omega
  have e1 : 2 * (2 * (t % 32) + 1) + t / 32 < 128 := by omega
  generalize 128 = q at *
  exact ⟨(ecell_val q _ t 0 0 (by omega) (by omega) (by omega) e0).trans (if_pos rfl), ((ecell_val q _ t 0 1 (by omega) (by omega) (by omega) e0).trans (if_neg (by decide))).trans (if_pos rfl), ((ecell_val q _ t 0 2 (by omega) (by omega) (by omega) e0).trans (if_neg (by decide))).trans (if_neg (by decide)),
    (ecell_val q _ t 1 0 (by omega) (by omega) (by omega) e1).trans (if_pos rfl), ((ecell_val q _ t 1 1 (by omega) (by omega) (by omega) e1).trans (if_neg (by decide))).trans (if_pos rfl), ((ecell_val q _ t 1 2 (by omega) (by omega) (by omega) e1).trans (if_neg (by decide))).trans (if_neg (by decide))⟩
/-- What lies in memory. -/
structure Mem (w0 : World) (E : Nat) (N : Nat) (was now wy : Nat → Int) (wr : World) : Prop where
  hE : wr.heap[E]? = some (.cells (afn 384 (ecell 128)) 52)
  hW : wr.heap[E + 1]? = some (.cells (afn 128 was) 58)
  hN : wr.heap[E + 1 + 1]? = some (.cells (afn 128 now) 58)
  hY : wr.heap[E + 1 + 1 + 1]? = some (.cells (afn (64 * N) wy) 61)
  below : Below w0.heap.size w0 wr
  ge : w0.heap.size ≤ E
theorem Mem.alloc {w0 wr : World} {E N : Nat} {was now wy : Nat → Int} (h : Mem w0 E N was now wy wr) (o : Obj) : Mem w0 E N was now wy (wr.alloc o) := ⟨hp_old h.hE _, hp_old h.hW _, hp_old h.hN _, hp_old h.hY _, bl_alloc h.below _, h.ge⟩
theorem Mem.drewN {w0 wr : World} {E N : Nat} {was now wy : Nat → Int} (h : Mem w0 E N was now wy wr) (q : Nat) : Mem w0 E N was now wy (wr.drewN q) := ⟨h.hE, h.hW, h.hN, h.hY, below_drewN h.below q, h.ge⟩
theorem Mem.set {w0 wr : World} {E N : Nat} {was now wy : Nat → Int} (h : Mem w0 E N was now wy wr) (b i : Nat) (hb : E + 1 + 1 + 1 < b) (v : Value) : Mem w0 E N was now wy (wr.setCell ⟨b, i, none⟩ v) :=
  ⟨hp_set_ne h.hE (by omega) _, hp_set_ne h.hW (by omega) _, hp_set_ne h.hN (by omega) _, hp_set_ne h.hY (by omega) _, bl_set h.below (by have := h.ge; omega) _, h.ge⟩
theorem Mem.setN {w0 wr : World} {E N : Nat} {was now wy : Nat → Int} (h : Mem w0 E N was now wy wr) (i : Nat) (v : Int) : Mem w0 E N was (fun j => if j = i then v else now j) wy (wr.setCell ⟨E + 1 + 1, i, none⟩ (.int .i64 v)) :=
  ⟨hp_set_ne h.hE (by omega) _, hp_set_ne h.hW (by omega) _, by rw [hp_set h.hN, afn_set], hp_set_ne h.hY (by omega) _, bl_set h.below (by have := h.ge; omega) _, h.ge⟩
theorem Mem.setY {w0 wr : World} {E N : Nat} {was now wy : Nat → Int} (h : Mem w0 E N was now wy wr) (i : Nat) (v : Int) : Mem w0 E N was now (fun j => if j = i then v else wy j) (wr.setCell ⟨E + 1 + 1 + 1, i, none⟩ (.int .i64 v)) :=
  ⟨hp_set_ne h.hE (by omega) _, hp_set_ne h.hW (by omega) _, hp_set_ne h.hN (by omega) _, by rw [hp_set h.hY, afn_set], bl_set h.below (by have := h.ge; omega) _, h.ge⟩
theorem Mem.step {w0 wr wr' : World} {E N : Nat} {was now wy : Nat → Int} (h : Mem w0 E N was now wy wr) (hb : Below wr.heap.size wr wr') : Mem w0 E N was now wy wr' :=
  ⟨below_keeps hb h.hE (lt_of_obj h.hE), below_keeps hb h.hW (lt_of_obj h.hW), below_keeps hb h.hN (lt_of_obj h.hN), below_keeps hb h.hY (lt_of_obj h.hY), below_step h.below hb h.below.size, h.ge⟩
theorem Mem.congrN {w0 wr : World} {E N : Nat} {was now now' wy : Nat → Int} (h : Mem w0 E N was now wy wr) (e : ∀ j, j < 128 → now j = now' j) : Mem w0 E N was now' wy wr := ⟨h.hE, h.hW, by rw [← afn_congr e]; exact h.hN, h.hY, h.below, h.ge⟩
theorem Mem.congrY {w0 wr : World} {E N : Nat} {was now wy wy' : Nat → Int} (h : Mem w0 E N was now wy wr) (e : ∀ j, j < 64 * N → wy j = wy' j) : Mem w0 E N was now wy' wr := ⟨h.hE, h.hW, h.hN, by rw [← afn_congr e]; exact h.hY, h.below, h.ge⟩
theorem Mem.cell {w0 wr : World} {E N : Nat} {was now wy : Nat → Int} (h : Mem w0 E N was now wy wr) :
    (∀ i, i < 384 → wr.cell? ⟨E, i, none⟩ = some (.int .i64 (ecell 128 i))) ∧ (∀ i, i < 128 → wr.cell? ⟨E + 1, i, none⟩ = some (.int .i64 (was i))) ∧ (∀ i, i < 128 → wr.cell? ⟨E + 1 + 1, i, none⟩ = some (.int .i64 (now i))) ∧ (∀ i, i < 64 * N → wr.cell? ⟨E + 1 + 1 + 1, i, none⟩ = some (.int .i64 (wy i))) :=
  ⟨fun i hi => cell_of h.hE (afn_get _ _ _ hi), fun i hi => cell_of h.hW (afn_get _ _ _ hi), fun i hi => cell_of h.hN (afn_get _ _ _ hi), fun i hi => cell_of h.hY (afn_get _ _ _ hi)⟩
/-- Where the ways that were taken lead back. -/
def TBack (X : List Int) (T : Nat) (wy : Nat → Int) (m : Nat) : Prop :=
  ∀ j, j < m → ∀ t, t < 64 → ∃ p : Nat, wy (j * 64 + t) = p ∧ p < 64 ∧ ∀ c, P X T (j + 1) t = some c → ∃ d, P X T j p = some d ∧ ¬ (T ≤ j ∧ 32 ≤ t) ∧ c.2 = 2 * d.2 + t / 32
/-- The new survivors, as far as they have been found. -/
def nwF (X : List Int) (T i : Nat) (A : Nat → Int) (R : Nat → Nat) (nw : Nat → Int) (t q : Nat) : Int := if q / 2 < t then svC (fun t => yS X T i A t (frm X T i A R t)) (fun t => R (frm X T i A R t)) q else nw q
/-- The row of the ways, as far as it has been found. -/
def wyF (X : List Int) (T i : Nat) (A : Nat → Int) (R : Nat → Nat) (wy : Nat → Int) (t q : Nat) : Int := if i * 64 ≤ q ∧ q < i * 64 + t then ((frm X T i A R (q - i * 64) : Nat) : Int) else wy q
/-- The better one of the ways that have been looked at. -/
def bstJ (X : List Int) (T i : Nat) (A : Nat → Int) (R : Nat → Nat) (t : Nat) : Nat → Int × Int
  | 0 => (2 * lst, 0)
  | 1 => (yS X T i A t (2 * (t % 32)), (R (2 * (t % 32)) : Nat))
  | _ => (yS X T i A t (frm X T i A R t), (R (frm X T i A R t) : Nat))
def wyJ (X : List Int) (T i : Nat) (A : Nat → Int) (R : Nat → Nat) (wy : Nat → Int) (t : Nat) (j q : Nat) : Int :=
  if q = i * 64 + t ∧ 0 < j then (if j = 1 then ((2 * (t % 32) : Nat) : Int) else ((frm X T i A R t : Nat) : Int)) else wyF X T i A R wy t q
theorem index51 (w : World) (a b c d e f : Value) : (Instr.index 51 (.agg #[a, b, c, d, e, f]) (.int .i64 0)).run Try.prog w = .ok (.agg #[a, b, c]) w ∧ (Instr.index 51 (.agg #[a, b, c, d, e, f]) (.int .i64 1)).run Try.prog w = .ok (.agg #[d, e, f]) w := by
  constructor
  · simp [Instr.index, run_underlying Try.underlying51, asIntOf, part, go_sem, Try.isAgg50, Try.sizeOf50]
  · simp [Instr.index, run_underlying Try.underlying51, asIntOf, part, go_sem, Try.isAgg50, Try.sizeOf50]
theorem svC_at {A : Nat → Int} {R : Nat → Nat} {p : Nat} : svC A R (p * 2) = A p ∧ svC A R (p * 2 + 1) = (R p : Int) := by
  unfold svC
  rw [if_pos (by omega), if_neg (by omega), show p * 2 / 2 = p by omega, show (p * 2 + 1) / 2 = p by omega]
  exact ⟨rfl, rfl⟩
theorem tail3 (T m t : Nat) : (T ≤ m ∧ 32 ≤ t) ∨ (T ≤ m ∧ t < 32) ∨ m < T := by omega
theorem wsum (v0 v1 : Int) (f g : Nat) (hf : f < 2) (hg : g < 2) (h0 : -8 ≤ v0 ∧ v0 ≤ 7) (h1 : -8 ≤ v1 ∧ v1 ≤ 7) : -16 ≤ (f : Int) * v0 + (g : Int) * v1 ∧ (f : Int) * v0 + (g : Int) * v1 ≤ 16 := by
  have hf' : f = 0 ∨ f = 1 := by omega
  have hg' : g = 0 ∨ g = 1 := by omega
  rcases hf' with rfl | rfl <;> rcases hg' with rfl | rfl <;> simp <;> omega
theorem wraps (s v0 v1 : Int) (f g m : Nat) (hm : m ≤ 9000) (hf : f < 2) (hg : g < 2) (h0 : -8 ≤ v0 ∧ v0 ≤ 7) (h1 : -8 ≤ v1 ∧ v1 ≤ 7) (h2 : -1099511627776 - 16 * (m : Int) ≤ s) (h3 : s ≤ 16 * (m : Int)) :
    IntKind.i64.wrap ((f : Int) * v0) = (f : Int) * v0 ∧ IntKind.i64.wrap ((g : Int) * v1) = (g : Int) * v1 ∧ IntKind.i64.wrap ((f : Int) * v0 + (g : Int) * v1) = (f : Int) * v0 + (g : Int) * v1 ∧ IntKind.i64.wrap (s + ((f : Int) * v0 + (g : Int) * v1)) = s + ((f : Int) * v0 + (g : Int) * v1) := by
  have hf' : f = 0 ∨ f = 1 := by omega
  have hg' : g = 0 ∨ g = 1 := by omega
  rcases hf' with rfl | rfl <;> rcases hg' with rfl | rfl <;> refine ⟨IntWalk.i64_in _ ?_, IntWalk.i64_in _ ?_, IntWalk.i64_in _ ?_, IntWalk.i64_in _ ?_⟩ <;> omega
theorem take_it {w0 wr : World} {E N : Nat} {was now wy : Nat → Int} {Bb : Nat} {bs br : Int} (M : Mem w0 E N was now wy wr) (hB : wr.heap[Bb]? = some (.cells #[.int .i64 bs, .int .i64 br] 57)) (hE : E + 1 + 1 + 1 < Bb) (ys r : Int) (q : Nat) (p : Int) :
    (((wr.setCell ⟨Bb, 0, none⟩ (.int .i64 ys)).setCell ⟨Bb, 1, none⟩ (.int .i64 r)).setCell ⟨E + 1 + 1 + 1, q, none⟩ (.int .i64 p)).drew.heap[Bb]? = some (.cells #[.int .i64 ys, .int .i64 r] 57) ∧
    Mem w0 E N was now (fun x => if x = q then p else wy x) (((wr.setCell ⟨Bb, 0, none⟩ (.int .i64 ys)).setCell ⟨Bb, 1, none⟩ (.int .i64 r)).setCell ⟨E + 1 + 1 + 1, q, none⟩ (.int .i64 p)).drew := by
  refine ⟨hp_drew (hp_set_ne ?_ (by omega) _), (((M.set Bb 0 hE _).set Bb 1 hE _).setY q p).drewN 1⟩
  have := hp_set (i := 1) (hp_set (i := 0) hB (.int .i64 ys)) (.int .i64 r)
  simpa using this
theorem wyJ_one (X : List Int) (T i : Nat) (A : Nat → Int) (R : Nat → Nat) (wy : Nat → Int) (t p0 q : Nat) (h : p0 = 2 * (t % 32)) : (if q = i * 64 + t then (p0 : Int) else wyJ X T i A R wy t 0 q) = wyJ X T i A R wy t 1 q := by
  subst h
  unfold wyJ
  by_cases e : q = i * 64 + t
  · rw [if_pos e, if_pos ⟨e, by omega⟩, if_pos rfl]
  · rw [if_neg e, if_neg (fun h => e h.1), if_neg (fun h => e h.1)]
theorem wyJ_two (X : List Int) (T i : Nat) (A : Nat → Int) (R : Nat → Nat) (wy : Nat → Int) (t p1 q : Nat) (h : p1 = frm X T i A R t) : (if q = i * 64 + t then (p1 : Int) else wyJ X T i A R wy t 1 q) = wyJ X T i A R wy t 2 q := by
  subst h
  unfold wyJ
  by_cases e : q = i * 64 + t
  · rw [if_pos e, if_pos ⟨e, by omega⟩, if_neg (by omega)]
  · rw [if_neg e, if_neg (fun h => e h.1), if_neg (fun h => e h.1)]
theorem wyJ_stay (X : List Int) (T i : Nat) (A : Nat → Int) (R : Nat → Nat) (wy : Nat → Int) (t q : Nat) (h : 2 * (t % 32) = frm X T i A R t) : wyJ X T i A R wy t 1 q = wyJ X T i A R wy t 2 q := by
  unfold wyJ
  by_cases e : q = i * 64 + t
  · rw [if_pos ⟨e, by omega⟩, if_pos rfl, if_pos ⟨e, by omega⟩, if_neg (by omega), h]
  · rw [if_neg (fun h => e h.1), if_neg (fun h => e h.1)]
theorem frm_yes {X : List Int} {T i : Nat} {A : Nat → Int} {R : Nat → Nat} {t p0 p1 : Nat} {s0 s1 : Int} (h0 : p0 = 2 * (t % 32)) (h1 : p1 = 2 * (t % 32) + 1) (e0 : s0 = yS X T i A t p0) (e1 : s1 = yS X T i A t p1) (h : worse (s0, (R p0 : Int)) (s1, (R p1 : Int)) = true) : p1 = frm X T i A R t := by
  subst h0 h1 e0 e1
  unfold frm; rw [if_pos h]
theorem frm_no {X : List Int} {T i : Nat} {A : Nat → Int} {R : Nat → Nat} {t p0 p1 : Nat} {s0 s1 : Int} (h0 : p0 = 2 * (t % 32)) (h1 : p1 = 2 * (t % 32) + 1) (e0 : s0 = yS X T i A t p0) (e1 : s1 = yS X T i A t p1) (h : worse (s0, (R p0 : Int)) (s1, (R p1 : Int)) = false) : 2 * (t % 32) = frm X T i A R t := by
  subst h0 h1 e0 e1
  unfold frm; rw [if_neg (by rw [h]; simp)]
theorem bst_two (X : List Int) (T i : Nat) (A : Nat → Int) (R : Nat → Nat) (t p : Nat) (s : Int) (h : p = frm X T i A R t) (e : s = yS X T i A t p) : bstJ X T i A R t 2 = (s, (R p : Int)) := by
  subst h e; rfl
theorem bst_one (X : List Int) (T i : Nat) (A : Nat → Int) (R : Nat → Nat) (t p : Nat) (s : Int) (h : p = 2 * (t % 32)) (e : s = yS X T i A t p) : bstJ X T i A R t 1 = (s, (R p : Int)) := by
  subst h e; rfl
/-- Survivors as they are laid at the beginning. -/
def inC (s i : Nat) : Int := if i / 2 < s then (if i % 2 = 0 then lst else ((i / 2 : Nat) : Int)) else 0
def IN (w0 : World) (E s : Nat) (wr : World) : Prop :=
  wr.heap[E]? = some (.cells (afn 384 (ecell 128)) 52) ∧ wr.heap[E + 1]? = some (.cells (afn 128 (inC s)) 58) ∧ wr.heap[E + 1 + 1]? = some (.cells (afn 128 (fun _ => 0)) 58) ∧ wr.heap.size = E + 1 + 1 + 1 ∧ Below w0.heap.size w0 wr ∧ w0.heap.size ≤ E
theorem IN.set {w0 wr : World} {E s : Nat} (h : IN w0 E s wr) (hs : s < 64) : IN w0 E (s + 1) ((wr.setCell ⟨E + 1, s * 2, none⟩ (.int .i64 (-1099511627776))).setCell ⟨E + 1, s * 2 + 1, none⟩ (.int .i64 s)) := by
  obtain ⟨h1, h2, h3, h4, h5, h6⟩ := h
  refine ⟨hp_set_ne (hp_set_ne h1 (by omega) _) (by omega) _, ?_, hp_set_ne (hp_set_ne h3 (by omega) _) (by omega) _, by simpa [World.setCell] using h4, bl_set (bl_set h5 (by omega) _) (by omega) _, h6⟩
  have e : afn 128 (fun j => if j = s * 2 + 1 then (s : Int) else if j = s * 2 then -1099511627776 else inC s j) = afn 128 (inC (s + 1)) := afn_congr fun j hj => by
    unfold inC lst
    by_cases e1 : j = s * 2 + 1
    · rw [if_pos e1, if_pos (by omega), if_neg (by omega)]; omega
    · rw [if_neg e1]
      by_cases e2 : j = s * 2
      · rw [if_pos e2, if_pos (by omega), if_pos (by omega)]
      · rw [if_neg e2]
        by_cases e3 : j / 2 < s
        · rw [if_pos e3, if_pos (show j / 2 < s + 1 by omega)]
        · rw [if_neg e3, if_neg (show ¬ j / 2 < s + 1 by omega)]
  have := hp_set (i := s * 2 + 1) (hp_set (i := s * 2) h2 (.int .i64 (-1099511627776))) (.int .i64 (s : Int))
  rw [afn_set, afn_set, e] at this
  exact this
theorem IN.mem {w0 wr : World} {E : Nat} (h : IN w0 E 64 wr) (N : Nat) : Mem w0 E N (svC (fun s => if s = 0 then 0 else lst) (fun s => s)) (fun _ => 0) (fun _ => 0) ((wr.setCell ⟨E + 1, 0, none⟩ (.int .i64 0)).alloc (.cells (afn (64 * N) fun _ => 0) 61)) := by
  obtain ⟨h1, h2, h3, h4, h5, h6⟩ := h
  have hs : (wr.setCell ⟨E + 1, 0, none⟩ (.int .i64 0)).heap.size = E + 1 + 1 + 1 := by simpa [World.setCell] using h4
  refine ⟨hp_old (hp_set_ne h1 (by omega) _) _, hp_old ?_ _, hp_old (hp_set_ne h3 (by omega) _) _, by rw [← hs]; exact hp_new _ _, bl_alloc (bl_set h5 (by omega) _) _, h6⟩
  have e : afn 128 (fun j => if j = 0 then 0 else inC 64 j) = afn 128 (svC (fun s => if s = 0 then 0 else lst) (fun s => s)) := afn_congr fun j hj => by
    unfold inC svC
    by_cases e1 : j = 0
    · subst e1; simp
    · rw [if_neg e1, if_pos (by omega)]
      by_cases e2 : j % 2 = 0
      · rw [if_pos e2, if_pos e2]
        show lst = if j / 2 = 0 then 0 else lst
        rw [if_neg (by omega)]
      · rw [if_neg e2, if_neg e2]
  have := hp_set (i := 0) h2 (.int .i64 0)
  rw [afn_set, e] at this
  exact this
end Go.Proofs.Ytbfgpjpfhbbdfaa
