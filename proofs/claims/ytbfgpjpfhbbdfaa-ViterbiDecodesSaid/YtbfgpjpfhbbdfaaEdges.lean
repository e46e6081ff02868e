/-
  The walk of edges: the two steps that lead to each state. Conditions: none.
-/
import Derived.Test.YtbfgpjpfhbbdfaaTrellis
import Derived.Test.YtbfgpjpfhbbdfaaKitf
namespace Go.Proofs.Ytbfgpjpfhbbdfaa
open Go.RowKit Kit
set_option linter.unusedVariables false
/-- Cells with numbers. -/
def afn (n : Nat) (g : Nat → Int) : Array Value := Array.ofFn (n := n) fun i => .int .i64 (g i.val)
theorem afn_size (n : Nat) (g : Nat → Int) : (afn n g).size = n := by simp [afn]
theorem afn_get (n : Nat) (g : Nat → Int) (i : Nat) (h : i < n) : (afn n g)[i]? = some (.int .i64 (g i)) := by simp [afn, h]
theorem afn_none (n : Nat) (g : Nat → Int) (i : Nat) (h : n ≤ i) : (afn n g)[i]? = none := Array.getElem?_eq_none (by simp [afn_size]; omega)
theorem afn_congr {n : Nat} {g g' : Nat → Int} (h : ∀ j, j < n → g j = g' j) : afn n g = afn n g' := by
  apply Array.ext_getElem?
  intro i
  rcases Nat.lt_or_ge i n with hi | hi
  · rw [afn_get _ _ _ hi, afn_get _ _ _ hi, h i hi]
  · rw [afn_none _ _ _ hi, afn_none _ _ _ hi]
theorem afn_set (n : Nat) (g : Nat → Int) (i : Nat) (v : Int) : (afn n g).setIfInBounds i (.int .i64 v) = afn n (fun j => if j = i then v else g j) := by
  apply Array.ext_getElem?
  intro j
  rcases Nat.lt_or_ge j n with hj | hj
  · rw [Array.getElem?_setIfInBounds, afn_get _ _ _ hj, afn_size]
    by_cases e : i = j
    · subst e; rw [if_pos rfl, if_pos hj, afn_get _ _ _ hj, if_pos rfl]
    · rw [if_neg e, afn_get _ _ _ hj, if_neg (fun h => e h.symm)]
  · rw [afn_none _ _ _ hj, Array.getElem?_setIfInBounds, afn_size]
    by_cases e : i = j
    · subst e; rw [if_pos rfl, if_neg (by omega)]
    · rw [if_neg e, afn_none _ _ _ hj]
/-- The steps that have been written when k of the 128 have been looked at. -/
def ecell (k i : Nat) : Int :=
  if 2 * (2 * (i / 6 % 32) + i / 3 % 2) + i / 6 / 32 < k then
    (if i % 3 = 0 then ((2 * (i / 6 % 32) + i / 3 % 2 : Nat) : Int) else if i % 3 = 1 then ((o1 (2 * (i / 6 % 32) + i / 3 % 2) (i / 6 / 32) : Nat) : Int) else ((o2 (2 * (i / 6 % 32) + i / 3 % 2) (i / 6 / 32) : Nat) : Int))
  else 0
def ncell (k t : Nat) : Int := (if 4 * (t % 32) + t / 32 < k then 1 else 0) + (if 4 * (t % 32) + 2 + t / 32 < k then 1 else 0)
def ED (w : World) (k : Nat) (wr : World) : Prop := wr.heap[w.heap.size + 1]? = some (.cells (afn 384 (ecell k)) 52) ∧ wr.heap[w.heap.size + 1 + 1]? = some (.cells (afn 64 (ncell k)) 61) ∧ wr.heap[w.heap.size]? = some (.cells (afn 384 (ecell 0)) 52) ∧ Below w.heap.size w wr
theorem zero52 (w : World) : Sem.run Try.prog (zeroValue 52) w = .ok (.agg (afn 384 (ecell 0))) w := by kernel_rfl
theorem zero61 (w : World) : Sem.run Try.prog (zeroValue 61) w = .ok (.agg (afn 64 (ncell 0))) w := by kernel_rfl
theorem ecell_step (k s b x m : Nat) (hk : k < 128) (hs : s = k / 2) (hb : b = k % 2) (hx : x = nx s b) (hm : m = s % 2) :
    afn 384 (fun j => if j = x * 6 + m * 3 + 2 then ((o2 s b : Nat) : Int) else if j = x * 6 + m * 3 + 1 then ((o1 s b : Nat) : Int) else if j = x * 6 + m * 3 then (s : Int) else ecell k j) = afn 384 (ecell (k + 1)) := by
  refine afn_congr fun j hj => ?_
  have e : x = 32 * b + s / 2 := by rw [hx]; unfold nx; omega
  have hx32 : x / 32 = b := by omega
  have hxm : x % 32 = s / 2 := by omega
  have hcase : j / 3 = 2 * x + m ∨ j / 3 ≠ 2 * x + m := by omega
  rcases hcase with h | h
  · have h6 : j / 6 = x := by omega
    have h3 : j / 3 % 2 = m := by omega
    have hf : 2 * (s / 2) + m = s := by omega
    unfold ecell
    rw [h6, h3, hx32, hxm, hf]
    rw [if_neg (show ¬ 2 * s + b < k by omega), if_pos (show 2 * s + b < k + 1 by omega)]
    have hr : j % 3 = 0 ∨ j % 3 = 1 ∨ j % 3 = 2 := by omega
    rcases hr with hr | hr | hr
    · rw [if_neg (by omega), if_neg (by omega), if_pos (by omega), if_pos hr]
    · rw [if_neg (by omega), if_pos (by omega), if_neg (by omega), if_pos hr]
    · rw [if_pos (by omega), if_neg (by omega), if_neg (by omega)]
  · rw [if_neg (by omega), if_neg (by omega), if_neg (by omega)]
    unfold ecell
    have hne : 2 * (2 * (j / 6 % 32) + j / 3 % 2) + j / 6 / 32 ≠ k := by
      intro h0
      have g1 : j / 6 / 32 = b := by omega
      have g2 : 2 * (j / 6 % 32) + j / 3 % 2 = s := by omega
      have g3 : j / 6 % 32 = s / 2 := by omega
      have g4 : j / 3 % 2 = m := by omega
      have g5 : j / 6 = x := by omega
      exact h (by omega)
    generalize 2 * (2 * (j / 6 % 32) + j / 3 % 2) + j / 6 / 32 = q at *
    by_cases hl : q < k
    · rw [if_pos hl, if_pos (show q < k + 1 by omega)]
    · rw [if_neg hl, if_neg (show ¬ q < k + 1 by omega)]
theorem ncell_step (k s b x m : Nat) (hk : k < 128) (hs : s = k / 2) (hb : b = k % 2) (hx : x = nx s b) (hm : m = s % 2) :
    ncell k x = m ∧ afn 64 (fun j => if j = x then (m : Int) + 1 else ncell k j) = afn 64 (ncell (k + 1)) := by
  have e : x = 32 * b + s / 2 := by rw [hx]; unfold nx; omega
  have hx32 : x / 32 = b := by omega
  have hxm : x % 32 = s / 2 := by omega
  have key : ncell k x = m := by
    unfold ncell
    rw [hx32, hxm]
    have : m = 0 ∨ m = 1 := by omega
    rcases this with rfl | rfl
    · rw [if_neg (by omega), if_neg (by omega)]; rfl
    · rw [if_pos (by omega), if_neg (by omega)]; rfl
  refine ⟨key, afn_congr fun j hj => ?_⟩
  by_cases h : j = x
  · subst h
    rw [if_pos rfl]
    unfold ncell
    rw [hx32, hxm]
    have : m = 0 ∨ m = 1 := by omega
    rcases this with rfl | rfl
    · rw [if_pos (by omega), if_neg (by omega)]; rfl
    · rw [if_pos (by omega), if_pos (by omega)]; rfl
  · rw [if_neg h]
    unfold ncell
    have hne1 : 4 * (j % 32) + j / 32 ≠ k := by
      intro h0
      have g1 : j / 32 = b := by omega
      have g2 : 2 * (j % 32) = s := by omega
      exact h (by omega)
    have hne2 : 4 * (j % 32) + 2 + j / 32 ≠ k := by
      intro h0
      have g1 : j / 32 = b := by omega
      have g2 : 2 * (j % 32) + 1 = s := by omega
      exact h (by omega)
    generalize 4 * (j % 32) + j / 32 = q at *
    generalize 4 * (j % 32) + 2 + j / 32 = r at *
    by_cases hq : q < k <;> by_cases hr : r < k <;> simp [hq, hr, show q < k + 1 ↔ q < k by omega, show r < k + 1 ↔ r < k by omega]
theorem ED.step {w wr : World} {k : Nat} (h : ED w k wr) (s b x m : Nat) (hk : k < 128) (hs : s = k / 2) (hb : b = k % 2) (hx : x = nx s b) (hm : m = s % 2) :
    ED w (k + 1) ((((wr.setCell ⟨w.heap.size + 1, x * 6 + m * 3, none⟩ (.int .i64 s)).setCell ⟨w.heap.size + 1, x * 6 + m * 3 + 1, none⟩ (.int .i64 (o1 s b))).setCell ⟨w.heap.size + 1, x * 6 + m * 3 + 2, none⟩ (.int .i64 (o2 s b))).setCell ⟨w.heap.size + 1 + 1, x, none⟩ (.int .i64 ((m : Int) + 1))) := by
  obtain ⟨h1, h2, h3, h4⟩ := h
  refine ⟨?_, ?_, ?_, ?_⟩
  · have := hp_set (i := x * 6 + m * 3 + 2) (hp_set (i := x * 6 + m * 3 + 1) (hp_set (i := x * 6 + m * 3) h1 (.int .i64 (s : Int))) (.int .i64 (o1 s b : Int))) (.int .i64 (o2 s b : Int))
    rw [afn_set, afn_set, afn_set] at this
    rw [← ecell_step k s b x m hk hs hb hx hm]
    exact hp_set_ne this (by omega) _
  · have := hp_set (i := x) (hp_set_ne (hp_set_ne (hp_set_ne h2 (b' := w.heap.size + 1) (i := x * 6 + m * 3) (by omega) (.int .i64 (s : Int))) (b' := w.heap.size + 1) (i := x * 6 + m * 3 + 1) (by omega) (.int .i64 (o1 s b : Int))) (b' := w.heap.size + 1) (i := x * 6 + m * 3 + 2) (by omega) (.int .i64 (o2 s b : Int))) (.int .i64 ((m : Int) + 1))
    rw [afn_set, (ncell_step k s b x m hk hs hb hx hm).2] at this
    exact this
  · exact hp_set_ne (hp_set_ne (hp_set_ne (hp_set_ne h3 (by omega) _) (by omega) _) (by omega) _) (by omega) _
  · exact bl_set (bl_set (bl_set (bl_set h4 (by omega) _) (by omega) _) (by omega) _) (by omega) _
theorem ED.drewN {w wr : World} {k : Nat} (h : ED w k wr) (n : Nat) : ED w k (wr.drewN n) := ⟨h.1, h.2.1, h.2.2.1, below_drewN h.2.2.2 n⟩
theorem ED.drew {w wr : World} {k : Nat} (h : ED w k wr) : ED w k wr.drew := h.drewN 1
theorem step_at' (s b : Nat) (hs : s < 64) (hb : b < 2) (si bi : Int) (h1 : si = s) (h2 : bi = b) (w : World) (x y z : Nat) (hx : nx s b = x) (hy : o1 s b = y) (hz : o2 s b = z) :
    Calls Try.prog 37 #[.int .i64 si, .int .i64 bi] w fun e w' => e = .returned (.tuple #[.int .i64 x, .int .i64 y, .int .i64 z]) ∧ w = w' := by
  subst hx hy hz; exact step_at s b hs hb si bi h1 h2 w
set_option maxRecDepth 100000 in
set_option maxHeartbeats 1600000 in
theorem edges_any (w : World) :
    Calls Try.prog 25 #[] w fun e w' => e = .returned (.agg (afn 384 (ecell 128))) ∧ Below w.heap.size w w' := by
  have hz := zero52
  have hy := zero61
  go_enter Try.func25, Try.ntmps25
  go_wp2_with (fail)
  have H0 : Hid (ED w 0 (((w.alloc (.cells (afn 384 (ecell 0)) 52)).alloc (.cells (afn 384 (ecell 0)) 52)).alloc (.cells (afn 64 (ncell 0)) 61))) := Lib.hid ⟨hp_old (by have := hp_new (w.alloc (.cells (afn 384 (ecell 0)) 52)) (.cells (afn 384 (ecell 0)) 52); simpa using this) _, by have := hp_new ((w.alloc (.cells (afn 384 (ecell 0)) 52)).alloc (.cells (afn 384 (ecell 0)) 52)) (.cells (afn 64 (ncell 0)) 61); simpa using this, hp_old (hp_old (hp_new _ _) _) _, bl_alloc (bl_alloc (bl_alloc (Below.refl _ _) _) _) _⟩
  go_loopw [8] (fun i wr => ∃ s : Nat, s ≤ 64 ∧ i = .int .i64 s ∧ ED w (2 * s) wr) (fun i _ => 64 - (intOf i).toNat)
  case atStart => exact ⟨0, by omega, rfl, H0.out⟩
  case round =>
    clear H0
    obtain ⟨s, hs, rfl, hE⟩ := hrel
    have HE := Lib.hid hE
    have hg := hE.2.2.2.size
    clear hz hy hE
    by_cases hlt : s < 64
    · obtain ⟨wo, hwo⟩ : ∃ wo : World, wo = wr := ⟨_, rfl⟩
      subst hwo
      have ds : decide ((s : Int) < 64) = true := by simp; omega
      go_wp2_with (fail)
      go_loopw [11] (fun i wr => ∃ b : Nat, b ≤ 2 ∧ i = .int .i64 b ∧ ED w (2 * s + b) wr) (fun i _ => 2 - (intOf i).toNat)
      case atStart => exact ⟨0, by omega, rfl, HE.out⟩
      case round =>
        clear HE hg
        obtain ⟨b, hb, rfl, hE⟩ := hrel
        have HE := Lib.hid hE
        have hg := hE.2.2.2.size
        by_cases hlt2 : b < 2
        · obtain ⟨x, hx⟩ : ∃ x, x = nx s b := ⟨_, rfl⟩
          obtain ⟨m, hm⟩ : ∃ m, m = s % 2 := ⟨_, rfl⟩
          have hx64 : x < 64 := by rw [hx]; unfold nx; omega
          have hm2 : m < 2 := by omega
          obtain ⟨hn, _⟩ := ncell_step (2 * s + b) s b x m (by omega) (by omega) (by omega) hx hm
          have NX := Lib.hid (hE.step s b x m (by omega) (by omega) (by omega) hx hm)
          have c0 : wr.cell? ⟨w.heap.size + 1 + 1, x, none⟩ = some (.int .i64 (m : Int)) := by rw [← hn]; exact cell_of hE.2.1 (afn_get _ _ _ hx64)
          have f0 := fun i => free_of (i := i) hE.2.1
          have f1 := fun i => free_of (i := i) hE.1
          have C : ∀ i, i < 384 → wr.cell? ⟨w.heap.size + 1, i, none⟩ = some (.int .i64 (ecell (2 * s + b) i)) := fun i hi => cell_of hE.1 (afn_get _ _ _ hi)
          have d0 := C (x * 6 + m * 3) (by omega)
          have d1 := C (x * 6 + m * 3 + 1) (by omega)
          have d2 := C (x * 6 + m * 3 + 2) (by omega)
          generalize ecell (2 * s + b) (x * 6 + m * 3) = v0 at d0
          generalize ecell (2 * s + b) (x * 6 + m * 3 + 1) = v1 at d1
          generalize ecell (2 * s + b) (x * 6 + m * 3 + 2) = v2 at d2
          have HX := Lib.hid hx
          clear hE C hx hm hn
          go_wp2_with (fail)
          refine (step_at' s b hlt hlt2 _ _ rfl rfl _ x _ _ HX.out.symm rfl rfl).mono ?_
          rintro e _ ⟨rfl, rfl⟩
          go_wp2_with (fail)
          go_region
          all_goals (go_wp2_with (fail))
          refine ⟨⟨b + 1, by omega, by go_num, NX.out.drew⟩, by simp [intOf]; omega⟩
        · have he : b = 2 := by omega
          subst he
          go_wp2_with (fail)
          refine ⟨⟨s + 1, by omega, by go_num, HE.out⟩, by simp [intOf]; omega⟩
    · have he : s = 64 := by omega
      subst he
      have HB' : Hid (wr.heap[w.heap.size + 1]? = some (.cells (afn 384 (ecell 128)) 52)) := Lib.hid HE.out.1
      have HA := Lib.hid HE.out.2.2.1
      have HW := Lib.hid HE.out.2.2.2
      clear HE
      go_wp2_with (first | (refine wpList_load_row rfl 52 _ rfl (w.heap.size + 1) rfl 52 _ _ _ HB'.out Try.underlying52 rfl (by rw [afn_size]; kernel_rfl) ?_) | (refine wpList_store_row rfl 52 _ _ rfl w.heap.size (afn 384 (ecell 128)) rfl rfl 52 _ HA.out (by rw [afn_size]; kernel_rfl) (by rw [afn_size, afn_size]) (by kernel_rfl) ?_))
      refine bodyPost_ret (results_cell_row rfl _ _ w.heap.size 52 (afn 384 (ecell 128)) (0, 0) _ rfl ?_ Try.underlying52 rfl (by rw [afn_size]; kernel_rfl)) rfl ⟨rfl, below_setRow HW.out (Nat.le_refl _) _⟩
      · exact setRow_heap _ _ _ _ _ _ HA.out
end Go.Proofs.Ytbfgpjpfhbbdfaa
