/-
  The walk of ranked. Conditions: states, numbers of states, no two states with the same key.
-/
import Derived.Test.YtbfgpjpfhbbdfaaRsrt
import Derived.Laws.EntriesVeiled
namespace Go.Proofs.Ytbfgpjpfhbbdfaa
open Go.RowKit Kit
set_option linter.unusedVariables false
/-- Survivors with their ranks. -/
def rnkC (g : Nat → Int) (o : List Nat) (k i : Nat) : Int := if i % 2 = 1 ∧ o.idxOf (i / 2) < k then ((o.idxOf (i / 2) : Nat) : Int) else g i
theorem rnkC_step (g : Nat → Int) (o : List Nat) (q : Nat → Nat) (h : Ord q o) (k : Nat) (hk : k < 64) :
    afn 128 (fun j => if j = o.getD k 0 * 2 + 1 then (k : Int) else rnkC g o k j) = afn 128 (rnkC g o (k + 1)) := by
  refine afn_congr fun j hj => ?_
  obtain ⟨h1, h2⟩ := h.at k hk
  by_cases e : j = o.getD k 0 * 2 + 1
  · rw [if_pos e]
    unfold rnkC
    have e1 : j / 2 = o.getD k 0 := by omega
    rw [e1, h2, if_pos (by omega)]
  · rw [if_neg e]
    unfold rnkC
    by_cases hj2 : j % 2 = 1
    · have hne : o.idxOf (j / 2) ≠ k := by
        intro he
        obtain ⟨r1, r2, _⟩ := h.rank
        have := r2 (j / 2) (o.getD k 0) (by omega) h1 (by rw [he, h2])
        omega
      by_cases hl : o.idxOf (j / 2) < k
      · rw [if_pos ⟨hj2, hl⟩, if_pos ⟨hj2, by omega⟩]
      · rw [if_neg (fun h => hl h.2), if_neg (fun h => hl (by omega))]
    · rw [if_neg (fun h => hj2 h.1), if_neg (fun h => hj2 h.1)]
theorem zero61' (w : World) : Sem.run Try.prog (zeroValue 61) w = .ok (.agg (afn 64 (fun _ => 0))) w := by kernel_rfl
theorem run_index61 (w : World) (A : Array Value) (k : Nat) (v : Value) (hk : k < 64) (h : A[k]? = some v) : (Instr.index 61 (.agg A) (.int .i64 k)).run Try.prog w = .ok v w := by
  have hk' : (k : Int) < 64 := by omega
  have hs : k < A.size := by
    rcases Nat.lt_or_ge k A.size with h' | h'
    · exact h'
    · rw [Array.getElem?_eq_none h'] at h; cases h
  simp [Instr.index, run_underlying Try.underlying61, asIntOf, part, h, go_sem]
  omega
/-- The order as it lies when k states have been written. -/
def ordC (k j : Nat) : Int := if j < k then (j : Int) else 0
def RK (bf off bw : Nat) (w : World) (k : Nat) (wr : World) : Prop :=
  wr.heap[w.heap.size + 1 + 1]? = some (.cells (afn 64 (ordC k)) 61) ∧ wr.heap[w.heap.size]? = some (.cells #[.pointer (some ⟨bf, off, none⟩)] 60) ∧ wr.heap[w.heap.size + 1]? = some (.cells #[.pointer (some ⟨bw, 0, none⟩)] 63) ∧ Below w.heap.size w wr
theorem RK.set {bf off bw : Nat} {w wr : World} {k : Nat} (h : RK bf off bw w k wr) (hk : k < 64) : RK bf off bw w (k + 1) (wr.setCell ⟨w.heap.size + 1 + 1, k, none⟩ (.int .i64 k)) := by
  refine ⟨?_, hp_set_ne h.2.1 (by omega) _, hp_set_ne h.2.2.1 (by omega) _, bl_set h.2.2.2 (by omega) _⟩
  have e : afn 64 (fun j => if j = k then (k : Int) else ordC k j) = afn 64 (ordC (k + 1)) := ?_
  · rw [hp_set h.1, afn_set, e]
  refine afn_congr fun j hj => ?_
  unfold ordC
  by_cases e : j = k
  · subst e; rw [if_pos rfl, if_pos (by omega)]
  · rw [if_neg e]
    by_cases hl : j < k
    · rw [if_pos hl, if_pos (by omega)]
    · rw [if_neg hl, if_neg (by omega)]
set_option maxRecDepth 100000 in
set_option maxHeartbeats 1600000 in
theorem ranked_any (R F : Nat → Nat) (g : Nat → Int) (bn bf off bw : Nat) (w : World) (hF : ∀ s, s < 64 → F s < 64) (hR : ∀ j, j < 64 → R j < 64)
    (hk : ∀ s t, s < 64 → t < 64 → key R F s = key R F t → s = t)
    (cn : w.heap[bn]? = some (.cells (afn 128 g) 58))
    (cf : ∀ s, s < 64 → w.cell? ⟨bf, off + s, none⟩ = some (.int .i64 (F s))) (cw : ∀ j, j < 64 → w.cell? ⟨bw, j * 2 + 1, none⟩ = some (.int .i64 (R j)))
    (lf : bf < w.heap.size) (lw : bw < w.heap.size) (nf : bf ≠ bn) (nw : bw ≠ bn) :
    Calls Try.prog 27 #[.pointer (some ⟨bn, 0, none⟩), .pointer (some ⟨bf, off, none⟩), .pointer (some ⟨bw, 0, none⟩)] w fun e w' =>
      e = .returned (.tuple #[]) ∧ Mod (fun k => k = bn) w w' ∧ ∃ o : List Nat, Ord (key R F) o ∧ w'.heap[bn]? = some (.cells (afn 128 (rnkC g o 64)) 58) := by
  have hz := zero61'
  have ln := lt_of_obj cn
  have HF := Lib.hid hF; have HR := Lib.hid hR; have HK := Lib.hid hk; have CN := Lib.hid cn; have CF := Lib.hid cf; have CW := Lib.hid cw
  clear hF hR hk cn cf cw
  go_enter Try.func27, Try.ntmps27
  go_wp2_with (fail)
  have H0 : Hid (RK bf off bw w 0 (((w.alloc (.cells #[.pointer (some ⟨bf, off, none⟩)] 60)).alloc (.cells #[.pointer (some ⟨bw, 0, none⟩)] 63)).alloc (.cells (afn 64 fun x => 0) 61))) := Lib.hid ⟨by
      have := hp_new ((w.alloc (.cells #[.pointer (some ⟨bf, off, none⟩)] 60)).alloc (.cells #[.pointer (some ⟨bw, 0, none⟩)] 63)) (.cells (afn 64 fun x => 0) 61)
      have e : ordC 0 = fun _ => 0 := by funext j; simp [ordC]
      rw [e]; simpa using this, hp_old (hp_old (hp_new _ _) _) _, hp_old (by have := hp_new (w.alloc (.cells #[.pointer (some ⟨bf, off, none⟩)] 60)) (.cells #[.pointer (some ⟨bw, 0, none⟩)] 63); simpa using this) _, bl_alloc (bl_alloc (bl_alloc (Below.refl _ _) _) _) _⟩
  go_loopw [10] (fun i wr => ∃ k : Nat, k ≤ 64 ∧ i = .int .i64 k ∧ RK bf off bw w k wr) (fun i _ => 64 - (intOf i).toNat)
  case atStart => exact ⟨0, by omega, rfl, H0.out⟩
  case round =>
    clear H0 hz
    obtain ⟨k, hk, rfl, hE⟩ := hrel
    have HE := Lib.hid hE
    have hg := hE.2.2.2.size
    by_cases hlt : k < 64
    · have c0 : wr.cell? ⟨w.heap.size + 1 + 1, k, none⟩ = some (.int .i64 (ordC k k)) := cell_of hE.1 (afn_get _ _ _ hlt)
      have f0 := fun i => free_of (i := i) hE.1
      have NX := Lib.hid (hE.set hlt)
      generalize ordC k k = v0 at c0
      clear hE
      go_wp2_with (fail)
      refine ⟨⟨k + 1, by omega, by go_num, NX.out⟩, by simp [intOf]; omega⟩
    · have he : k = 64 := by omega
      subst he
      have hO : wr.heap[w.heap.size + 1 + 1]? = some (.cells (afn 64 (fun j => (j : Int))) 61) := by
        have e : afn 64 (ordC 64) = afn 64 (fun j => (j : Int)) := afn_congr fun j hj => by simp [ordC, hj]
        rw [hE.1, e]
      have hs2 : w.heap.size + 1 + 1 < wr.heap.size := lt_of_obj hO
      have OA := Lib.hid (order_any R F (w.heap.size + 1) w.heap.size bw bf off (w.heap.size + 1 + 1) 64 wr HF.out HR.out HK.out (cell_of hE.2.2.1 rfl) (cell_of hE.2.1 rfl) (fun s hs => (hE.2.2.2.cell (p := ⟨bf, off + s, none⟩) lf).trans (CF.out s hs)) (fun j hj => (hE.2.2.2.cell (p := ⟨bw, j * 2 + 1, none⟩) lw).trans (CW.out j hj)) (by omega) (by omega) (by omega) (by omega) (by omega) (by omega) (by omega) (by omega) hO)
      have cn1 : wr.heap[bn]? = some (.cells (afn 128 g) 58) := below_keeps hE.2.2.2 CN.out ln
      have HB := Lib.hid hE.2.2.2
      have CN1 := Lib.hid cn1
      clear hE HE hO cn1 CF CW HF HR HK
      go_wp2_with (fail)
      refine OA.out.mono ?_
      rintro e w3 ⟨rfl, hm, o, hO, hb⟩
      have cn2 : w3.heap[bn]? = some (.cells (afn 128 (rnkC g o 0)) 58) := by
        have e : afn 128 (rnkC g o 0) = afn 128 g := afn_congr fun j hj => by simp [rnkC]
        rw [e]; exact hm.keeps CN1.out (by omega)
      have M0 : Hid (Mod (fun k => k = bn) w w3) := Lib.hid ((Mod.of_below HB.out).trans hm (fun k h1 h2 => by omega))
      obtain ⟨A, hA⟩ : ∃ A, A = afn 64 (fun j => ((o.getD j 0 : Nat) : Int)) := ⟨_, rfl⟩
      have hAs : A.size = 64 := by rw [hA, afn_size]
      have GA : Hid (∀ k, k < 64 → A[k]? = some (.int .i64 ((o.getD k 0 : Nat) : Int))) := Lib.hid (by rw [hA]; exact fun k hk => afn_get _ _ _ hk)
      rw [← hA] at hb
      have CN2 := Lib.hid cn2; have HO := Lib.hid hO; have HB3 := Lib.hid hb; have HAS := Lib.hid hAs
      clear hm hO hb cn2 CN1 HB hA hAs
      go_wp2_with (refine wpList_load_row rfl 61 _ rfl (w.heap.size + 1 + 1) rfl 61 _ _ _ HB3.out Try.underlying61 rfl (by rw [HAS.out]; kernel_rfl) ?_)
      go_loopw [21] (fun i wr => ∃ k : Nat, k ≤ 64 ∧ i = .int .i64 k ∧ wr.heap[bn]? = some (.cells (afn 128 (rnkC g o k)) 58) ∧ Mod (fun k => k = bn) w wr) (fun i _ => 64 - (intOf i).toNat)
      case atStart => exact ⟨0, by omega, rfl, CN2.out, M0.out⟩
      case round =>
        clear CN2 M0 HB3
        obtain ⟨k, hk, rfl, hE, hM⟩ := hrel
        by_cases hlt : k < 64
        · obtain ⟨h1, h2⟩ := HO.out.at k hlt
          have ST := Lib.hid (rnkC_step g o _ HO.out k hlt)
          have G := GA.out k hlt
          have IX : ∀ w v, A[k]? = some v → (Instr.index 61 (.agg A) (.int .i64 k)).run Try.prog w = .ok v w := fun w v h => run_index61 w A k v hlt h
          replace IX := fun w => IX w _ G
          have c0 : wr.cell? ⟨bn, o.getD k 0 * 2 + 1, none⟩ = some (.int .i64 (rnkC g o k (o.getD k 0 * 2 + 1))) := cell_of hE (afn_get _ _ _ (by omega))
          have f0 := fun i => free_of (i := i) hE
          have HE := Lib.hid hE; have HM := Lib.hid hM
          generalize rnkC g o k (o.getD k 0 * 2 + 1) = v0 at c0
          clear hE hM h2
          generalize o.getD k 0 = x at *
          go_wp2_with (fail)
          refine ⟨⟨k + 1, by omega, by go_num, ?_, mod_at HM.out _⟩, by simp [intOf]; omega⟩
          rw [hp_set HE.out, afn_set, ST.out]
        · have he : k = 64 := by omega
          subst he
          have HE := Lib.hid hE; have HM := Lib.hid hM
          clear hE hM
          go_wp2_with (fail)
          go_end0
          exact ⟨rfl, HM.out, o, HO.out, HE.out⟩
end Go.Proofs.Ytbfgpjpfhbbdfaa
