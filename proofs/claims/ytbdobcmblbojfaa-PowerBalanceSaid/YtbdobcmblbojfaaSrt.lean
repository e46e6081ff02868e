/-
  The order in which loads are shed: the comparison, and what slices.SortFunc makes of it. Conditions: at most 16 loads, all valid.
-/
import Derived.Test.YtbdobcmblbojfaaShelf
import Derived.Test.YtbdobcmblbojfaaBase
import Derived.BigQuiet
namespace Go.Proofs.Ytbdobcmblbojfaa
open Go.RowKit Kit Go.Shelf Go.Sort
set_option linter.unusedVariables false
theorem sort_mod {α : Type} [Inhabited α] (enc : α → Value) (w : World) (blk off m : Nat) (dk : Array α) (os : Array Obj) : Mod (fun k => k = blk) w (sortWorld enc w blk off m dk os) := by
  unfold sortWorld
  refine ⟨rfl, rfl, rfl, ?_, fun k hk hs => ?_⟩
  · show w.heap.size ≤ ((w.heap.modify blk _) ++ os).size
    simp
  · show ((w.heap.modify blk _) ++ os)[k]? = w.heap[k]?
    rw [Array.getElem?_append_left (by simpa using hk), Array.getElem?_modify, if_neg (fun e => hs e.symm)]
/-- What the comparison returns. -/
def cfN (l : List Ld) (i k : Nat) : Int := if rk l i = rk l k then (k : Int) - i else rk l i - rk l k
theorem cfN_lt (l : List Ld) (i k : Nat) : cfN l i k < 0 ↔ bef l i k := by
  unfold cfN bef
  split <;> omega
set_option maxHeartbeats 800000 in
theorem cmp_any (l : List Ld) (a : Option Addr) (n c p : Nat) (W : World) (i k : Nat) (hi : i < n) (hk : k < n) (hL : Lds W a n c l) (hp : W.cell? ⟨p, 0, none⟩ = some (.slice a n c)) (hd : okD l) (hn : n ≤ 16) :
    Calls Try.prog 22 #[.int .i64 i, .int .i64 k, .pointer (some ⟨p, 0, none⟩)] W fun e w' => e = .returned (.int .i64 (cfN l i k)) ∧ ∃ q, w' = W.drewN q := by
  have hcap := hL.2.1
  have hcap2 := hL.2.2.1
  unfold maxLen at hcap2
  obtain ⟨b, off, rfl, hbl, _, c1, _⟩ := hL.2.2.2 i hi
  obtain ⟨b', off', he, _, _, c2, _⟩ := hL.2.2.2 k hk
  simp only [Option.some.injEq, Addr.mk.injEq, and_true] at he
  obtain ⟨rfl, rfl⟩ := he
  obtain ⟨_, _, d1, d2⟩ := hd.at i
  obtain ⟨_, _, d3, d4⟩ := hd.at k
  have hcf : cfN l i k = if rk l i = rk l k then (k : Int) - i else rk l i - rk l k := rfl
  obtain ⟨C, hC⟩ : ∃ C, C = cfN l i k := ⟨_, rfl⟩
  obtain ⟨R, hR⟩ : ∃ R, R = rk l i := ⟨_, rfl⟩
  obtain ⟨Q, hQ⟩ : ∃ Q, Q = rk l k := ⟨_, rfl⟩
  rw [← hC, ← hR, ← hQ] at hcf
  rw [← hR] at c1 d1 d2
  rw [← hQ] at c2 d3 d4
  rw [← hC]
  clear hC hR hQ hL hd
  by_cases hRQ : R = Q
  · subst hRQ
    rw [if_pos rfl] at hcf
    have hne : (R != R) = false := by simp
    have HC := Lib.hid hcf
    clear hcf
    go_enter Try.func22, Try.ntmps22
    go_wp2_with (fail)
    go_quiet (fail)
    go_wp2_with (fail)
    go_ret
    exact ⟨by rw [HC.out]; rfl, _, rfl⟩
  · rw [if_neg hRQ] at hcf
    have hne : (R != Q) = true := by simpa using hRQ
    have HC := Lib.hid hcf
    clear hcf hRQ
    go_enter Try.func22, Try.ntmps22
    go_wp2_with (fail)
    go_quiet (fail)
    go_wp2_with (fail)
    go_quiet (fail)
    go_wp2_with (fail)
    go_ret
    exact ⟨by rw [HC.out]; rfl, _, World.drewN_drewN _ _ _⟩
def encF (n : Nat) (i : Fin n) : Value := .int .i64 (i.val : Nat)
theorem ltF {l : List Ld} {n : Nat} (x y : Fin n) : ltOf (fun i k : Fin n => cfN l i.val k.val) x y = decide (bef l x.val y.val) := by
  unfold ltOf
  by_cases h : bef l x.val y.val
  · rw [decide_eq_true h, decide_eq_true ((cfN_lt l _ _).2 h)]
  · rw [decide_eq_false h, decide_eq_false (fun h' => h ((cfN_lt l _ _).1 h'))]
theorem swoF (l : List Ld) (n : Nat) : SWO (ltOf (fun i k : Fin n => cfN l i.val k.val)) where
  irrefl x := by rw [ltF]; simpa using bef_irrefl l x.val
  trans x y z h1 h2 := by rw [ltF] at *; simp at *; exact bef_trans h1 h2
  ntrans x y z h1 h2 := by rw [ltF] at *; simp at *; unfold bef at *; omega
theorem totF (l : List Ld) (n : Nat) (x y : Fin n) (h1 : ltOf (fun i k : Fin n => cfN l i.val k.val) x y = false) (h2 : ltOf (fun i k : Fin n => cfN l i.val k.val) y x = false) : x = y := by
  rw [ltF] at h1 h2
  simp at h1 h2
  rcases bef_total l x.val y.val with h | h | h
  · exact Fin.ext h
  · exact absurd h h1
  · exact absurd h h2
theorem ord_of {l : List Ld} {n : Nat} (hn : n = l.length) (L : List (Fin n)) (hp : L.Perm (List.finRange n)) (hs : L.Pairwise (fun x y => bef l y.val x.val = False ∨ ¬ bef l y.val x.val)) : Ord l (L.map (·.val)) := by
  refine ⟨fun i => ?_, ?_⟩
  · rw [← hn]
    constructor
    · intro h
      obtain ⟨x, _, rfl⟩ := List.mem_map.1 h
      exact x.isLt
    · intro h
      exact List.mem_map.2 ⟨⟨i, h⟩, hp.mem_iff.2 (List.mem_finRange _), rfl⟩
  · rw [List.pairwise_map]
    have hnd : L.Nodup := hp.nodup_iff.2 (List.nodup_finRange n)
    refine (hs.and hnd).imp ?_
    rintro x y ⟨h1, h2⟩
    have h3 : ¬ bef l y.val x.val := by
      rcases h1 with h | h
      · rw [h]; exact id
      · exact h
    rcases bef_total l x.val y.val with h | h | h
    · exact absurd (Fin.ext h) h2
    · exact h
    · exact absurd h h3
set_option maxHeartbeats 800000 in
theorem order_any (l : List Ld) (a : Option Addr) (n c p blk cap : Nat) (w : World) (hn0 : 0 < n) (hL : Lds w a n c l) (hp : w.cell? ⟨p, 0, none⟩ = some (.slice a n c)) (hpl : p < w.heap.size) (hd : okD l) (hn : n ≤ 16)
    (hblk : blk < w.heap.size) (hpb : p ≠ blk) (hab : ∀ b off, a = some ⟨b, off, none⟩ → b ≠ blk) (hrow : ∀ j, j < n → w.cell? ⟨blk, j, none⟩ = some (.int .i64 (j : Nat)) ∧ w.frozen? ⟨blk, j, none⟩ = false) :
    Calls Try.prog 21 #[.slice (some ⟨blk, 0, none⟩) n cap, .func (.func 22) #[] #[.pointer (some ⟨p, 0, none⟩)]] w fun e w' =>
      e = .returned (.tuple #[]) ∧ Mod (fun k => k = blk) w w' ∧ ∃ o : List Nat, Ord l o ∧ o.length = n ∧ ∀ j, j < n → w'.cell? ⟨blk, j, none⟩ = some (.int .i64 (o.getD j 0 : Nat)) := by
  letI : Inhabited (Fin n) := ⟨⟨0, hn0⟩⟩
  have eg : ∀ args w, (callFunc 22 args).run Try.prog w = .ok (.enter 22 args) w := enters_of Try.func22 (by kernel_rfl) rfl
  have hsz : (List.finRange n).toArray.size = n := by simp
  have hH : Holds (encF n) w blk 0 (List.finRange n).toArray := by
    intro j hj
    rw [hsz] at hj
    rw [Nat.zero_add]
    refine ⟨?_, (hrow j hj).2⟩
    rw [(hrow j hj).1]
    simp [encF, hj]
  have hc : CmpReads Try.prog 22 #[.pointer (some ⟨p, 0, none⟩)] (encF n) (fun i k : Fin n => cfN l i.val k.val) blk 0 (List.finRange n).toArray.size w := by
    intro m os dk hdk x y
    have hm := sort_mod (encF n) w blk 0 m dk os
    refine cmp_any l a n c p _ x.val y.val x.isLt y.isLt ?_ ((hm.cell hpl hpb).trans hp) hd hn
    refine ⟨hL.1, hL.2.1, hL.2.2.1, fun i hi => ?_⟩
    obtain ⟨b, off, rfl, hl, h0, h1, h2⟩ := hL.2.2.2 i hi
    have hbb := hab b off rfl
    exact ⟨b, off, rfl, Nat.lt_of_lt_of_le hl hm.size, (hm.cell hl hbb).trans h0, (hm.cell hl hbb).trans h1, (hm.cell hl hbb).trans h2⟩
  have hS := Any.slices_SortFunc_total Try.sortL (encF n) (fun _ => rfl) _ (swoF l n) 22 #[.pointer (some ⟨p, 0, none⟩)] blk 0 cap (List.finRange n).toArray w eg hc.lays hH hblk (by rw [hsz]; omega) (totF l n)
  rw [hsz] at hS
  change Calls Try.prog 21 _ _ _ at hS
  refine hS.mono ?_
  rintro e w' ⟨he, m, os, hw⟩
  refine ⟨he, by rw [hw]; exact sort_mod _ _ _ _ _ _ _, ((List.finRange n).mergeSort fun x y => !(ltOf (fun i k : Fin n => cfN l i.val k.val)) y x).map (·.val), ?_, by simp, fun j hj => ?_⟩
  · refine ord_of hL.1 _ (List.mergeSort_perm _ _) ?_
    have := List.pairwise_mergeSort (le := fun x y => !(ltOf (fun i k : Fin n => cfN l i.val k.val)) y x) ?_ ?_ (List.finRange n)
    · refine this.imp ?_
      intro x y h
      right
      rw [ltF] at h
      simpa using h
    · intro x y z h1 h2
      simp only [ltF, Bool.not_eq_true', decide_eq_false_iff_not] at *
      unfold bef at *; omega
    · intro x y
      simp only [ltF, Bool.or_eq_true, Bool.not_eq_true', decide_eq_false_iff_not]
      unfold bef; omega
  · have h := holds_sortWorld (encF n) w blk 0 m (List.finRange n).toArray ((List.finRange n).toArray.toList.mergeSort fun x y => !(ltOf (fun i k : Fin n => cfN l i.val k.val)) y x).toArray os hblk hH (by simp)
    have := (h j (by simp; exact hj)).1
    rw [Nat.zero_add, ← hw] at this
    rw [this]
    simp [encF, List.getD_eq_getElem?_getD, hj]
end Go.Proofs.Ytbdobcmblbojfaa
