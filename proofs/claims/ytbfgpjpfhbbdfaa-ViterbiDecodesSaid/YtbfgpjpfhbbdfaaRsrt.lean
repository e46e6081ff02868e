/-
  What slices.SortFunc makes of the states, with ranked's comparison. Conditions: no two states have the same key.
-/
import Derived.Test.YtbfgpjpfhbbdfaaShelf
import Derived.Test.YtbfgpjpfhbbdfaaRcmp
namespace Go.Proofs.Ytbfgpjpfhbbdfaa
open Go.RowKit Kit Go.Shelf Go.Sort
set_option linter.unusedVariables false
theorem sort_mod {α : Type} [Inhabited α] (enc : α → Value) (w : World) (blk off m : Nat) (dk : Array α) (os : Array Obj) : Mod (fun k => k = blk) w (sortWorld enc w blk off m dk os) := by
  unfold sortWorld
  refine ⟨rfl, rfl, rfl, ?_, fun k hk hs => ?_⟩
  · show w.heap.size ≤ ((w.heap.modify blk _) ++ os).size
    simp
  · show ((w.heap.modify blk _) ++ os)[k]? = w.heap[k]?
    rw [Array.getElem?_append_left (by simpa using hk), Array.getElem?_modify, if_neg (fun e => hs e.symm)]
/-- A state's key: the rank of the way before, and then the last bit. -/
def key (R F : Nat → Nat) (s : Nat) : Nat := 2 * R (F s) + s / 32
theorem cfR_lt (R F : Nat → Nat) (s t : Nat) (hs : s < 64) (ht : t < 64) : cfR R F s t < 0 ↔ key R F s < key R F t := by
  unfold cfR key
  split <;> omega
theorem ltF {R F : Nat → Nat} (x y : Fin 64) : ltOf (fun i k : Fin 64 => cfR R F i.val k.val) x y = decide (key R F x.val < key R F y.val) := by
  unfold ltOf
  by_cases h : key R F x.val < key R F y.val
  · rw [decide_eq_true h, decide_eq_true ((cfR_lt R F _ _ x.isLt y.isLt).2 h)]
  · rw [decide_eq_false h, decide_eq_false (fun h' => h ((cfR_lt R F _ _ x.isLt y.isLt).1 h'))]
theorem swoF (R F : Nat → Nat) : SWO (ltOf (fun i k : Fin 64 => cfR R F i.val k.val)) where
  irrefl x := by rw [ltF]; simp
  trans x y z h1 h2 := by rw [ltF] at *; simp at *; omega
  ntrans x y z h1 h2 := by rw [ltF] at *; simp at *; omega
def encF (i : Fin 64) : Value := .int .i64 (i.val : Nat)
/-- The states in the order of their keys. -/
structure Ord (k : Nat → Nat) (o : List Nat) : Prop where
  len : o.length = 64
  mem : ∀ s, s ∈ o ↔ s < 64
  sorted : o.Pairwise fun x y => k x < k y
theorem Ord.at {k : Nat → Nat} {o : List Nat} (h : Ord k o) (i : Nat) (hi : i < 64) : o.getD i 0 < 64 ∧ o.idxOf (o.getD i 0) = i := by
  have hl : i < o.length := by rw [h.len]; exact hi
  have e : o.getD i 0 = o[i] := by rw [List.getD_eq_getElem?_getD, List.getElem?_eq_getElem hl]; rfl
  have hm := List.getElem_mem hl
  rw [e]
  refine ⟨(h.mem _).1 hm, ?_⟩
  have h1 : o.idxOf o[i] < o.length := List.idxOf_lt_length_of_mem hm
  have h2 : o[o.idxOf o[i]] = o[i] := List.getElem_idxOf h1
  have hs := List.pairwise_iff_getElem.1 h.sorted
  rcases Nat.lt_trichotomy (o.idxOf o[i]) i with hlt | he | hgt
  · have := hs _ _ h1 hl hlt; rw [h2] at this; omega
  · exact he
  · have := hs _ _ hl h1 hgt; rw [h2] at this; omega
theorem Ord.rank {k : Nat → Nat} {o : List Nat} (h : Ord k o) : (∀ s, s < 64 → o.idxOf s < 64) ∧ (∀ s t, s < 64 → t < 64 → o.idxOf s = o.idxOf t → s = t) ∧ ∀ s t, s < 64 → t < 64 → (o.idxOf s < o.idxOf t ↔ k s < k t) := by
  have h1 : ∀ s, s < 64 → ∃ hl : o.idxOf s < o.length, o[o.idxOf s] = s := fun s hs => by
    have h1 : o.idxOf s < o.length := List.idxOf_lt_length_of_mem ((h.mem s).2 hs)
    exact ⟨h1, List.getElem_idxOf h1⟩
  have hs := List.pairwise_iff_getElem.1 h.sorted
  refine ⟨fun s hs => by have := (h1 s hs).1; rw [h.len] at this; exact this, fun s t hs ht e => ?_, fun s t hs' ht => ?_⟩
  · obtain ⟨l1, e1⟩ := h1 s hs
    obtain ⟨l2, e2⟩ := h1 t ht
    have e3 : o[o.idxOf s] = o[o.idxOf t] := by congr 1
    rw [← e1, ← e2]; exact e3
  · obtain ⟨l1, e1⟩ := h1 s hs'
    obtain ⟨l2, e2⟩ := h1 t ht
    rcases Nat.lt_trichotomy (o.idxOf s) (o.idxOf t) with hlt | he | hgt
    · have := hs _ _ l1 l2 hlt; rw [e1, e2] at this; exact ⟨fun _ => this, fun _ => hlt⟩
    · have e3 : o[o.idxOf s] = o[o.idxOf t] := by congr 1
      rw [e1, e2] at e3; rw [e3]; omega
    · have := hs _ _ l2 l1 hgt; rw [e1, e2] at this; omega
theorem sort_heap (w : World) (blk m : Nat) (o : List Nat) (os : Array Obj) (c : Array Value) (t : TypeId) (fr : Nat × Nat) (ho : o.length = 64) (hm : ∀ s, s ∈ o → s < 64) (hc : c.size = 64) (h : w.heap[blk]? = some (.cells c t fr)) :
    (letI : Inhabited (Fin 64) := ⟨⟨0, by omega⟩⟩; sortWorld encF w blk 0 m (o.map fun i => (⟨i % 64, Nat.mod_lt _ (by omega)⟩ : Fin 64)).toArray os).heap[blk]? = some (.cells (afn 64 (fun j => ((o.getD j 0 : Nat) : Int))) t fr) := by
  have hlt := lt_of_obj h
  unfold sortWorld
  show ((w.heap.modify blk _) ++ os)[blk]? = _
  rw [Array.getElem?_append_left (by simpa using hlt), Array.getElem?_modify, if_pos rfl, h]
  simp only [Option.map_some, Option.some.injEq]
  unfold onCells
  simp only [Obj.cells.injEq, and_true]
  apply Array.ext_getElem?
  intro j
  rcases Nat.lt_or_ge j 64 with hj | hj
  · rw [afn_get _ _ _ hj]
    unfold putCells
    have hj' : j < o.length := by omega
    have hl : o[j] < 64 := hm _ (List.getElem_mem hj')
    simp [hc, hj, ho, encF, List.getD_eq_getElem?_getD]
    omega
  · rw [afn_none _ _ _ hj]
    exact Array.getElem?_eq_none (by simp [putCells, hc]; omega)
set_option maxHeartbeats 800000 in
theorem order_any (R F : Nat → Nat) (p q bw bf off blk cap : Nat) (w : World) (hF : ∀ s, s < 64 → F s < 64) (hR : ∀ j, j < 64 → R j < 64)
    (hk : ∀ s t, s < 64 → t < 64 → key R F s = key R F t → s = t)
    (cp : w.cell? ⟨p, 0, none⟩ = some (.pointer (some ⟨bw, 0, none⟩))) (cq : w.cell? ⟨q, 0, none⟩ = some (.pointer (some ⟨bf, off, none⟩)))
    (cf : ∀ s, s < 64 → w.cell? ⟨bf, off + s, none⟩ = some (.int .i64 (F s))) (cw : ∀ j, j < 64 → w.cell? ⟨bw, j * 2 + 1, none⟩ = some (.int .i64 (R j)))
    (lp : p < w.heap.size) (lq : q < w.heap.size) (lw : bw < w.heap.size) (lf : bf < w.heap.size) (np : p ≠ blk) (nq : q ≠ blk) (nw : bw ≠ blk) (nf : bf ≠ blk)
    (hb : w.heap[blk]? = some (.cells (afn 64 (fun j => (j : Int))) 61)) :
    Calls Try.prog 38 #[.slice (some ⟨blk, 0, none⟩) 64 cap, .func (.func 39) #[] #[.pointer (some ⟨p, 0, none⟩), .pointer (some ⟨q, 0, none⟩)]] w fun e w' =>
      e = .returned (.tuple #[]) ∧ Mod (fun k => k = blk) w w' ∧ ∃ o : List Nat, Ord (key R F) o ∧ w'.heap[blk]? = some (.cells (afn 64 (fun j => ((o.getD j 0 : Nat) : Int))) 61) := by
  have hblk := lt_of_obj hb
  have hrow : ∀ j, j < 64 → w.cell? ⟨blk, j, none⟩ = some (.int .i64 (j : Nat)) ∧ w.frozen? ⟨blk, j, none⟩ = false := fun j hj => ⟨cell_of hb (afn_get _ _ _ hj), free_of hb⟩
  letI : Inhabited (Fin 64) := ⟨⟨0, by omega⟩⟩
  have eg : ∀ args w, (callFunc 39 args).run Try.prog w = .ok (.enter 39 args) w := enters_of Try.func39 (by kernel_rfl) rfl
  have hsz : (List.finRange 64).toArray.size = 64 := by simp
  have hH : Holds encF w blk 0 (List.finRange 64).toArray := by
    intro j hj
    rw [hsz] at hj
    rw [Nat.zero_add]
    refine ⟨?_, (hrow j hj).2⟩
    rw [(hrow j hj).1]
    simp [encF, hj]
  have hc : CmpReads Try.prog 39 #[.pointer (some ⟨p, 0, none⟩), .pointer (some ⟨q, 0, none⟩)] encF (fun i k : Fin 64 => cfR R F i.val k.val) blk 0 (List.finRange 64).toArray.size w := by
    intro m os dk hdk x y
    have hm := sort_mod encF w blk 0 m dk os
    exact rcmp_any R F p q bw bf off _ x.val y.val x.isLt y.isLt hF hR ((hm.cell lp np).trans cp) ((hm.cell lq nq).trans cq) (fun s hs => (hm.cell lf nf).trans (cf s hs)) (fun j hj => (hm.cell lw nw).trans (cw j hj))
  have tot : ∀ x y : Fin 64, ltOf (fun i k : Fin 64 => cfR R F i.val k.val) x y = false → ltOf (fun i k : Fin 64 => cfR R F i.val k.val) y x = false → x = y := by
    intro x y h1 h2
    rw [ltF] at h1 h2
    simp at h1 h2
    exact Fin.ext (hk _ _ x.isLt y.isLt (by omega))
  have hS := Any.slices_SortFunc_total Try.sortL encF (fun _ => rfl) _ (swoF R F) 39 #[.pointer (some ⟨p, 0, none⟩), .pointer (some ⟨q, 0, none⟩)] blk 0 cap (List.finRange 64).toArray w eg hc.lays hH hblk (by rw [hsz]; omega) tot
  rw [hsz] at hS
  change Calls Try.prog 38 _ _ _ at hS
  refine hS.mono ?_
  rintro e w' ⟨he, m, os, hw⟩
  have hO : Ord (key R F) (((List.finRange 64).mergeSort fun x y => !(ltOf (fun i k : Fin 64 => cfR R F i.val k.val)) y x).map (·.val)) := by
    refine ⟨by simp, fun s => ?_, ?_⟩
    · constructor
      · intro h
        obtain ⟨x, _, rfl⟩ := List.mem_map.1 h
        exact x.isLt
      · intro h
        exact List.mem_map.2 ⟨⟨s, h⟩, (List.mergeSort_perm _ _).mem_iff.2 (List.mem_finRange _), rfl⟩
    · rw [List.pairwise_map]
      have hnd : ((List.finRange 64).mergeSort fun x y => !(ltOf (fun i k : Fin 64 => cfR R F i.val k.val)) y x).Nodup := (List.mergeSort_perm _ _).nodup_iff.2 (List.nodup_finRange 64)
      have := List.pairwise_mergeSort (le := fun x y => !(ltOf (fun i k : Fin 64 => cfR R F i.val k.val)) y x) ?_ ?_ (List.finRange 64)
      · refine (this.and hnd).imp ?_
        rintro x y ⟨h, hne⟩
        rw [ltF] at h
        simp at h
        rcases Nat.lt_or_ge (key R F x.val) (key R F y.val) with h3 | h3
        · exact h3
        · exact absurd (Fin.ext (hk _ _ x.isLt y.isLt (by omega))) hne
      · intro x y z h1 h2
        simp only [ltF, Bool.not_eq_true', decide_eq_false_iff_not] at *
        omega
      · intro x y
        simp only [ltF, Bool.or_eq_true, Bool.not_eq_true', decide_eq_false_iff_not]
        omega
  refine ⟨he, by rw [hw]; exact sort_mod _ _ _ _ _ _ _, _, hO, ?_⟩
  have := sort_heap w blk m _ os _ _ _ hO.len (fun s hs => (hO.mem s).1 hs) (afn_size _ _) hb
  rw [← this]
  congr 1
  rw [hw, List.map_map]
  congr 2
  have : ((fun i => (⟨i % 64, Nat.mod_lt _ (by omega)⟩ : Fin 64)) ∘ fun x : Fin 64 => x.val) = id := by
    funext x; apply Fin.ext; show x.val % 64 = x.val; omega
  rw [this, List.map_id]
end Go.Proofs.Ytbfgpjpfhbbdfaa
