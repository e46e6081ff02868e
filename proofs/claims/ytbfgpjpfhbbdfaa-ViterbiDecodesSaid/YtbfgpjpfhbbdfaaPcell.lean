/-
  The specification's rows of paths in memory. Conditions: none.
-/
import Derived.Test.YtbfgpjpfhbbdfaaRbytes
import Derived.Test.YtbfgpjpfhbbdfaaRsoft
namespace Go.Proofs.Ytbfgpjpfhbbdfaa
open Go.RowKit Kit
set_option linter.unusedVariables false
def pT (o : Option (Int × Nat)) : Bool := o.isSome
def pS (o : Option (Int × Nat)) : Int := match o with | some c => c.1 | none => 0
def pB (i : Nat) (o : Option (Int × Nat)) : ByteArray := match o with | some c => bstr i c.2 | none => ⟨#[]⟩
def pc (i : Nat) (o : Option (Int × Nat)) (c : Nat) : Value := if c = 0 then .bool (pT o) else if c = 1 then .int .i64 (pS o) else .string (pB i o)
def pfn (f : Nat → Value) : Array Value := Array.ofFn (n := 192) fun j => f j.val
theorem pfn_size (f : Nat → Value) : (pfn f).size = 192 := by simp [pfn]
theorem pfn_get (f : Nat → Value) (i : Nat) (h : i < 192) : (pfn f)[i]? = some (f i) := by simp [pfn, h]
theorem pfn_none (f : Nat → Value) (i : Nat) (h : 192 ≤ i) : (pfn f)[i]? = none := Array.getElem?_eq_none (by simp [pfn_size]; omega)
theorem pfn_congr {f g : Nat → Value} (h : ∀ j, j < 192 → f j = g j) : pfn f = pfn g := by
  apply Array.ext_getElem?
  intro i
  rcases Nat.lt_or_ge i 192 with hi | hi
  · rw [pfn_get _ _ hi, pfn_get _ _ hi, h i hi]
  · rw [pfn_none _ _ hi, pfn_none _ _ hi]
theorem pfn_set (f : Nat → Value) (i : Nat) (v : Value) : (pfn f).setIfInBounds i v = pfn (fun j => if j = i then v else f j) := by
  apply Array.ext_getElem?
  intro j
  rcases Nat.lt_or_ge j 192 with hj | hj
  · rw [Array.getElem?_setIfInBounds, pfn_get _ _ hj, pfn_size]
    by_cases e : i = j
    · subst e; rw [if_pos rfl, if_pos hj, pfn_get _ _ hj, if_pos rfl]
    · rw [if_neg e, pfn_get _ _ hj, if_neg (fun h => e h.symm)]
  · rw [pfn_none _ _ hj, Array.getElem?_setIfInBounds, pfn_size]
    by_cases e : i = j
    · subst e; rw [if_pos rfl, if_neg (by omega)]
    · rw [if_neg e, pfn_none _ _ hj]
def pRow (i : Nat) (o : Nat → Option (Int × Nat)) : Array Value := pfn fun j => pc i (o (j / 3)) (j % 3)
theorem pRow_at (i : Nat) (o : Nat → Option (Int × Nat)) (t : Nat) (ht : t < 64) :
    (pRow i o)[t * 3]? = some (.bool (pT (o t))) ∧ (pRow i o)[t * 3 + 1]? = some (.int .i64 (pS (o t))) ∧ (pRow i o)[t * 3 + 2]? = some (.string (pB i (o t))) := by
  unfold pRow
  rw [pfn_get _ _ (by omega), pfn_get _ _ (by omega), pfn_get _ _ (by omega), show t * 3 / 3 = t by omega, show (t * 3 + 1) / 3 = t by omega, show (t * 3 + 2) / 3 = t by omega, show t * 3 % 3 = 0 by omega, show (t * 3 + 1) % 3 = 1 by omega, show (t * 3 + 2) % 3 = 2 by omega]
  exact ⟨rfl, rfl, rfl⟩
theorem pRow_congr {i : Nat} {o o' : Nat → Option (Int × Nat)} (h : ∀ t, t < 64 → o t = o' t) : pRow i o = pRow i o' := pfn_congr fun j hj => by rw [h (j / 3) (by omega)]
theorem pRow_set (i : Nat) (o : Nat → Option (Int × Nat)) (t : Nat) (ht : t < 64) (c : Int × Nat) :
    (((pRow i o).setIfInBounds (t * 3) (.bool true)).setIfInBounds (t * 3 + 1) (.int .i64 c.1)).setIfInBounds (t * 3 + 2) (.string (bstr i c.2)) = pRow i (fun x => if x = t then some c else o x) := by
  unfold pRow
  rw [pfn_set, pfn_set, pfn_set]
  refine pfn_congr fun j hj => ?_
  by_cases h0 : j = t * 3
  · subst h0
    rw [if_neg (by omega), if_neg (by omega), if_pos rfl, show t * 3 / 3 = t by omega, show t * 3 % 3 = 0 by omega]; simp only [if_true]; rfl
  · by_cases h1 : j = t * 3 + 1
    · subst h1
      rw [if_neg (by omega), if_pos rfl, show (t * 3 + 1) / 3 = t by omega, show (t * 3 + 1) % 3 = 1 by omega]; simp only [if_true]; rfl
    · by_cases h2 : j = t * 3 + 2
      · subst h2
        rw [if_pos rfl, show (t * 3 + 2) / 3 = t by omega, show (t * 3 + 2) % 3 = 2 by omega]; simp only [if_true]; rfl
      · rw [if_neg h2, if_neg h1, if_neg h0]; simp only [if_neg (show ¬ j / 3 = t by omega)]
theorem inf67 : (Try.prog.info? 67).map (fun i => (i.zero, i.size, i.bytes)) = some (some (.agg #[.bool false, .int .i64 0, .string ⟨#[]⟩]), 3, 32) := by kernel_rfl
theorem make65 (w : World) : (Instr.makeSlice 65 (.int .i64 64) (.int .i64 64)).run Try.prog w = .ok (.slice (some ⟨w.heap.size, 0, none⟩) 64 64) (w.alloc (.cells (pRow 0 fun _ => none) 67)) := by
  obtain ⟨i, hi, hz0, hz1, hz2⟩ := info_parts inf67
  have := run_make (P := Try.prog) w 65 67 i _ Try.underlying65 hi hz0 .i64 .i64 64 64 (by omega) (by omega) (by rw [hz2]; omega) (by omega)
  rw [this]
  have e : madeCells (Value.agg #[.bool false, .int .i64 0, .string ⟨#[]⟩]).cells ((64 : Int).toNat * i.size) = pRow 0 fun _ => none := by
    rw [hz1]
    kernel_rfl
  rw [e]
  rfl
theorem pRow_none (i : Nat) : pRow 0 (fun _ => none) = pRow i fun _ => none := pfn_congr fun j hj => rfl
/-- A row of paths in memory. -/
structure PD (w0 : World) (b i : Nat) (o : Nat → Option (Int × Nat)) (wr : World) : Prop where
  row : wr.heap[b]? = some (.cells (pRow i o) 67)
  below : Below w0.heap.size w0 wr
  ge : w0.heap.size ≤ b
theorem PD.congr {w0 wr : World} {b i : Nat} {o o' : Nat → Option (Int × Nat)} (h : PD w0 b i o wr) (e : ∀ t, t < 64 → o t = o' t) : PD w0 b i o' wr := ⟨by rw [← pRow_congr e]; exact h.row, h.below, h.ge⟩
theorem PD.alloc {w0 wr : World} {b i : Nat} {o : Nat → Option (Int × Nat)} (h : PD w0 b i o wr) (x : Obj) : PD w0 b i o (wr.alloc x) := ⟨hp_old h.row _, bl_alloc h.below _, h.ge⟩
theorem PD.drewN {w0 wr : World} {b i : Nat} {o : Nat → Option (Int × Nat)} (h : PD w0 b i o wr) (n : Nat) : PD w0 b i o (wr.drewN n) := ⟨h.row, below_drewN h.below n, h.ge⟩
theorem PD.drew {w0 wr : World} {b i : Nat} {o : Nat → Option (Int × Nat)} (h : PD w0 b i o wr) : PD w0 b i o wr.drew := ⟨h.row, below_drewN h.below 1, h.ge⟩
theorem PD.set {w0 wr : World} {b i b' j : Nat} {o : Nat → Option (Int × Nat)} (h : PD w0 b i o wr) (hne : b ≠ b') (hge : w0.heap.size ≤ b') (v : Value) : PD w0 b i o (wr.setCell ⟨b', j, none⟩ v) := ⟨hp_set_ne h.row hne _, bl_set h.below hge _, h.ge⟩
theorem PD.set3 {w0 wr : World} {b i t : Nat} {o : Nat → Option (Int × Nat)} (h : PD w0 b i o wr) (ht : t < 64) (c : Int × Nat) :
    PD w0 b i (fun x => if x = t then some c else o x) (((wr.setCell ⟨b, t * 3, none⟩ (.bool true)).setCell ⟨b, t * 3 + 1, none⟩ (.int .i64 c.1)).setCell ⟨b, t * 3 + 2, none⟩ (.string (bstr i c.2))) :=
  ⟨by rw [← pRow_set i o t ht c]; exact hp_set (hp_set (hp_set h.row _) _) _, bl_set (bl_set (bl_set h.below h.ge _) h.ge _) h.ge _, h.ge⟩
theorem PD.other3 {w0 wr : World} {b i b' j : Nat} {o : Nat → Option (Int × Nat)} (h : PD w0 b i o wr) (hne : b ≠ b') (hge : w0.heap.size ≤ b') (v0 v1 v2 : Value) :
    PD w0 b i o (((wr.setCell ⟨b', j, none⟩ v0).setCell ⟨b', j + 1, none⟩ v1).setCell ⟨b', j + 2, none⟩ v2) := ((h.set hne hge _).set hne hge _).set hne hge _
theorem PD.calm {w0 wr w' : World} {b i : Nat} {o : Nat → Option (Int × Nat)} (h : PD w0 b i o wr) (hb : Below wr.heap.size wr w') : PD w0 b i o w' := ⟨below_keeps hb h.row (lt_of_obj h.row), bl_step h.below hb, h.ge⟩
theorem PD.cell {w0 wr : World} {b i : Nat} {o : Nat → Option (Int × Nat)} (h : PD w0 b i o wr) (t : Nat) (ht : t < 64) :
    wr.cell? ⟨b, t * 3, none⟩ = some (.bool (pT (o t))) ∧ wr.cell? ⟨b, t * 3 + 1, none⟩ = some (.int .i64 (pS (o t))) ∧ wr.cell? ⟨b, t * 3 + 2, none⟩ = some (.string (pB i (o t))) :=
  ⟨cell_of h.row (pRow_at i o t ht).1, cell_of h.row (pRow_at i o t ht).2.1, cell_of h.row (pRow_at i o t ht).2.2⟩
theorem PD.new (w0 wr : World) (i : Nat) (h : Below w0.heap.size w0 wr) : PD w0 wr.heap.size i (fun _ => none) (wr.alloc (.cells (pRow 0 fun _ => none) 67)) := ⟨by rw [← pRow_none i]; exact hp_new _ _, bl_alloc h _, h.size⟩
theorem bstr_zero : bstr 0 0 = ⟨#[]⟩ := by decide +kernel
theorem PD.first {w0 wr : World} {b : Nat} {X : List Int} {T : Nat} (h : PD w0 b 0 (fun _ => none) wr) :
    PD w0 b 0 (P X T 0) (((wr.setCell ⟨b, 0, none⟩ (.bool true)).setCell ⟨b, 1, none⟩ (.int .i64 0)).setCell ⟨b, 2, none⟩ (.string ⟨#[]⟩)) := by
  have := (h.set3 (t := 0) (by omega) (0, 0)).congr (o' := P X T 0) fun t ht => by simp only [P]
  rw [bstr_zero] at this
  exact this
end Go.Proofs.Ytbfgpjpfhbbdfaa
