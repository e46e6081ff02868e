/-
  A memory of coded words as it lies; the walks of its store, count and read. Conditions: no word has more than one bit inverted; the table of math/bits lies as it is laid.
-/
import Derived.Test.YtdebfniifijjoaaDoorM03
import Derived.BigQuiet
namespace Go.Proofs.YtdebfniifijjoaaDoor
open Go.RowKit Kit Go.Shelf
set_option linter.unusedVariables false
/-- Cells with coded words. -/
def ufn (n : Nat) (g : Nat → Nat) : Array Value := Array.ofFn (n := n) fun i => .int .u64 (g i.val)
theorem ufn_size (n : Nat) (g : Nat → Nat) : (ufn n g).size = n := by simp [ufn]
theorem ufn_get (n : Nat) (g : Nat → Nat) (i : Nat) (h : i < n) : (ufn n g)[i]? = some (.int .u64 (g i)) := by simp [ufn, h]
theorem ufn_none (n : Nat) (g : Nat → Nat) (i : Nat) (h : n ≤ i) : (ufn n g)[i]? = none := Array.getElem?_eq_none (by simp [ufn_size]; omega)
theorem ufn_congr {n : Nat} {g g' : Nat → Nat} (h : ∀ j, j < n → g j = g' j) : ufn n g = ufn n g' := by
  apply Array.ext_getElem?
  intro i
  rcases Nat.lt_or_ge i n with hi | hi
  · rw [ufn_get _ _ _ hi, ufn_get _ _ _ hi, h i hi]
  · rw [ufn_none _ _ _ hi, ufn_none _ _ _ hi]
theorem ufn_set (n : Nat) (g : Nat → Nat) (i : Nat) (v : Nat) : (ufn n g).setIfInBounds i (.int .u64 v) = ufn n (fun j => if j = i then v else g j) := by
  apply Array.ext_getElem?
  intro j
  rcases Nat.lt_or_ge j n with hj | hj
  · rw [Array.getElem?_setIfInBounds, ufn_get _ _ _ hj, ufn_size]
    by_cases e : i = j
    · subst e; rw [if_pos rfl, if_pos hj, ufn_get _ _ _ hj, if_pos rfl]
    · rw [if_neg e, ufn_get _ _ _ hj, if_neg (fun h => e h.symm)]
  · rw [ufn_none _ _ _ hj, Array.getElem?_setIfInBounds, ufn_size]
    by_cases e : i = j
    · subst e; rw [if_pos rfl, if_neg (by omega)]
    · rw [if_neg e, ufn_none _ _ _ hj]
/-- What a memory holds: its words, which of their bits are inverted, and its numbers. -/
structure MS where
  v : Nat → Nat
  u : Nat → Option Nat
  scrub : Nat
  fuse : Int
  blown : Bool
  lost : Int
/-- A coded word as it is stored. -/
def MS.cw (s : MS) (i : Nat) : Nat := match s.u i with | none => enc (s.v i) | some b => enc (s.v i) ^^^ 2 ^ b
structure MS.Ok (s : MS) : Prop where
  v : ∀ i, s.v i < 4294967296
  u : ∀ i b, s.u i = some b → b < 39
  fuse : -1 ≤ s.fuse ∧ s.fuse ≤ 1000
  scrub : s.scrub ≤ 100000
theorem MS.Ok.cw_lt {s : MS} (h : s.Ok) (i : Nat) : s.cw i < 549755813888 := by
  unfold MS.cw
  cases hu : s.u i with
  | none => exact enc_lt _
  | some b => exact (flip_syn (s.v i) b (h.u i b hu)).2.2.1
theorem MS.Ok.dec {s : MS} (h : s.Ok) (i : Nat) : decV (s.cw i) = (s.v i, if s.u i = none then 0 else 1) := by
  unfold MS.cw
  cases hu : s.u i with
  | none => rw [if_pos rfl]; exact decV_enc _ (h.v i)
  | some b => rw [if_neg (by simp)]; exact decV_flip _ b (h.v i) (h.u i b hu)
/-- A word is stored. -/
def MS.store (s : MS) (i x : Nat) : MS := if s.fuse = 0 then { s with blown := true } else { s with v := fun j => if j = i then x else s.v j, u := fun j => if j = i then none else s.u j, fuse := if 0 < s.fuse then s.fuse - 1 else s.fuse }
theorem MS.Ok.store {s : MS} (h : s.Ok) (i x : Nat) (hx : x < 4294967296) : (s.store i x).Ok := by
  unfold MS.store
  split
  · exact ⟨h.v, h.u, h.fuse, h.scrub⟩
  · refine ⟨fun j => ?_, fun j b hb => ?_, ?_, h.scrub⟩
    · show (if j = i then x else s.v j) < 4294967296
      split
      · exact hx
      · exact h.v j
    · replace hb : (if j = i then none else s.u j) = some b := hb
      split at hb
      · cases hb
      · exact h.u j b hb
    · show -1 ≤ (if 0 < s.fuse then s.fuse - 1 else s.fuse) ∧ (if 0 < s.fuse then s.fuse - 1 else s.fuse) ≤ 1000
      have := h.fuse; split <;> omega
theorem MS.cw_store {s : MS} (i x : Nat) (h : s.fuse ≠ 0) (j : Nat) : (s.store i x).cw j = if j = i then enc x else s.cw j := by
  unfold MS.store
  rw [if_neg h]
  unfold MS.cw
  by_cases e : j = i
  · simp [e]
  · simp [e]
/-- A word is read. -/
def MS.rd (s : MS) (i : Nat) : MS := if s.u i = none then s else s.store i (s.v i)
def mcells (bw n safe : Nat) (s : MS) (fx st : Int) : Array Value := #[.slice (some ⟨bw, 0, none⟩) n n, .int .i64 safe, .int .i64 s.scrub, .int .i64 s.fuse, .bool s.blown, .int .i64 fx, .int .i64 s.lost, .int .i64 st]
/-- A memory as it lies. -/
structure ME (w : World) (bm bw n safe : Nat) (s : MS) : Prop where
  obj : ∃ fx st : Int, w.heap[bm]? = some (.cells (mcells bw n safe s fx st) 56)
  words : w.heap[bw]? = some (.cells (ufn n s.cw) 80)
  ok : s.Ok
  ne : bm ≠ bw
  pos : 0 < bm ∧ 0 < bw
  size : n ≤ 16384
/-- Only the memory, and what is new, is written. -/
def MK (bm bw : Nat) : World → World → Prop := Mod (fun k => k = bm ∨ k = bw)
theorem Tab.mk {w w' : World} {bm bw : Nat} (h : Tab w) (hb : 0 < bm ∧ 0 < bw) (hm : MK bm bw w w') : Tab w' := fun j hj => by
  have h1 := h j hj
  have hlt := World.block_lt_of_cell? w _ h1
  rw [hm.cell hlt (fun e => by simp only at e; omega)]; exact h1
theorem ME.below {w w' : World} {bm bw n safe : Nat} {s : MS} (h : ME w bm bw n safe s) (hb : Below w.heap.size w w') : ME w' bm bw n safe s := by
  obtain ⟨fx, st, ho⟩ := h.obj
  exact ⟨⟨fx, st, below_keeps hb ho (lt_of_obj ho)⟩, below_keeps hb h.words (lt_of_obj h.words), h.ok, h.ne, h.pos, h.size⟩
theorem MK.refl (bm bw : Nat) (w : World) : MK bm bw w w := Mod.refl _ _
theorem MK.trans {bm bw : Nat} {a b c : World} (h : MK bm bw a b) (h' : MK bm bw b c) : MK bm bw a c := Mod.trans h h' (fun _ _ h => h)
theorem MK.below {bm bw : Nat} {a b : World} (h : Below a.heap.size a b) : MK bm bw a b := Mod.of_below h
theorem MK.setM {bm bw : Nat} {a b : World} (h : MK bm bw a b) (i : Nat) (v : Value) : MK bm bw a (b.setCell ⟨bm, i, none⟩ v) := h.setCell (Or.inl (Or.inl rfl)) v
theorem MK.setW {bm bw : Nat} {a b : World} (h : MK bm bw a b) (i : Nat) (v : Value) : MK bm bw a (b.setCell ⟨bw, i, none⟩ v) := h.setCell (Or.inl (Or.inr rfl)) v
theorem lit3c (a b c d e f g h : Value) (v : Value) : (#[a, b, c, d, e, f, g, h] : Array Value).setIfInBounds 3 v = #[a, b, c, v, e, f, g, h] ∧ (#[a, b, c, d, e, f, g, h] : Array Value).setIfInBounds 4 v = #[a, b, c, d, v, f, g, h] ∧
    (#[a, b, c, d, e, f, g, h] : Array Value).setIfInBounds 5 v = #[a, b, c, d, e, v, g, h] ∧ (#[a, b, c, d, e, f, g, h] : Array Value).setIfInBounds 7 v = #[a, b, c, d, e, f, g, v] ∧ (#[a, b, c, d, e, f, g, h] : Array Value).setIfInBounds 2 v = #[a, b, v, d, e, f, g, h] := ⟨rfl, rfl, rfl, rfl, rfl⟩
theorem ME.set_fuse {w : World} {bm bw n safe : Nat} {s : MS} (h : ME w bm bw n safe s) (f : Int) (hf : -1 ≤ f ∧ f ≤ 1000) : ME (w.setCell ⟨bm, 3, none⟩ (.int .i64 f)) bm bw n safe { s with fuse := f } := by
  obtain ⟨fx, st, ho⟩ := h.obj
  refine ⟨⟨fx, st, ?_⟩, hp_set_ne h.words (fun e => h.ne e.symm) _, ⟨h.ok.v, h.ok.u, hf, h.ok.scrub⟩, h.ne, h.pos, h.size⟩
  have := hp_set (i := 3) ho (.int .i64 f)
  unfold mcells at this
  rw [(lit3c _ _ _ _ _ _ _ _ _).1] at this
  exact this
theorem ME.set_stored {w : World} {bm bw n safe : Nat} {s : MS} (h : ME w bm bw n safe s) (k : Int) : ME (w.setCell ⟨bm, 7, none⟩ (.int .i64 k)) bm bw n safe s := by
  obtain ⟨fx, st, ho⟩ := h.obj
  refine ⟨⟨fx, k, ?_⟩, hp_set_ne h.words (fun e => h.ne e.symm) _, h.ok, h.ne, h.pos, h.size⟩
  have := hp_set (i := 7) ho (.int .i64 k)
  unfold mcells at this
  rw [(lit3c _ _ _ _ _ _ _ _ _).2.2.2.1] at this
  exact this
theorem ME.set_fixed {w : World} {bm bw n safe : Nat} {s : MS} (h : ME w bm bw n safe s) (k : Int) : ME (w.setCell ⟨bm, 5, none⟩ (.int .i64 k)) bm bw n safe s := by
  obtain ⟨fx, st, ho⟩ := h.obj
  refine ⟨⟨k, st, ?_⟩, hp_set_ne h.words (fun e => h.ne e.symm) _, h.ok, h.ne, h.pos, h.size⟩
  have := hp_set (i := 5) ho (.int .i64 k)
  unfold mcells at this
  rw [(lit3c _ _ _ _ _ _ _ _ _).2.2.1] at this
  exact this
theorem ME.set_word {w : World} {bm bw n safe : Nat} {s : MS} (h : ME w bm bw n safe s) (i x : Nat) (hx : x < 4294967296) :
    ME (w.setCell ⟨bw, i, none⟩ (.int .u64 (enc x))) bm bw n safe { s with v := fun j => if j = i then x else s.v j, u := fun j => if j = i then none else s.u j } := by
  obtain ⟨fx, st, ho⟩ := h.obj
  refine ⟨⟨fx, st, hp_set_ne ho h.ne _⟩, ?_, ⟨fun j => ?_, fun j b hb => ?_, h.ok.fuse, h.ok.scrub⟩, h.ne, h.pos, h.size⟩
  · have := hp_set (i := i) h.words (.int .u64 ((enc x : Nat) : Int))
    rw [ufn_set] at this
    rw [this]
    congr 2
    refine ufn_congr fun j hj => ?_
    unfold MS.cw
    by_cases e : j = i <;> simp [e]
  · show (if j = i then x else s.v j) < 4294967296
    split
    · exact hx
    · exact h.ok.v j
  · replace hb : (if j = i then none else s.u j) = some b := hb
    split at hb
    · cases hb
    · exact h.ok.u j b hb
def StoreQ (bm bw n safe : Nat) (s : MS) (w : World) (e : Ending) (w' : World) : Prop := e = .returned (.tuple #[]) ∧ ME w' bm bw n safe s ∧ MK bm bw w w'
theorem store_blown {w : World} {bm bw n safe : Nat} {s : MS} (h : ME w bm bw n safe s) (hf : s.fuse = 0) (i x : Nat) : ME (w.setCell ⟨bm, 4, none⟩ (.bool true)) bm bw n safe (s.store i x) := by
  obtain ⟨fx, st, ho⟩ := h.obj
  have e : s.store i x = { s with blown := true } := if_pos hf
  rw [e]
  refine ⟨⟨fx, st, ?_⟩, hp_set_ne h.words (fun e => h.ne e.symm) _, ⟨h.ok.v, h.ok.u, h.ok.fuse, h.ok.scrub⟩, h.ne, h.pos, h.size⟩
  have := hp_set (i := 4) ho (.bool true)
  unfold mcells at this
  rw [(lit3c _ _ _ _ _ _ _ _ _).2.1] at this
  exact this
set_option maxHeartbeats 1600000 in
theorem store_any {w : World} {bm bw n safe : Nat} {s : MS} (h : ME w bm bw n safe s) (hT : Tab w) (i x : Nat) (hi : i < n) (hx : x < 4294967296) :
    Calls Tryd.prog 46 #[.pointer (some ⟨bm, 0, none⟩), .int .i64 i, .int .u32 x] w fun e w' => StoreQ bm bw n safe (s.store i x) w e w' := by
  obtain ⟨fx, st, ho⟩ := h.obj
  have H := Lib.hid h
  have hbm : bm < w.heap.size := lt_of_obj ho
  have hbw : bw < w.heap.size := lt_of_obj h.words
  have c0 : w.cell? ⟨bm, 0, none⟩ = some (.slice (some ⟨bw, 0, none⟩) n n) := cell_of ho rfl
  have c3 : w.cell? ⟨bm, 3, none⟩ = some (.int .i64 s.fuse) := cell_of ho rfl
  have c4 : w.cell? ⟨bm, 4, none⟩ = some (.bool s.blown) := cell_of ho rfl
  have c7 : w.cell? ⟨bm, 7, none⟩ = some (.int .i64 st) := cell_of ho rfl
  have f0 : ∀ j, w.frozen? ⟨bm, j, none⟩ = false := fun j => free_of ho
  have d0 : w.cell? ⟨bw, i, none⟩ = some (.int .u64 (s.cw i)) := cell_of h.words (ufn_get _ _ _ hi)
  have f1 : ∀ j, w.frozen? ⟨bw, j, none⟩ = false := fun j => free_of h.words
  have hne := h.ne
  have hne' : bw ≠ bm := fun e => h.ne e.symm
  have hfu := h.ok.fuse
  have hn := h.size
  have HO := Lib.hid ho
  have EN := Lib.hid (enc_any x hx)
  have HT := Lib.hid hT
  by_cases hz : s.fuse = 0
  · have NX := Lib.hid (store_blown h hz i x)
    rw [hz] at c3
    clear h ho hz hfu
    go_enter Tryd.func46, Tryd.ntmps46
    go_wp2_with (fail)
    go_end0
    exact ⟨rfl, NX.out, (MK.refl _ _ _).setM 4 _⟩
  · obtain ⟨fu, hfe⟩ : ∃ fu, s.fuse = fu := ⟨_, rfl⟩
    rw [hfe] at c3 hfu
    have g0 : (fu == 0) = false := by rw [← hfe]; simpa using hz
    have FE := Lib.hid hfe
    have HZ := Lib.hid hz
    generalize s.cw i = y at d0
    clear h ho hfe hT hz
    by_cases hp : 0 < fu
    · have dp : decide (0 < fu) = true := by simpa using hp
      go_enter Tryd.func46, Tryd.ntmps46
      go_wp2_with (fail)
      refine region_calm_tail 8 (by kernel_rfl) (by kernel_rfl) ?_
      simp only [List.take_succ_cons, List.take_zero, List.drop_succ_cons, List.drop_zero]
      repeat (quiet_step ((go_at_call 66; exact calm_of (EN.out _ ((HT.out.mk H.out.pos ((MK.refl bm bw w).setM 3 _)).below (below_ext _ _))))))
      refine wpQuiet_nil ?_; intro _ hw'; obtain ⟨xq, hw''⟩ := hw'; subst hw''
      go_wp2_with (fail)
      go_end0
      have M1 := H.out.set_fuse (fu - 1) (by omega)
      have M2 := ((M1.below (below_ext _ xq)).set_word i x hx).set_stored (wrap64 (st + 1))
      have es : s.store i x = { v := fun j => if j = i then x else s.v j, u := fun j => if j = i then none else s.u j, scrub := s.scrub, fuse := fu - 1, blown := s.blown, lost := s.lost } := by
        unfold MS.store
        rw [if_neg HZ.out, FE.out, if_pos hp]
      refine ⟨rfl, by rw [es]; exact M2, ((((MK.refl bm bw w).setM 3 _).trans (MK.below (below_ext _ _))).setW i _).setM 7 _⟩
    · have dp : decide (0 < fu) = false := by simpa using hp
      go_enter Tryd.func46, Tryd.ntmps46
      go_wp2_with (fail)
      refine region_calm_tail 8 (by kernel_rfl) (by kernel_rfl) ?_
      simp only [List.take_succ_cons, List.take_zero, List.drop_succ_cons, List.drop_zero]
      repeat (quiet_step ((go_at_call 66; exact calm_of (EN.out _ (HT.out.below (below_ext _ _))))))
      refine wpQuiet_nil ?_; intro _ hw'; obtain ⟨xq, hw''⟩ := hw'; subst hw''
      go_wp2_with (fail)
      go_end0
      have M2 := ((H.out.below (below_ext _ xq)).set_word i x hx).set_stored (wrap64 (st + 1))
      have es : s.store i x = { v := fun j => if j = i then x else s.v j, u := fun j => if j = i then none else s.u j, scrub := s.scrub, fuse := s.fuse, blown := s.blown, lost := s.lost } := by
        unfold MS.store
        rw [if_neg HZ.out, if_neg (by rw [FE.out]; omega)]
      refine ⟨rfl, by rw [es]; exact M2, (((MK.refl bm bw w).trans (MK.below (below_ext _ _))).setW i _).setM 7 _⟩
end Go.Proofs.YtdebfniifijjoaaDoor
/-
  The walks of a memory's count, read, check, Write and Read. Conditions: as in Mem; indices of its words.
-/
namespace Go.Proofs.YtdebfniifijjoaaDoor
open Go.RowKit Kit Go.Shelf
set_option linter.unusedVariables false
set_option maxHeartbeats 800000 in
theorem count_any {w : World} {bm bw n safe : Nat} {s : MS} (h : ME w bm bw n safe s) (k : Nat) (hk : k = 0 ∨ k = 1) :
    Calls Tryd.prog 26 #[.pointer (some ⟨bm, 0, none⟩), .int .i64 k] w fun e w' => StoreQ bm bw n safe s w e w' := by
  obtain ⟨fx, st, ho⟩ := h.obj
  have H := Lib.hid h
  have c5 : w.cell? ⟨bm, 5, none⟩ = some (.int .i64 fx) := cell_of ho rfl
  have f0 : ∀ j, w.frozen? ⟨bm, j, none⟩ = false := fun j => free_of ho
  clear h ho
  rcases hk with rfl | rfl
  · go_enter Tryd.func26, Tryd.ntmps26
    go_wp2_with (fail)
    go_end0
    exact ⟨rfl, H.out, MK.refl _ _ _⟩
  · go_enter Tryd.func26, Tryd.ntmps26
    go_wp2_with (fail)
    go_end0
    exact ⟨rfl, H.out.set_fixed _, (MK.refl _ _ _).setM 5 _⟩
def ReadQ (bm bw n safe : Nat) (s : MS) (x k : Nat) (w : World) (e : Ending) (w' : World) : Prop := e = .returned (.tuple #[.int .u32 x, .int .i64 k]) ∧ ME w' bm bw n safe s ∧ MK bm bw w w'
def MS.kind (s : MS) (i : Nat) : Nat := if s.u i = none then 0 else 1
set_option maxHeartbeats 1600000 in
theorem read_any {w : World} {bm bw n safe : Nat} {s : MS} (h : ME w bm bw n safe s) (hT : Tab w) (i : Nat) (hi : i < n) :
    Calls Tryd.prog 25 #[.pointer (some ⟨bm, 0, none⟩), .int .i64 i, .func (.func 26) #[.pointer (some ⟨bm, 0, none⟩)] #[]] w fun e w' => ReadQ bm bw n safe (s.rd i) (s.v i) (s.kind i) w e w' := by
  obtain ⟨fx, st, ho⟩ := h.obj
  have H := Lib.hid h
  have c0 : w.cell? ⟨bm, 0, none⟩ = some (.slice (some ⟨bw, 0, none⟩) n n) := cell_of ho rfl
  have d0 : w.cell? ⟨bw, i, none⟩ = some (.int .u64 (s.cw i)) := cell_of h.words (ufn_get _ _ _ hi)
  have hn := h.size
  have hv := h.ok.v i
  have hd := h.ok.dec i
  have DE := Lib.hid (fun w hT => dec_any (s.cw i) (h.ok.cw_lt i) w hT)
  rw [hd] at DE
  have CO := Lib.hid (fun (w : World) (h : ME w bm bw n safe s) => count_any h (s.kind i) (by unfold MS.kind; split <;> simp))
  have ST := Lib.hid (fun (w : World) (h : ME w bm bw n safe s) (hT : Tab w) => store_any h hT i (s.v i) hi hv)
  have HT := Lib.hid hT
  have POS := Lib.hid h.pos
  have KD : Hid (s.kind i = if s.u i = none then 0 else 1) := Lib.hid rfl
  have RD : Hid (s.rd i = if s.u i = none then s else s.store i (s.v i)) := Lib.hid rfl
  generalize s.cw i = y at *
  clear h ho hT hd
  cases hu : s.u i with
  | none =>
    rw [hu, if_pos rfl] at KD RD
    rw [hu, if_pos rfl] at DE
    rw [KD.out] at CO ⊢
    rw [RD.out]
    clear hu hv
    go_enter Tryd.func25, Tryd.ntmps25
    go_wp2_with (fail)
    refine (DE.out _ HT.out).mono ?_
    rintro e w1 ⟨rfl, b1⟩
    have M1 := Lib.hid (H.out.below b1)
    have B1 := Lib.hid b1
    clear b1
    go_wp2_with (fail)
    refine (CO.out _ M1.out).mono ?_
    rintro e w2 ⟨rfl, m2, k2⟩
    have M2 := Lib.hid m2; have K2 := Lib.hid k2
    clear m2 k2
    go_wp2_with (fail)
    go_ret2
    exact ⟨rfl, M2.out, (MK.below B1.out).trans K2.out⟩
  | some b =>
    rw [hu, if_neg (by simp)] at KD RD
    rw [hu, if_neg (by simp)] at DE
    rw [KD.out] at CO ⊢
    rw [RD.out]
    clear hu hv
    go_enter Tryd.func25, Tryd.ntmps25
    go_wp2_with (fail)
    refine (DE.out _ HT.out).mono ?_
    rintro e w1 ⟨rfl, b1⟩
    have M1 := Lib.hid (H.out.below b1)
    have B1 := Lib.hid b1
    clear b1
    go_wp2_with (fail)
    refine (CO.out _ M1.out).mono ?_
    rintro e w2 ⟨rfl, m2, k2⟩
    have M2 := Lib.hid m2; have K2 := Lib.hid k2
    clear m2 k2
    go_wp2_with (fail)
    refine (ST.out _ M2.out ((HT.out.below B1.out).mk POS.out K2.out)).mono ?_
    rintro e w3 ⟨rfl, m3, k3⟩
    have M3 := Lib.hid m3; have K3 := Lib.hid k3
    clear m3 k3
    go_wp2_with (fail)
    go_ret2
    exact ⟨rfl, M3.out, (MK.below B1.out).trans (K2.out.trans K3.out)⟩
/-- Why an index cannot be used. -/
def chkE (n : Nat) (i : Int) : Int := if i < 0 ∨ (n : Int) ≤ i then 2 else 0
set_option maxHeartbeats 800000 in
theorem check_any {w : World} {bm bw n safe : Nat} {s : MS} (h : ME w bm bw n safe s) (i : Int) :
    Calls Tryd.prog 24 #[.pointer (some ⟨bm, 0, none⟩), .int .i64 i] w fun e w' => e = .returned (.int .i64 (chkE n i)) ∧ w = w' := by
  obtain ⟨fx, st, ho⟩ := h.obj
  have c0 : w.cell? ⟨bm, 0, none⟩ = some (.slice (some ⟨bw, 0, none⟩) n n) := cell_of ho rfl
  have hnil : ∀ W, (binOp .eql 52 (.slice (some ⟨bw, 0, none⟩) n n) (.slice none 0 0)).run Tryd.prog W = .ok (.bool false) W := fun W => Lib.run_eql_slice_nil W 52 80 (some ⟨bw, 0, none⟩) n n 0 0 Tryd.underlying52
  have CE : Hid (chkE n i = if i < 0 ∨ (n : Int) ≤ i then 2 else 0) := Lib.hid rfl
  have hn := h.size
  clear h ho
  generalize chkE n i = r at CE
  by_cases h0 : i < 0
  · have d0 : decide (i < 0) = true := by simpa using h0
    have er : r = 2 := by rw [CE.out, if_pos (Or.inl h0)]
    subst er
    clear CE h0
    go_enter Tryd.func24, Tryd.ntmps24
    go_wp2_with (fail)
    go_ret
    exact ⟨rfl, rfl⟩
  · have d0 : decide (i < 0) = false := by simpa using h0
    by_cases h1 : (n : Int) ≤ i
    · have d1 : decide ((n : Int) ≤ i) = true := by simpa using h1
      have er : r = 2 := by rw [CE.out, if_pos (Or.inr h1)]
      subst er
      clear CE h0 h1
      go_enter Tryd.func24, Tryd.ntmps24
      go_wp2_with (fail)
      go_ret
      exact ⟨rfl, rfl⟩
    · have d1 : decide ((n : Int) ≤ i) = false := by simpa using h1
      have er : r = 0 := by rw [CE.out, if_neg (by omega)]
      subst er
      clear CE h0 h1
      go_enter Tryd.func24, Tryd.ntmps24
      go_wp2_with (fail)
      go_ret
      exact ⟨rfl, rfl⟩
end Go.Proofs.YtdebfniifijjoaaDoor
/-
  The walks of a memory's Write, Read, Fuse, Upset, Size and New. Conditions: as in Mem; indices of its words.
-/
namespace Go.Proofs.YtdebfniifijjoaaDoor
open Go.RowKit Kit Go.Shelf
set_option linter.unusedVariables false
theorem chk_in {n : Nat} {i : Nat} (h : i < n) : chkE n (i : Int) = 0 := if_neg (by omega)
theorem ME.drewN {w : World} {bm bw n safe : Nat} {s : MS} (h : ME w bm bw n safe s) (q : Nat) : ME (w.drewN q) bm bw n safe s := by
  obtain ⟨fx, st, ho⟩ := h.obj
  exact ⟨⟨fx, st, hp_drewN ho q⟩, hp_drewN h.words q, h.ok, h.ne, h.pos, h.size⟩
def OkQ (bm bw n safe : Nat) (s : MS) (w : World) (e : Ending) (w' : World) : Prop := e = .returned (.int .i64 0) ∧ ME w' bm bw n safe s ∧ MK bm bw w w'
set_option maxHeartbeats 800000 in
theorem write_any {w : World} {bm bw n safe : Nat} {s : MS} (h : ME w bm bw n safe s) (hT : Tab w) (i x : Nat) (hi : i < n) (hx : x < 4294967296) :
    Calls Tryd.prog 28 #[.pointer (some ⟨bm, 0, none⟩), .int .i64 i, .int .u32 x] w fun e w' => OkQ bm bw n safe (s.store i x) w e w' := by
  have CK := Lib.hid (check_any h (i : Int))
  rw [chk_in hi] at CK
  have ST := Lib.hid (store_any h hT i x hi hx)
  clear h hT
  go_enter Tryd.func28, Tryd.ntmps28
  go_wp2_with (fail)
  refine CK.out.mono ?_
  rintro e _ ⟨rfl, rfl⟩
  go_wp2_with (fail)
  refine ST.out.mono ?_
  rintro e w3 ⟨rfl, m3, k3⟩
  have M3 := Lib.hid m3; have K3 := Lib.hid k3
  clear m3 k3 ST
  go_wp2_with (fail)
  go_ret
  exact ⟨rfl, M3.out, K3.out⟩
def Read3Q (bm bw n safe : Nat) (s : MS) (x k : Nat) (w : World) (e : Ending) (w' : World) : Prop := e = .returned (.tuple #[.int .u32 x, .int .i64 k, .int .i64 0]) ∧ ME w' bm bw n safe s ∧ MK bm bw w w'
set_option maxHeartbeats 800000 in
theorem read3_any {w : World} {bm bw n safe : Nat} {s : MS} (h : ME w bm bw n safe s) (hT : Tab w) (i : Nat) (hi : i < n) :
    Calls Tryd.prog 12 #[.pointer (some ⟨bm, 0, none⟩), .int .i64 i] w fun e w' => Read3Q bm bw n safe (s.rd i) (s.v i) (s.kind i) w e w' := by
  have CK := Lib.hid (check_any h (i : Int))
  rw [chk_in hi] at CK
  have RD := Lib.hid (read_any h hT i hi)
  have hk : s.kind i ≤ 1 := by unfold MS.kind; split <;> omega
  generalize s.kind i = k at *
  have dk : ((k : Int) == 2) = false := by simp; omega
  have dk' : (k == 2) = false := by simp; omega
  clear h hT
  go_enter Tryd.func12, Tryd.ntmps12
  go_wp2_with (fail)
  refine CK.out.mono ?_
  rintro e _ ⟨rfl, rfl⟩
  go_wp2_with (fail)
  refine RD.out.mono ?_
  rintro e w3 ⟨rfl, m3, k3⟩
  have M3 := Lib.hid m3; have K3 := Lib.hid k3
  clear m3 k3 RD
  go_wp2_with (fail)
  go_ret3
  exact ⟨rfl, M3.out, K3.out⟩
theorem ME.set_blown {w : World} {bm bw n safe : Nat} {s : MS} (h : ME w bm bw n safe s) (b : Bool) : ME (w.setCell ⟨bm, 4, none⟩ (.bool b)) bm bw n safe { s with blown := b } := by
  obtain ⟨fx, st, ho⟩ := h.obj
  refine ⟨⟨fx, st, ?_⟩, hp_set_ne h.words (fun e => h.ne e.symm) _, ⟨h.ok.v, h.ok.u, h.ok.fuse, h.ok.scrub⟩, h.ne, h.pos, h.size⟩
  have := hp_set (i := 4) ho (.bool b)
  unfold mcells at this
  rw [(lit3c _ _ _ _ _ _ _ _ _).2.1] at this
  exact this
set_option maxHeartbeats 800000 in
theorem fuse_any {w : World} {bm bw n safe : Nat} {s : MS} (h : ME w bm bw n safe s) (hn : 0 < n) (f : Int) (hf : -1 ≤ f ∧ f ≤ 1000) :
    Calls Tryd.prog 32 #[.pointer (some ⟨bm, 0, none⟩), .int .i64 f] w fun e w' => OkQ bm bw n safe { s with fuse := f, blown := false } w e w' := by
  obtain ⟨fx, st, ho⟩ := h.obj
  have CK := Lib.hid (check_any h ((0 : Nat) : Int))
  rw [chk_in hn] at CK
  have c3 : w.cell? ⟨bm, 3, none⟩ = some (.int .i64 s.fuse) := cell_of ho rfl
  have c4 : w.cell? ⟨bm, 4, none⟩ = some (.bool s.blown) := cell_of ho rfl
  have f0 : ∀ j, w.frozen? ⟨bm, j, none⟩ = false := fun j => free_of ho
  have NX := Lib.hid ((h.set_fuse f hf).set_blown false)
  have df : decide (f < -1) = false := by simp; omega
  clear h ho
  go_enter Tryd.func32, Tryd.ntmps32
  go_wp2_with (fail)
  refine CK.out.mono ?_
  rintro e _ ⟨rfl, rfl⟩
  go_wp2_with (fail)
  go_ret
  exact ⟨rfl, NX.out, ((MK.refl _ _ _).setM 3 _).setM 4 _⟩
set_option maxHeartbeats 800000 in
theorem size_any {w : World} {bm bw n safe : Nat} {s : MS} (h : ME w bm bw n safe s) :
    Calls Tryd.prog 34 #[.pointer (some ⟨bm, 0, none⟩)] w fun e w' => e = .returned (.tuple #[.int .i64 n, .int .i64 safe]) ∧ ∃ q, w' = w.drewN q := by
  obtain ⟨fx, st, ho⟩ := h.obj
  have c0 : w.cell? ⟨bm, 0, none⟩ = some (.slice (some ⟨bw, 0, none⟩) n n) := cell_of ho rfl
  have c1 : w.cell? ⟨bm, 1, none⟩ = some (.int .i64 safe) := cell_of ho rfl
  have hn := h.size
  clear h ho
  go_enter Tryd.func34, Tryd.ntmps34
  go_wp2_with (fail)
  go_quiet (fail)
  go_wp2_with (fail)
  go_ret2
  exact ⟨rfl, _, rfl⟩
/-- A bit of a word is inverted. -/
def MS.flip (s : MS) (i b : Nat) : MS := { s with u := fun j => if j = i then some b else s.u j }
theorem ME.set_flip {w : World} {bm bw n safe : Nat} {s : MS} (h : ME w bm bw n safe s) (i b : Nat) (hb : b < 39) (hu : s.u i = none) :
    ME (w.setCell ⟨bw, i, none⟩ (.int .u64 ((s.cw i ^^^ 2 ^ b : Nat) : Int))) bm bw n safe (s.flip i b) := by
  obtain ⟨fx, st, ho⟩ := h.obj
  refine ⟨⟨fx, st, hp_set_ne ho h.ne _⟩, ?_, ⟨h.ok.v, fun j c hc => ?_, h.ok.fuse, h.ok.scrub⟩, h.ne, h.pos, h.size⟩
  · have := hp_set (i := i) h.words (.int .u64 ((s.cw i ^^^ 2 ^ b : Nat) : Int))
    rw [ufn_set] at this
    rw [this]
    congr 2
    refine ufn_congr fun j hj => ?_
    unfold MS.cw MS.flip
    by_cases e : j = i
    · subst e; simp [hu]
    · simp [e]
  · replace hc : (if j = i then some b else s.u j) = some c := hc
    split at hc
    · simp only [Option.some.injEq] at hc; omega
    · exact h.ok.u j c hc
set_option maxRecDepth 100000 in
set_option maxHeartbeats 1600000 in
theorem upset_any {w : World} {bm bw n safe : Nat} {s : MS} (h : ME w bm bw n safe s) (i b : Nat) (hi : i < n) (hb : b < 39) (hu : s.u i = none) :
    Calls Tryd.prog 16 #[.pointer (some ⟨bm, 0, none⟩), .int .i64 i, .int .i64 b] w fun e w' => OkQ bm bw n safe (s.flip i b) w e w' := by
  obtain ⟨fx, st, ho⟩ := h.obj
  have CK := Lib.hid (check_any h (i : Int))
  rw [chk_in hi] at CK
  have c0 : w.cell? ⟨bm, 0, none⟩ = some (.slice (some ⟨bw, 0, none⟩) n n) := cell_of ho rfl
  have d0 : w.cell? ⟨bw, i, none⟩ = some (.int .u64 (s.cw i)) := cell_of h.words (ufn_get _ _ _ hi)
  have f1 : ∀ j, w.frozen? ⟨bw, j, none⟩ = false := fun j => free_of h.words
  have hn := h.size
  have NX := Lib.hid (h.set_flip i b hb hu)
  have XR : bits BinOp.xor IntKind.u64 ((s.cw i : Nat) : Int) (IntKind.u64.wrap ((2 : Int) ^ b)) = ((s.cw i ^^^ 2 ^ b : Nat) : Int) := by
    have hpow : 2 ^ b < 549755813888 := Nat.lt_of_lt_of_le (Nat.pow_lt_pow_right (by omega) hb) (by decide)
    have hcw := h.ok.cw_lt i
    have : IntKind.u64.wrap ((2 : Int) ^ b) = ((2 ^ b : Nat) : Int) := by
      rw [show (2 : Int) ^ b = ((2 ^ b : Nat) : Int) by simp, IntKind.wrap_u64]
      generalize 2 ^ b = y at hpow
      omega
    rw [this, bits_xor_u64_nat _ _ (by omega) (by omega)]
  have db : decide ((39 : Int) ≤ (b : Int)) = false := by simp; omega
  generalize s.cw i ^^^ 2 ^ b = y' at *
  generalize s.cw i = y at *
  have hne := h.ne
  have hne' : bw ≠ bm := fun e => h.ne e.symm
  clear h ho hu
  go_enter Tryd.func16, Tryd.ntmps16
  go_wp2_with (fail)
  refine CK.out.mono ?_
  rintro e _ ⟨rfl, rfl⟩
  go_wp2_with (fail)
  refine region_still_tail 11 (by kernel_rfl) (by kernel_rfl) ?_
  simp only [List.take_succ_cons, List.take_zero, List.drop_succ_cons, List.drop_zero]
  (repeat still_step)
  refine wpStill_nil ?_
  go_wp2_with (fail)
  go_ret
  exact ⟨rfl, NX.out.drewN 1, ((MK.refl _ _ _).setW i _).drewN 1⟩
end Go.Proofs.YtdebfniifijjoaaDoor
