/-
  More plain lemmas of this seat: how a walk writes worlds behind draws, cells behind a call, and small steps on what a call may have turned. Conditions: none.
-/
import Derived.Test.YtbfgpjpfhbbdfaaKit
import Derived.Deep.RegionHeld3
import Derived.Deep.RegionWith
import Derived.BigRegion
import Derived.LoopTactic
import Derived.Deep.DeepCutAuto
import Derived.Deep.DeepFit
namespace Go.Proofs.Ytbfgpjpfhbbdfaa.Kit
open Go.RowKit
@[go_sem] theorem setCell_drewN (w : World) (n : Nat) (a : Addr) (v : Value) : (w.drewN n).setCell a v = (w.setCell a v).drewN n := rfl
@[go_sem] theorem alloc_drewN (w : World) (n : Nat) (o : Obj) : (w.drewN n).alloc o = (w.alloc o).drewN n := rfl
theorem hp_drewN {w : World} {b : Nat} {o : Obj} (h : w.heap[b]? = some o) (n : Nat) : (w.drewN n).heap[b]? = some o := h
theorem below_drewN {B : Nat} {a w : World} (h : Below B a w) (n : Nat) : Below B a (w.drewN n) := h.trans ⟨rfl, rfl, rfl, Nat.le_refl _, fun _ _ => rfl⟩
theorem mod_at {b i : Nat} {a w : World} (h : Mod (fun x => x = b) a w) (v : Value) : Mod (fun x => x = b) a (w.setCell ⟨b, i, none⟩ v) := h.setCell (Or.inl rfl) v
theorem mod_new {S : Nat → Prop} {k i : Nat} {a w : World} (h : Mod S a w) (hk : a.heap.size ≤ k) (v : Value) : Mod S a (w.setCell ⟨k, i, none⟩ v) := h.setCell (Or.inr hk) v
/-- Old cells and marks behind a call that makes new memory alone. -/
theorem bcell {W w1 : World} {B : Nat} (hb : Below B W w1) : (∀ b o, b < B → w1.cell? ⟨b, o, none⟩ = W.cell? ⟨b, o, none⟩) ∧ (∀ b o, b < B → w1.frozen? ⟨b, o, none⟩ = W.frozen? ⟨b, o, none⟩) :=
  ⟨fun b o h => hb.cell (p := ⟨b, o, none⟩) h, fun b o h => hb.frozen (p := ⟨b, o, none⟩) h⟩
theorem Mod.cell {S : Nat → Prop} {W w1 : World} (h : Mod S W w1) {b o : Nat} (hb : b < W.heap.size) (hs : ¬ S b) : w1.cell? ⟨b, o, none⟩ = W.cell? ⟨b, o, none⟩ := World.cell?_of_block (w := W) (h.block b hb hs)
theorem Mod.frozen {S : Nat → Prop} {W w1 : World} (h : Mod S W w1) {b o : Nat} (hb : b < W.heap.size) (hs : ¬ S b) : w1.frozen? ⟨b, o, none⟩ = W.frozen? ⟨b, o, none⟩ := World.frozen?_of_block (w := W) (h.block b hb hs)
theorem mcell {W w1 : World} {k : Nat} (hb : Mod (fun x => x = k) W w1) : (∀ b o, b < W.heap.size → b ≠ k → w1.cell? ⟨b, o, none⟩ = W.cell? ⟨b, o, none⟩) ∧ (∀ b o, b < W.heap.size → b ≠ k → w1.frozen? ⟨b, o, none⟩ = W.frozen? ⟨b, o, none⟩) :=
  ⟨fun _ _ h hk => hb.cell h hk, fun _ _ h hk => hb.frozen h hk⟩
/-- A block that a call keeps which makes new memory alone. -/
theorem below_keeps {W w1 : World} {B k : Nat} {o : Obj} (h : Below B W w1) (hk : W.heap[k]? = some o) (hB : k < B) : w1.heap[k]? = some o := by rw [h.block k hB]; exact hk
theorem below_step {B : Nat} {a b c : World} (h : Below B a b) (h' : Below b.heap.size b c) (hB : B ≤ b.heap.size) : Below B a c := h.trans (h'.mono hB)
theorem below_mod {B k : Nat} {a b c : World} (h : Below B a b) (h' : Mod (fun x => x = k) b c) (hB : B ≤ b.heap.size) (hk : B ≤ k) : Below B a c :=
  h.trans (h'.below hB (fun _ e => e ▸ hk))
theorem quiet_left {P : Program} {f : FuncId} {args : Array Value} {w : World} {n : Nat} {v : Value}
    (h : Calls P f args (w.drewN n) fun e w' => e = .returned v ∧ w.drewN n = w') : Calls P f args (w.drewN n) fun e w'' => e = .returned v ∧ ∃ m, w'' = w.drewN m :=
  h.mono fun _ _ ⟨he, hm⟩ => ⟨he, n, hm.symm⟩
theorem quiet_add_left {P : Program} {f : FuncId} {args : Array Value} {w : World} {a n : Nat} {v : Value}
    (h : Calls P f args (w.drewN (a + n)) fun e w' => e = .returned v ∧ w.drewN (a + n) = w') :
    Calls P f args (w.drewN (a + n)) fun e w'' => e = .returned v ∧ ∃ m, w'' = w.drewN (a + m) :=
  h.mono fun _ _ ⟨he, hm⟩ => ⟨he, n, hm.symm⟩
@[go_sem] theorem lt_chain {a n : Nat} (h : a < n) : (a < n + 1) ↔ True := iff_true_intro (by omega)
@[go_sem] theorem le_chain {a n : Nat} (h : a < n) : (a ≤ n) ↔ True := iff_true_intro (by omega)
@[go_sem] theorem ne_chain {a n : Nat} (h : a < n) : (a = n) ↔ False := iff_false_intro (by omega)
/-- What the walk is told of an old block's number behind some new blocks. -/
theorem ladder {b n : Nat} (h : b < n) : (b < n + 1 ∧ b ≤ n ∧ b ≠ n) ∧ (b < n + 1 + 1 ∧ b ≤ n + 1 ∧ b ≠ n + 1) ∧ (b < n + 1 + 1 + 1 ∧ b ≤ n + 1 + 1 ∧ b ≠ n + 1 + 1) ∧ (b < n + 1 + 1 + 1 + 1 ∧ b ≤ n + 1 + 1 + 1 ∧ b ≠ n + 1 + 1 + 1) := by omega
theorem bl_step {a b c : World} (g : Below a.heap.size a b) (h : Below b.heap.size b c) : Below a.heap.size a c := below_step g h g.size
theorem bl_go {a b c : World} {B : Nat} (g : Below a.heap.size a b) (h : Below B b c) (hB : a.heap.size ≤ B) : Below a.heap.size a c := g.trans (h.mono hB)
theorem bl_mod {a b c : World} {k : Nat} (g : Below a.heap.size a b) (h : Mod (fun x => x = k) b c) (hk : a.heap.size ≤ k) : Below a.heap.size a c := below_mod g h g.size hk
theorem bl_alloc {a b : World} (g : Below a.heap.size a b) (o : Obj) : Below a.heap.size a (b.alloc o) := g.alloc g.size o
theorem bl_set {a b : World} (g : Below a.heap.size a b) {k i : Nat} (hk : a.heap.size ≤ k) (v : Value) : Below a.heap.size a (b.setCell ⟨k, i, none⟩ v) := g.setCell hk v
/-- New blocks, and how much has been drawn. -/
structure Ext where
  objs : Array Obj
  drawn : Nat
instance : Nonempty Ext := ⟨⟨#[], 0⟩⟩
/-- w with new blocks behind it, and whatever has been drawn. -/
def ext (w : World) (x : Ext) : World := { w with heap := w.heap ++ x.objs, drawn := x.drawn }
theorem ext_of_below {w w' : World} (h : Below w.heap.size w w') : ∃ x, w' = ext w x := by
  obtain ⟨heap, tape, drawn, os, output⟩ := w
  obtain ⟨heap', tape', drawn', os', output'⟩ := w'
  obtain ⟨h1, h2, h3, h4, h5⟩ := h
  simp only at h1 h2 h3 h4 h5
  subst h1 h2 h3
  refine ⟨⟨heap'.extract heap.size heap'.size, drawn'⟩, ?_⟩
  simp only [ext, World.mk.injEq, and_true]
  apply Array.ext_getElem?
  intro i
  rcases Nat.lt_or_ge i heap.size with h | h
  · rw [Array.getElem?_append_left h]; exact h5 i h
  · rw [Array.getElem?_append_right h, Array.getElem?_extract]
    split
    · congr 1; omega
    · rw [Array.getElem?_eq_none]; omega
theorem below_ext (w : World) (x : Ext) : Below w.heap.size w (ext w x) :=
  ⟨rfl, rfl, rfl, by simp [ext], fun k hk => by show (w.heap ++ x.objs)[k]? = _; rw [Array.getElem?_append_left hk]⟩
theorem below_of_ext {w w' : World} (h : ∃ x, w' = ext w x) : Below w.heap.size w w' := by obtain ⟨x, rfl⟩ := h; exact below_ext w x
@[go_sem] theorem cell?_ext (w : World) (x : Ext) (b i : Nat) (hb : b < w.heap.size) : (ext w x).cell? ⟨b, i, none⟩ = w.cell? ⟨b, i, none⟩ := (below_ext w x).cell (p := ⟨b, i, none⟩) hb
@[go_sem] theorem frozen?_ext (w : World) (x : Ext) (b i : Nat) (hb : b < w.heap.size) : (ext w x).frozen? ⟨b, i, none⟩ = w.frozen? ⟨b, i, none⟩ := (below_ext w x).frozen (p := ⟨b, i, none⟩) hb
theorem hp_ext {w : World} {b : Nat} {o : Obj} (h : w.heap[b]? = some o) (x : Ext) : (ext w x).heap[b]? = some o := below_keeps (below_ext w x) h (lt_of_obj h)
theorem region_calm {P : Program} {id : Nat} {Q : Exit → Act → World → Prop} {a : Act} {w : World} {l : List Oper} (hm : P.follows .mixedOrders = true) (hB : Region.lexB .any l.toArray = true)
    (h : wpQuiet P l.toArray (fun w' => ∃ x, w' = ext w x) (fun a' => ∀ w', (∃ x, w' = ext w x) → Q .normal a' w') l a) : (Code.region id l.toArray true).wp P Q a w :=
  wp_region_quiet (C := fun w' => ∃ x, w' = ext w x) hm hB ⟨⟨#[], w.drawn + 1⟩, by simp [ext]⟩ (by simpa using h)
theorem calm_of {P : Program} {f : FuncId} {args : Array Value} {w : World} {x : Ext} {v : Value}
    (h : Calls P f args (ext w x) fun e w' => e = .returned v ∧ Below (ext w x).heap.size (ext w x) w') : Calls P f args (ext w x) fun e w'' => e = .returned v ∧ ∃ y, w'' = ext w y :=
  h.mono fun _ _ ⟨he, hb⟩ => ⟨he, ext_of_below ((below_ext w x).trans (hb.mono (below_ext w x).size))⟩
theorem calm_same {P : Program} {f : FuncId} {args : Array Value} {w : World} {x : Ext} {v : Value}
    (h : Calls P f args (ext w x) fun e w' => e = .returned v ∧ ext w x = w') : Calls P f args (ext w x) fun e w'' => e = .returned v ∧ ∃ y, w'' = ext w y :=
  h.mono fun _ _ ⟨he, hb⟩ => ⟨he, x, hb.symm⟩
end Go.Proofs.Ytbfgpjpfhbbdfaa.Kit
