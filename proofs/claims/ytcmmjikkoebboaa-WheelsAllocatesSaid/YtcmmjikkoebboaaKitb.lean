/-
  More plain lemmas of this seat: how a walk writes worlds behind draws, cells behind a call, and small steps on what a call may have turned. Conditions: none.
-/
import Derived.Test.YtcmmjikkoebboaaKit
import Derived.Deep.RegionHeld3
import Derived.Deep.RegionWith
import Derived.BigRegion
import Derived.LoopTactic
import Derived.Deep.DeepCutAuto
import Derived.Deep.DeepFit
namespace Go.Proofs.Ytcmmjikkoebboaa.Kit
open Go.RowKit
@[go_sem] theorem setCell_drewN (w : World) (n : Nat) (a : Addr) (v : Value) : (w.drewN n).setCell a v = (w.setCell a v).drewN n := rfl
@[go_sem] theorem alloc_drewN (w : World) (n : Nat) (o : Obj) : (w.drewN n).alloc o = (w.alloc o).drewN n := rfl
theorem hp_drewN {w : World} {b : Nat} {o : Obj} (h : w.heap[b]? = some o) (n : Nat) : (w.drewN n).heap[b]? = some o := h
theorem below_drewN {B : Nat} {a w : World} (h : Below B a w) (n : Nat) : Below B a (w.drewN n) := h.trans ⟨rfl, rfl, rfl, Nat.le_refl _, fun _ _ => rfl⟩
theorem mod_at {b i : Nat} {a w : World} (h : Mod (fun x => x = b) a w) (v : Value) : Mod (fun x => x = b) a (w.setCell ⟨b, i, none⟩ v) := h.setCell (Or.inl rfl) v
theorem mod_new {S : Nat → Prop} {k i : Nat} {a w : World} (h : Mod S a w) (hk : a.heap.size ≤ k) (v : Value) : Mod S a (w.setCell ⟨k, i, none⟩ v) := h.setCell (Or.inr hk) v
/-- Old cells and marks behind a call that makes new memory alone. -/
theorem bcell {W w1 : World} {B : Nat} (hb : Below B W w1) : (∀ b o, b < B → w1.cell? ⟨b, o, none⟩ = W.cell? ⟨b, o, none⟩) ∧ (∀ b o, b < B → w1.frozen? ⟨b, o, none⟩ = W.frozen? ⟨b, o, none⟩) :=
  ⟨fun b o h => hb.cell (p := ⟨b, o, none⟩) h, fun b o h => hb.frozen (p := ⟨b, o, none⟩) h⟩
theorem Mod.cell {S : Nat → Prop} {W w1 : World} (h : Mod S W w1) {b o : Nat} (hb : b < W.heap.size) (hs : ¬ S b) : w1.cell? ⟨b, o, none⟩ = W.cell? ⟨b, o, none⟩ := World.cell?_of_block (w := W) (h.block b hb hs)
theorem Mod.frozen {S : Nat → Prop} {W w1 : World} (h : Mod S W w1) {b o : Nat} (hb : b < W.heap.size) (hs : ¬ S b) : w1.frozen? ⟨b, o, none⟩ = W.frozen? ⟨b, o, none⟩ := World.frozen?_of_block (w := W) (h.block b hb hs)
theorem mcell {W w1 : World} {k : Nat} (hb : Mod (fun x => x = k) W w1) : (∀ b o, b < W.heap.size → b ≠ k → w1.cell? ⟨b, o, none⟩ = W.cell? ⟨b, o, none⟩) ∧ (∀ b o, b < W.heap.size → b ≠ k → w1.frozen? ⟨b, o, none⟩ = W.frozen? ⟨b, o, none⟩) :=
  ⟨fun _ _ h hk => hb.cell h hk, fun _ _ h hk => hb.frozen h hk⟩
/-- A block that a call keeps which makes new memory alone. -/
theorem below_keeps {W w1 : World} {B k : Nat} {o : Obj} (h : Below B W w1) (hk : W.heap[k]? = some o) (hB : k < B) : w1.heap[k]? = some o := by rw [h.block k hB]; exact hk
theorem below_step {B : Nat} {a b c : World} (h : Below B a b) (h' : Below b.heap.size b c) (hB : B ≤ b.heap.size) : Below B a c := h.trans (h'.mono hB)
theorem below_mod {B k : Nat} {a b c : World} (h : Below B a b) (h' : Mod (fun x => x = k) b c) (hB : B ≤ b.heap.size) (hk : B ≤ k) : Below B a c :=
  h.trans (h'.below hB (fun _ e => e ▸ hk))
theorem quiet_left {P : Program} {f : FuncId} {args : Array Value} {w : World} {n : Nat} {v : Value}
    (h : Calls P f args (w.drewN n) fun e w' => e = .returned v ∧ w.drewN n = w') : Calls P f args (w.drewN n) fun e w'' => e = .returned v ∧ ∃ m, w'' = w.drewN m :=
  h.mono fun _ _ ⟨he, hm⟩ => ⟨he, n, hm.symm⟩
theorem quiet_add_left {P : Program} {f : FuncId} {args : Array Value} {w : World} {a n : Nat} {v : Value}
    (h : Calls P f args (w.drewN (a + n)) fun e w' => e = .returned v ∧ w.drewN (a + n) = w') :
    Calls P f args (w.drewN (a + n)) fun e w'' => e = .returned v ∧ ∃ m, w'' = w.drewN (a + m) :=
  h.mono fun _ _ ⟨he, hm⟩ => ⟨he, n, hm.symm⟩
@[go_sem] theorem lt_chain {a n : Nat} (h : a < n) : (a < n + 1) ↔ True := iff_true_intro (by omega)
@[go_sem] theorem le_chain {a n : Nat} (h : a < n) : (a ≤ n) ↔ True := iff_true_intro (by omega)
@[go_sem] theorem ne_chain {a n : Nat} (h : a < n) : (a = n) ↔ False := iff_false_intro (by omega)
/-- What the walk is told of an old block's number behind some new blocks. -/
theorem ladder {b n : Nat} (h : b < n) : (b < n + 1 ∧ b ≤ n ∧ b ≠ n) ∧ (b < n + 1 + 1 ∧ b ≤ n + 1 ∧ b ≠ n + 1) ∧ (b < n + 1 + 1 + 1 ∧ b ≤ n + 1 + 1 ∧ b ≠ n + 1 + 1) ∧ (b < n + 1 + 1 + 1 + 1 ∧ b ≤ n + 1 + 1 + 1 ∧ b ≠ n + 1 + 1 + 1) := by omega
end Go.Proofs.Ytcmmjikkoebboaa.Kit
