/-
  The windows as a list, and the walks of Check and follows. Conditions: those that each theorem names.
-/
import Derived.Test.YtacdigofjlbimaaPureb
import Derived.Test.YtacdigofjlbimaaKite
import Derived.Test.YtacdigofjlbimaaProg
namespace Go.Proofs.Ytacdigofjlbimaa
open Go.RowKit Kit
set_option linter.unusedVariables false
def cellsW (x : Wn) : List Value := [.int .i64 x.fr, .int .i64 x.to, .int .i64 x.st, .int .i64 x.va, .int .i64 x.co]
abbrev wv (x : Wn) : Value := .agg #[.int .i64 x.fr, .int .i64 x.to, .int .i64 x.st, .int .i64 x.va, .int .i64 x.co]
def wl (L : List Wn) (i : Nat) : Wn := L.getD i default
/-- The cells of a window. -/
def WC (w : World) (b o : Nat) (x : Wn) : Prop := w.cell? ⟨b, o, none⟩ = some (.int .i64 x.fr) ∧ w.cell? ⟨b, o + 1, none⟩ = some (.int .i64 x.to) ∧ w.cell? ⟨b, o + 2, none⟩ = some (.int .i64 x.st) ∧ w.cell? ⟨b, o + 3, none⟩ = some (.int .i64 x.va) ∧ w.cell? ⟨b, o + 4, none⟩ = some (.int .i64 x.co)
/-- A slice of windows, as a list. -/
def WS (w : World) (a : Option Addr) (n c : Nat) (L : List Wn) : Prop :=
  n = L.length ∧ n ≤ c ∧ c ≤ maxLen ∧ ∀ i, i < n → ∃ b off, a = some ⟨b, off, none⟩ ∧ b < w.heap.size ∧ WC w b (off + i * 5) (wl L i)
/-- Cells that are there stay as they are. -/
def Keep (w w' : World) : Prop := w.heap.size ≤ w'.heap.size ∧ ∀ b o v, w.cell? ⟨b, o, none⟩ = some v → w'.cell? ⟨b, o, none⟩ = some v
theorem Keep.refl (w : World) : Keep w w := ⟨Nat.le_refl _, fun _ _ _ h => h⟩
theorem Keep.trans {a b c : World} (h : Keep a b) (h' : Keep b c) : Keep a c := ⟨Nat.le_trans h.1 h'.1, fun x o v hv => h'.2 x o v (h.2 x o v hv)⟩
theorem keep_below {w w' : World} (h : Below w.heap.size w w') : Keep w w' := ⟨h.size, fun b o v hv => by
  have := World.block_lt_of_cell? w _ hv
  rw [h.cell (p := ⟨b, o, none⟩) this]; exact hv⟩
/-- A block that is a map may turn. -/
theorem keep_map {w w' : World} {mb : Nat} {es : Array MapEntry} {cl : Nat} (hm : w.heap[mb]? = some (.map es cl)) (h : Mod (fun x => x = mb) w w') : Keep w w' := ⟨h.size, fun b o v hv => by
  have hb := World.block_lt_of_cell? w _ hv
  have hne : b ≠ mb := fun e => by subst e; simp [World.cell?, hm] at hv
  rw [h.cell hb hne]; exact hv⟩
theorem WC.keep {w w' : World} {b o : Nat} {x : Wn} (h : WC w b o x) (hk : Keep w w') : WC w' b o x := ⟨hk.2 _ _ _ h.1, hk.2 _ _ _ h.2.1, hk.2 _ _ _ h.2.2.1, hk.2 _ _ _ h.2.2.2.1, hk.2 _ _ _ h.2.2.2.2⟩
theorem WS.keep {w w' : World} {a : Option Addr} {n c : Nat} {L : List Wn} (h : WS w a n c L) (hk : Keep w w') : WS w' a n c L := by
  refine ⟨h.1, h.2.1, h.2.2.1, fun i hi => ?_⟩
  obtain ⟨b, off, rfl, hl, hc⟩ := h.2.2.2 i hi
  exact ⟨b, off, rfl, Nat.lt_of_lt_of_le hl hk.1, hc.keep hk⟩
theorem WS.below {w w' : World} {a : Option Addr} {n c : Nat} {L : List Wn} (h : WS w a n c L) (hb : Below w.heap.size w w') : WS w' a n c L := h.keep (keep_below hb)
def wfW (L : List Wn) : Prop := ∀ x ∈ L, (-9223372036854775808 ≤ x.fr ∧ x.fr ≤ 9223372036854775807) ∧ (-9223372036854775808 ≤ x.to ∧ x.to ≤ 9223372036854775807)
theorem slIn_ws {w : World} {v : Value} (h : SlIn [.inl .i64, .inl .i64, .inl .i64, .inl .i64, .inl .i64] w v) : ∃ a n c L, v = .slice a n c ∧ WS w a n c L ∧ (a = none → n = 0 ∧ c = 0) := by
  obtain ⟨Y, h1, h2, h3⟩ := slIn_l h
  have hx : ∀ y ∈ Y, ∃ x : Wn, y = cellsW x := fun y hy => by
    obtain ⟨p1, cs1, rfl, _, h5⟩ := scAll_int (h3 y hy)
    obtain ⟨p2, cs2, rfl, _, h5⟩ := scAll_int h5
    obtain ⟨p3, cs3, rfl, _, h5⟩ := scAll_int h5
    obtain ⟨p4, cs4, rfl, _, h5⟩ := scAll_int h5
    obtain ⟨p5, cs5, rfl, _, h5⟩ := scAll_int h5
    rw [scAll_nil h5]; exact ⟨⟨p1, p2, p3, p4, p5⟩, rfl⟩
  have key : ∀ Y : List (List Value), (∀ y ∈ Y, ∃ x : Wn, y = cellsW x) → ∃ l : List Wn, Y = l.map cellsW := by
    intro Y
    induction Y with
    | nil => exact fun _ => ⟨[], rfl⟩
    | cons y Y ih =>
      intro hy
      obtain ⟨x, rfl⟩ := hy y (by simp)
      obtain ⟨X, rfl⟩ := ih (fun z hz => hy z (by simp [hz]))
      exact ⟨x :: X, rfl⟩
  obtain ⟨l, rfl⟩ := key Y hx
  rcases h1 with ⟨b, off, c, rfl, k1, k2, k3, k4⟩ | ⟨he, a, rfl⟩
  · refine ⟨some ⟨b, off, none⟩, l.length, c, l, by simp, ⟨rfl, by simpa using k1, k2, fun i hi => ⟨b, off, rfl, k3, ?_⟩⟩, fun e => by cases e⟩
    have hg : (l.map cellsW)[i]? = some (cellsW (wl l i)) := by
      rw [List.getElem?_map, List.getElem?_eq_getElem hi, wl, List.getD_eq_getElem?_getD, List.getElem?_eq_getElem hi]; rfl
    exact ⟨k4 i _ hg 0 (by simp), k4 i _ hg 1 (by simp), k4 i _ hg 2 (by simp), k4 i _ hg 3 (by simp), k4 i _ hg 4 (by simp)⟩
  · have : l = [] := by simpa using he
    subst this
    exact ⟨a, 0, 0, [], rfl, ⟨rfl, by simp, by simp, fun i hi => by omega⟩, fun _ => ⟨rfl, rfl⟩⟩
/-- The error of windows and rules. -/

instance decVL (W : Nat → Wn) (m : Nat) : Decidable (vL W m) := by unfold vL; exact inferInstance
def ckE (L : List Wn) (g b m : Int) : Int := if 40 < L.length then 3 else if vL (wl L) L.length ∧ vR g b m then 0 else 2
end Go.Proofs.Ytacdigofjlbimaa
