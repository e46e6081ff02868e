/-
  What the law PassesMore wants: an append at a step of a region that draws, the memory behind its first region, the strict rules. Conditions: those that each theorem names.
-/
import Derived.Test.YtacdigofjlbimaaVal
import Derived.Deep.AppendLies
namespace Go.Proofs.Ytacdigofjlbimaa
open Go.RowKit Kit
set_option linter.unusedVariables false
/-- 'append' onto the call's own row at a step of a region that draws, whatever is appended: nil or not. -/
theorem step_append_any {P : Program} (w : World) {ops : Array Oper} {o : Oper} {a : Act} {K : Act → World → Prop} {Q : Exit → Act → World → Prop} {E : Prop} (hgd : o.guard = none) (s x : Operand) (t : TypeId)
    (ho : o.op = .call { callee := .builtin .append, args := #[s, x], argTypes := #[t, t] })
    (base : Nat) (e : TypeId) (i : TypeInfo) (z : Value) (size bytes : Nat) (ht : P.underlying t = some (.slice e)) (hi : P.info? e = some i) (hz : i.zero = some z)
    (hsize : i.size = size) (hby : i.bytes = bytes) (hzs : z.cells.size = size) (hsz : 0 < size)
    (v : Value) (n : Nat) (xs : List Value) (hs : a.eval s = v) (hown : w.ownsRow base e size v n xs)
    (ao : Option Addr) (m c : Nat) (news : List Value) (hx : a.eval x = .slice ao m c) (hl : news.length = m * size) (hnone : ao = none → m = 0 ∧ c = 0) (hnews : ∀ ad, ao = some ad → ∀ j u, news[j]? = some u → w.cell? (ad.add j) = some u) (h1 : ∀ u ∈ news, u.oneCell' = true)
    (h63 : n + m ≤ maxLen) (hbytes : (n + m) * bytes ≤ 140737488355328) (hbase : base ≤ w.heap.size)
    (h : ∀ v' w', w'.ownsRow base e size v' (n + m) (xs ++ news) → w.grownBy w' v.ownBlock → K (a.put o.dst v') w') :
    if Region.wanted o (yielded ops a.tmps) = true then Oper.wp P o a w K Q else E := by
  have hw : Region.wanted o (yielded ops a.tmps) = true := by simp [Region.wanted, hgd]
  rw [if_pos hw]
  unfold Oper.wp
  cases ao with
  | some ad =>
    obtain ⟨v', w', hr, h2, h3, _, _⟩ := run_append_own_at (P := P) w base t o.type e i z size bytes ht hi hz hsize hby hzs hsz v n xs hown ad m c news hl (hnews ad rfl) h1 h63 hbytes hbase
    simp [execOp, ho, resolve, invoke, builtin, hs, hx, hr, Result.andThen]
    exact h v' w' h2 h3
  | none =>
    obtain ⟨rfl, rfl⟩ := hnone rfl
    have hn : news = [] := List.eq_nil_of_length_eq_zero (by simpa using hl)
    subst hn
    have hrun := run_append_owned_none (P := P) (w := w) base t o.type e i size ht hi v n xs hown
    simp [execOp, ho, resolve, invoke, builtin, hs, hx, hrun, Result.andThen]
    exact h v w (by simpa using hown) (World.grownBy.refl _ _)
theorem row0 {W : World} {h base : Nat} (hh : W.heap[h]? = some (.cells #[] 39)) (hb : base ≤ h) : W.ownsRow base 39 5 (.slice (some ⟨h, 0, none⟩) 0 0) 0 [] :=
  ⟨by simp, .inr ⟨h, 0, #[], rfl, hb, hh, Nat.le_refl _, by simp, by simp, by simp⟩⟩
theorem hp_eq {w : World} {o : Obj} {k : Nat} (h : k = w.heap.size) : (w.alloc o).heap[k]? = some o := h ▸ hp_new w o
abbrev CX (x : Wn) : Obj := .cells #[.int .i64 x.fr, .int .i64 x.to, .int .i64 x.st, .int .i64 x.va, .int .i64 x.co] 39
abbrev C3 (g b m : Int) : Obj := .cells #[.int .i64 g, .int .i64 b, .int .i64 m] 24
/-- The law's memory: the window, and the two rules. -/
structure MR (w : World) (x : Wn) (g b m g2 b2 m2 : Int) (p7 p8 : Nat) (W : World) : Prop where
  bl : Below w.heap.size w W
  xc : W.heap[w.heap.size]? = some (CX x)
  c7 : W.heap[p7]? = some (C3 g b m)
  c8 : W.heap[p8]? = some (C3 g2 b2 m2)
section
variable {w W W' : World} {x : Wn} {g b m g2 b2 m2 : Int} {p7 p8 : Nat}
theorem MR.below (h : MR w x g b m g2 b2 m2 p7 p8 W) (hb : Below W.heap.size W W') : MR w x g b m g2 b2 m2 p7 p8 W' :=
  ⟨bl_step h.bl hb, below_keeps hb h.xc (lt_of_obj h.xc), below_keeps hb h.c7 (lt_of_obj h.c7), below_keeps hb h.c8 (lt_of_obj h.c8)⟩
theorem mr_a (o : Obj) : MR w x g b m g2 b2 m2 (w.heap.size + 1 + 1) (w.heap.size + 1 + 1 + 1) ((((w.alloc (CX x)).alloc o).alloc (C3 g b m)).alloc (C3 g2 b2 m2)).drew :=
  ⟨(bl_alloc (bl_alloc (bl_alloc (bl_alloc (Below.refl _ _) _) _) _) _).drew, hp_drew (hp_old (hp_old (hp_old (hp_new _ _) _) _) _), hp_drew (hp_old (hp_eq (by simp)) _), hp_drew (hp_eq (by simp))⟩
theorem mr_b (o : Obj) : MR w x g b m g2 b2 m2 (w.heap.size + 1 + 1 + 1) (w.heap.size + 1 + 1) ((((w.alloc (CX x)).alloc o).alloc (C3 g2 b2 m2)).alloc (C3 g b m)).drew :=
  ⟨(bl_alloc (bl_alloc (bl_alloc (bl_alloc (Below.refl _ _) _) _) _) _).drew, hp_drew (hp_old (hp_old (hp_old (hp_new _ _) _) _) _), hp_drew (hp_eq (by simp)), hp_drew (hp_old (hp_eq (by simp)) _)⟩
end
theorem ws_snoc (L : List Wn) (x : Wn) : (L ++ [x]).flatMap cellsW = L.flatMap cellsW ++ cellsW x := by simp
theorem wl_snoc (L : List Wn) (x : Wn) (i : Nat) (h : i < L.length) : wl (L ++ [x]) i = wl L i := by
  unfold wl
  rw [List.getD_eq_getElem?_getD, List.getD_eq_getElem?_getD, List.getElem?_append_left h]
theorem strict_ok {L : List Wn} {g b m g2 b2 m2 : Int} (h1 : okV L g b m = true) (h2 : okV L g2 b2 m2 = true) : okV L (mx g g2) (mn b b2) (mn m m2) = true ∧ value (wl L) (bestp (wl L) L.length (mx g g2) (mn b b2) (mn m m2)) ≤ value (wl L) (bestp (wl L) L.length g b m) := by
  obtain ⟨h16, hE⟩ := okV_iff.1 h1
  obtain ⟨_, hE2⟩ := okV_iff.1 h2
  obtain ⟨h40, hv, hr⟩ := ckE_zero hE
  obtain ⟨_, _, hr2⟩ := ckE_zero hE2
  have hs : vR (mx g g2) (mn b b2) (mn m m2) := by
    unfold vR mx mn at *
    omega
  refine ⟨okV_iff.2 ⟨h16, ?_⟩, ?_⟩
  · unfold ckE
    rw [if_neg (by omega), if_pos ⟨hv, hs⟩]
  · exact more_rules hv hr hs (by unfold mx; omega) (by unfold mn; omega) (by unfold mn; omega)
theorem more_ok {L : List Wn} {x : Wn} {g b m : Int} (h1 : okV L g b m = true) (h2 : okV (L ++ [x]) g b m = true) : value (wl L) (bestp (wl L) L.length g b m) ≤ value (wl (L ++ [x])) (bestp (wl (L ++ [x])) (L ++ [x]).length g b m) := by
  obtain ⟨_, hE⟩ := okV_iff.1 h1
  obtain ⟨_, hE2⟩ := okV_iff.1 h2
  obtain ⟨_, _, hr⟩ := ckE_zero hE
  obtain ⟨_, hv, _⟩ := ckE_zero hE2
  rw [show (L ++ [x]).length = L.length + 1 by simp] at hv ⊢
  exact more_window (fun i hi => wl_snoc L x i hi) hv hr
end Go.Proofs.Ytacdigofjlbimaa
