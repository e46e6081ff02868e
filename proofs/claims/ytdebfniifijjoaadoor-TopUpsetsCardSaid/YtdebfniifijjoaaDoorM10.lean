/-
  The walk of a store's valid, and of what it defers. Conditions: a store that lies in a memory.
-/
import Derived.Test.YtdebfniifijjoaaDoorM09
import Derived.Recover
import Derived.Test.YtdebfniifijjoaaDoorM08
namespace Go.Proofs.YtdebfniifijjoaaDoor
open Go.RowKit Kit Go.Shelf
set_option linter.unusedVariables false
theorem ta142 (v : Value) (w : World) : (Instr.typeAssert (.iface 142 v) 20 142 true).run Tryd.prog w = .ok (.tuple #[v, .bool true]) w := by
  simp [Instr.typeAssert, run_underlying Tryd.underlying142, go_sem, Result.andThen]
set_option maxRecDepth 100000 in
set_option maxHeartbeats 800000 in
theorem catch_panicking (B : Nat) (x : Value) (older : List PanicEntry) (w : World) (hc : w.cell? ⟨B, 0, none⟩ = some x) (hz : w.frozen? ⟨B, 0, none⟩ = false) (hB : B < w.heap.size) :
    CallsD Tryd.prog 75 #[.pointer (some ⟨B, 0, none⟩)] (.panicking ({ v := .iface 142 (.agg #[]), recovered := false } :: older)) w fun e u' w' =>
      e = .returned (.tuple #[]) ∧ u' = .panicking ({ v := .iface 142 (.agg #[]), recovered := true } :: older) ∧ w' = (w.alloc (.cells #[] 142)).setCell ⟨B, 0, none⟩ (.pointer none) := by
  refine callsD_of_wpS Tryd.func75 rfl fun c₀ cs hu => ?_
  apply wpS_seq
  apply wpS_region
  simp [wpOpsS, go_sem, recoverD, hu, Tryd.ntmps75, Exit.thenS]
  refine wpS_of_wp ?_
  rw [show (#[Value.pointer (some ⟨B, 0, none⟩)] ++ (Array.replicate 9 undef).setIfInBounds 3 (Value.iface 142 (Value.agg #[])) : Array Value) = #[.pointer (some ⟨B, 0, none⟩), undef, undef, undef, .iface 142 (.agg #[]), undef, undef, undef, undef, undef] from rfl]
  refine Code.wp_mono (Q := fun e a' w' => e = .normal ∧ a'.defers = [] ∧ w' = (w.alloc (.cells #[] 142)).setCell ⟨B, 0, none⟩ (.pointer none)) ?_ ?_
  · rintro e a' w' ⟨rfl, hd, rfl⟩
    simp [bodyPostS, hd, results, Tryd.results75]
  clear hu
  have TA := ta142
  go_wp2_with (fail)
set_option maxRecDepth 100000 in
set_option maxHeartbeats 800000 in
theorem catch_idle (B : Nat) (w : World) :
    CallsD Tryd.prog 75 #[.pointer (some ⟨B, 0, none⟩)] .returning w fun e u' w' => e = .returned (.tuple #[]) ∧ u' = .returning ∧ w' = w := by
  refine callsD_of_wpS Tryd.func75 rfl fun c₀ cs hu => ?_
  apply wpS_seq
  apply wpS_region
  simp [wpOpsS, go_sem, recoverD, hu, Tryd.ntmps75, Exit.thenS]
  refine wpS_of_wp ?_
  rw [show (#[Value.pointer (some ⟨B, 0, none⟩)] ++ (Array.replicate 9 undef).setIfInBounds 3 Value.nilIface : Array Value) = #[.pointer (some ⟨B, 0, none⟩), undef, undef, undef, .nilIface, undef, undef, undef, undef, undef] from rfl]
  refine Code.wp_mono (Q := fun e a' w' => e = .normal ∧ a'.defers = [] ∧ w' = w) ?_ ?_
  · rintro e a' w' ⟨rfl, hd, rfl⟩
    cases c₀
    simp_all [bodyPostS, results, Tryd.results75]
  clear hu
  go_wp2_with (fail)
def ValQ (bm bw n safe : Nat) (s : MS) (num a size : Nat) (w : World) (e : Ending) (w' : World) : Prop :=
  (if goodB s.v a size then ∃ g, e = .returned (.pointer (some ⟨g, 0, none⟩)) ∧ w.heap.size ≤ g ∧ w'.heap[g]? = some (.cells (bkA num (hdF s.v a) (dataB s.v a)) 102) else e = .returned (.pointer none)) ∧ (∃ s', s.Le s' ∧ ME w' bm bw n safe s') ∧ MK bm bw w w'
set_option maxRecDepth 100000 in
set_option maxHeartbeats 1600000 in
theorem valid_any {w : World} {bs bm bw base size n safe : Nat} {nx : Value} {s : MS} (h : ST w bs bm base size nx) (hM : ME w bm bw n safe s) (hT : Tab w) (hne : bs ≠ bm ∧ bs ≠ bw) (h1 : 4 ≤ size) (h2 : size ≤ 8192) (hb : base ≤ 10000)
    (hn : base + 2 * half size ≤ n) (k : Nat) (hk : k < 2) :
    Calls Tryd.prog 59 #[.pointer (some ⟨bs, 0, none⟩), .int .i64 k] w fun e w' => ValQ bm bw n safe s k (base + k * half size) size w e w' := by
  have hmf : ∀ (fn : Fn) (first cap : Array Value) (w : World), (Instr.makeFunc fn first cap).run Tryd.prog w = .ok (.func fn first cap) w := fun _ _ _ _ => rfl
  obtain ⟨fx, st, ho⟩ := hM.obj
  have hb1 : bm < w.heap.size := lt_of_obj ho
  have hb2 : bw < w.heap.size := lt_of_obj hM.words
  have SR := Lib.hid (fun (w' : World) (hb' : Below w.heap.size w w') => sread_any (h.below hb') (hM.below hb') (hT.below hb') hne h1 h2 hb hn k hk)
  obtain ⟨a, ha⟩ : ∃ a, a = base + k * half size := ⟨_, rfl⟩
  rw [← ha] at SR ⊢
  clear h hM hT ho ha
  go_enter_defers Tryd.func59, Tryd.ntmps59
  go_wp2_with (fail)
  have hbl : Below w.heap.size w (w.alloc (.cells #[.pointer none] 97)) := bl_alloc (Below.refl _ _) _
  refine (SR.out _ hbl).mono ?_
  rintro e w1 ⟨he, ⟨s', l1, m1⟩, k1⟩
  have X1 : w1.heap[w.heap.size]? = some (.cells #[.pointer none] 97) := k1.keeps (hp_new _ _) (by omega)
  have K1 := Lib.hid (show MK bm bw w w1 from (MK.below hbl).trans k1)
  have L1 := Lib.hid l1
  have M1 := Lib.hid m1
  have cx : w1.cell? ⟨w.heap.size, 0, none⟩ = some (.pointer none) := cell_of X1 rfl
  have fx : w1.frozen? ⟨w.heap.size, 0, none⟩ = false := free_of X1
  have hl : w.heap.size < w1.heap.size := lt_of_obj X1
  have XX := Lib.hid X1
  clear l1 m1 k1 X1 hbl SR
  have QR : Hid (∀ (e : Ending) {w' : World}, goodB s.v a size = true → (∃ g, e = .returned (.pointer (some ⟨g, 0, none⟩)) ∧ w.heap.size ≤ g ∧ w'.heap[g]? = some (.cells (bkA k (hdF s.v a) (dataB s.v a)) 102)) → (∃ s', s.Le s' ∧ ME w' bm bw n safe s') → MK bm bw w w' → ValQ bm bw n safe s k a size w e w') := Lib.hid (fun e w' h1 h2 h3 h4 => ⟨by rw [h1, if_pos rfl]; exact h2, h3, h4⟩)
  cases hg : goodB s.v a size with
  | true =>
    rw [hg, if_pos rfl] at he
    subst he
    have HG := Lib.hid hg
    clear hg
    generalize hdF s.v a = f at *
    generalize dataB s.v a = D at *
    unfold bkA
    go_wp2_with (fail)
    refine leaves_cons (f := 75) (args := #[.pointer (some ⟨w.heap.size, 0, none⟩)]) (by simp) (by simp [go_sem]) ?_
    refine (catch_idle w.heap.size _).mono ?_
    rintro e u' w'' ⟨rfl, rfl, rfl⟩
    simp [Leaves, settle, results, Tryd.results59, go_sem]
    have C0 : ((w1.setCell ⟨w.heap.size, 0, none⟩ (.pointer (some ⟨w1.heap.size, 0, none⟩))).alloc (.cells #[.int .i64 k, .int .u32 (f 0), .int .u32 (f 1), .int .u32 (f 2), .int .u32 (f 3), .int .u32 (f 4), .string D] 102)).cell? ⟨w.heap.size, 0, none⟩ = some (.pointer (some ⟨w1.heap.size, 0, none⟩)) := cell_of (hp_old (hp_set (i := 0) XX.out _) _) rfl
    rw [C0]
    refine ⟨_, rfl, QR.out _ HG.out ⟨_, rfl, by omega, ?_⟩ ⟨s', L1.out, ?_⟩ ?_⟩
    · have := hp_new (w1.setCell ⟨w.heap.size, 0, none⟩ (.pointer (some ⟨w1.heap.size, 0, none⟩))) (.cells #[.int .i64 k, .int .u32 (f 0), .int .u32 (f 1), .int .u32 (f 2), .int .u32 (f 3), .int .u32 (f 4), .string D] 102)
      rw [show (w1.setCell ⟨w.heap.size, 0, none⟩ (.pointer (some ⟨w1.heap.size, 0, none⟩))).heap.size = w1.heap.size by simp [World.setCell]] at this
      exact this
    · exact (M1.out.modN (B := w.heap.size) (mod_at (Mod.refl _ _) _) (by omega) (by omega)).below (bl_alloc (Below.refl _ _) _)
    · exact (K1.out.setCell (Or.inr (Nat.le_refl _)) _).alloc _
  | false =>
    rw [hg, if_neg (by simp)] at he
    subst he
    have HG := Lib.hid hg
    clear hg
    unfold invP
    refine leaves_cons (f := 75) (args := #[.pointer (some ⟨w.heap.size, 0, none⟩)]) (by simp) (by simp [go_sem]) ?_
    refine (catch_panicking w.heap.size _ [] _ cx fx hl).mono ?_
    rintro e u' w'' ⟨rfl, rfl, rfl⟩
    simp [Leaves, settle, results, Tryd.results59, go_sem]
    have C0 : ((w1.alloc (.cells #[] 142)).setCell ⟨w.heap.size, 0, none⟩ (.pointer none)).cell? ⟨w.heap.size, 0, none⟩ = some (.pointer none) := cell_of (hp_set (i := 0) (hp_old XX.out _) _) rfl
    rw [C0]
    refine ⟨_, rfl, ⟨?_, ⟨s', L1.out, ?_⟩, ?_⟩⟩
    · rw [HG.out]; rfl
    · exact (M1.out.below (bl_alloc (Below.refl _ _) _)).modN (B := w.heap.size) (mod_at (Mod.refl _ _) _) (by omega) (by omega)
    · exact (K1.out.alloc _).setCell (Or.inr (Nat.le_refl _)) _
end Go.Proofs.YtdebfniifijjoaaDoor
/-
  The walks of a store's active and Active. Conditions: a store that lies in a memory.
-/
namespace Go.Proofs.YtdebfniifijjoaaDoor
open Go.RowKit Kit Go.Shelf
set_option linter.unusedVariables false
/-- The first word of a bank. -/
def bkAt (base size k : Nat) : Nat := base + k * half size
/-- Which bank is active. -/
def actB (v : Nat → Nat) (base size : Nat) : Option Nat :=
  if goodB v (bkAt base size 0) size then
    (if goodB v (bkAt base size 1) size then (if hdF v (bkAt base size 1) 0 ≤ hdF v (bkAt base size 0) 0 then some 0 else some 1) else some 0)
  else (if goodB v (bkAt base size 1) size then some 1 else none)
/-- A store that lies in a memory. -/
structure SM (w : World) (bs bm bw base size n safe : Nat) (nx : Value) (s : MS) : Prop where
  st : ST w bs bm base size nx
  me : ME w bm bw n safe s
  tab : Tab w
  ne : bs ≠ bm ∧ bs ≠ bw
  h1 : 4 ≤ size
  h2 : size ≤ 8192
  hb : base ≤ 10000
  hn : base + 2 * half size ≤ n
theorem SM.go {w w' : World} {bs bm bw base size n safe : Nat} {nx : Value} {s s' : MS} (h : SM w bs bm bw base size n safe nx s) (m : ME w' bm bw n safe s') (k : MK bm bw w w') : SM w' bs bm bw base size n safe nx s' :=
  ⟨h.st.mk' k h.ne.1 h.ne.2, m, h.tab.mk h.me.pos k, h.ne, h.h1, h.h2, h.hb, h.hn⟩
theorem SM.below {w w' : World} {bs bm bw base size n safe : Nat} {nx : Value} {s : MS} (h : SM w bs bm bw base size n safe nx s) (b : Below w.heap.size w w') : SM w' bs bm bw base size n safe nx s := h.go (h.me.below b) (MK.below b)
theorem SM.lt {w : World} {bs bm bw base size n safe : Nat} {nx : Value} {s : MS} (h : SM w bs bm bw base size n safe nx s) : bs < w.heap.size ∧ bm < w.heap.size ∧ bw < w.heap.size := by
  obtain ⟨fx, st, ho⟩ := h.me.obj
  exact ⟨lt_of_obj h.st, lt_of_obj ho, lt_of_obj h.me.words⟩
def bkO (v : Nat → Nat) (base size k : Nat) : Obj := .cells (bkA k (hdF v (bkAt base size k)) (dataB v (bkAt base size k))) 102
def RdQ (bm bw n safe : Nat) (s : MS) (w w' : World) : Prop := (∃ s', s.Le s' ∧ ME w' bm bw n safe s') ∧ MK bm bw w w'
def ActQ (bm bw n safe : Nat) (s : MS) (base size : Nat) (w : World) (e : Ending) (w' : World) : Prop :=
  (match actB s.v base size with | none => e = .returned (.pointer none) | some k => ∃ g, e = .returned (.pointer (some ⟨g, 0, none⟩)) ∧ w.heap.size ≤ g ∧ w'.heap[g]? = some (bkO s.v base size k)) ∧ RdQ bm bw n safe s w w'
theorem valid_sm {w : World} {bs bm bw base size n safe : Nat} {nx : Value} {s : MS} (h : SM w bs bm bw base size n safe nx s) (k : Nat) (hk : k < 2) (hg : goodB s.v (bkAt base size k) size = true) :
    Calls Tryd.prog 59 #[.pointer (some ⟨bs, 0, none⟩), .int .i64 k] w fun e w' => (∃ g, e = .returned (.pointer (some ⟨g, 0, none⟩)) ∧ w.heap.size ≤ g ∧ w'.heap[g]? = some (bkO s.v base size k)) ∧ (∃ s', s.Le s' ∧ ME w' bm bw n safe s') ∧ MK bm bw w w' :=
  (valid_any h.st h.me h.tab h.ne h.h1 h.h2 h.hb h.hn k hk).mono fun e w' ⟨he, r⟩ => by
    rw [show base + k * half size = bkAt base size k from rfl, hg, if_pos rfl] at he
    exact ⟨he, r⟩
theorem valid_no {w : World} {bs bm bw base size n safe : Nat} {nx : Value} {s : MS} (h : SM w bs bm bw base size n safe nx s) (k : Nat) (hk : k < 2) (hg : goodB s.v (bkAt base size k) size = false) :
    Calls Tryd.prog 59 #[.pointer (some ⟨bs, 0, none⟩), .int .i64 k] w fun e w' => e = .returned (.pointer none) ∧ (∃ s', s.Le s' ∧ ME w' bm bw n safe s') ∧ MK bm bw w w' :=
  (valid_any h.st h.me h.tab h.ne h.h1 h.h2 h.hb h.hn k hk).mono fun e w' ⟨he, r⟩ => by
    rw [show base + k * half size = bkAt base size k from rfl, hg, if_neg (by simp)] at he
    exact ⟨he, r⟩
theorem bk_cell {w : World} {g base size k : Nat} {v : Nat → Nat} (h : w.heap[g]? = some (bkO v base size k)) : w.cell? ⟨g, 1, none⟩ = some (.int .u32 (hdF v (bkAt base size k) 0)) := cell_of h rfl
set_option maxRecDepth 100000 in
set_option maxHeartbeats 1600000 in
theorem active_any {w : World} {bs bm bw base size n safe : Nat} {nx : Value} {s : MS} (h : SM w bs bm bw base size n safe nx s) :
    Calls Tryd.prog 42 #[.pointer (some ⟨bs, 0, none⟩)] w fun e w' => ActQ bm bw n safe s base size w e w' := by
  have H := Lib.hid h
  obtain ⟨hbs, hb1, hb2⟩ := h.lt
  have AB : Hid (actB s.v base size = if goodB s.v (bkAt base size 0) size then
    (if goodB s.v (bkAt base size 1) size then (if hdF s.v (bkAt base size 1) 0 ≤ hdF s.v (bkAt base size 0) 0 then some 0 else some 1) else some 0)
    else (if goodB s.v (bkAt base size 1) size then some 1 else none)) := Lib.hid rfl
  have FIN : Hid (∀ (k : Nat) (e : Ending) (w' : World), actB s.v base size = some k → (∃ g, e = .returned (.pointer (some ⟨g, 0, none⟩)) ∧ w.heap.size ≤ g ∧ w'.heap[g]? = some (bkO s.v base size k)) → RdQ bm bw n safe s w w' → ActQ bm bw n safe s base size w e w') := Lib.hid (fun k e w' h1 h2 h3 => ⟨by rw [h1]; exact h2, h3⟩)
  have FIN0 : Hid (∀ (w' : World), actB s.v base size = none → RdQ bm bw n safe s w w' → ActQ bm bw n safe s base size w (.returned (.pointer none)) w') := Lib.hid (fun w' h1 h3 => ⟨by rw [h1], h3⟩)
  cases hg0 : goodB s.v (bkAt base size 0) size with
  | true =>
    have V0 := Lib.hid (valid_sm h 0 (by omega) hg0)
    rw [hg0] at AB
    clear h hg0
    cases hg1 : goodB s.v (bkAt base size 1) size with
    | true =>
      rw [hg1] at AB
      have G1 := Lib.hid hg1
      clear hg1
      go_enter Tryd.func42, Tryd.ntmps42
      go_wp2_with (fail)
      refine V0.out.mono ?_
      rintro e w1 ⟨⟨g0, rfl, gl0, go0⟩, ⟨s1, l1, m1⟩, k1⟩
      have L1 := Lib.hid l1; have M1 := Lib.hid m1; have K1 := Lib.hid k1; have O0 := Lib.hid go0
      have V1 := Lib.hid (valid_sm (H.out.go m1 k1) 1 (by omega) (by rw [l1.v]; exact G1.out))
      have hw1 := lt_of_obj go0
      clear l1 m1 k1 go0
      go_wp2_with (fail)
      refine V1.out.mono ?_
      rintro e w2 ⟨⟨g1, rfl, gl1, go1⟩, ⟨s2, l2, m2⟩, k2⟩
      rw [L1.out.v] at go1
      have L2 := Lib.hid (L1.out.trans l2); have M2 := Lib.hid m2; have K2 := Lib.hid (MK.trans K1.out k2); have O1 := Lib.hid go1
      have O0' := Lib.hid (k2.keeps O0.out (by omega))
      have x0 := bk_cell O0'.out
      have x1 := bk_cell go1
      have hl0 := lt_of_obj O0'.out
      have hl1 := lt_of_obj go1
      clear l2 m2 k2 go1
      have XX : Hid (∀ (p : Nat), hdF s.v (bkAt base size 0) 0 = p → ∀ (q : Nat), hdF s.v (bkAt base size 1) 0 = q → w2.cell? ⟨g0, 1, none⟩ = some (.int .u32 p) ∧ w2.cell? ⟨g1, 1, none⟩ = some (.int .u32 q)) := Lib.hid (fun p hp q hq => ⟨by rw [← hp]; exact x0, by rw [← hq]; exact x1⟩)
      clear x0 x1
      generalize hp : hdF s.v (bkAt base size 0) 0 = p at AB
      generalize hq : hdF s.v (bkAt base size 1) 0 = q at AB
      obtain ⟨x0, x1⟩ := XX.out p hp q hq
      clear hp hq XX
      have hge : w.heap.size ≤ w1.heap.size := K1.out.size
      by_cases hle : q ≤ p
      · have d1 : decide ((q : Int) ≤ (p : Int)) = true := by simp; omega
        have AE := Lib.hid (show actB s.v base size = some 0 by rw [AB.out]; simp [hle])
        go_wp2_with (fail)
        refine region_calm (by kernel_rfl) (by kernel_rfl) ?_
        repeat (go_big_quiet_step ((fail)))
        refine wpQuiet_nil ?_; intro _ hw'; obtain ⟨xq, hw''⟩ := hw'; subst hw''
        go_wp2_with (fail)
        go_ret
        exact FIN.out 0 _ _ AE.out ⟨_, rfl, gl0, hp_ext O0'.out xq⟩ ⟨⟨_, L2.out, M2.out.below (below_ext _ _)⟩, K2.out.trans (MK.below (below_ext _ _))⟩
      · have d1 : decide ((q : Int) ≤ (p : Int)) = false := by simp; omega
        have AE := Lib.hid (show actB s.v base size = some 1 by rw [AB.out]; simp [hle])
        go_wp2_with (fail)
        refine region_calm (by kernel_rfl) (by kernel_rfl) ?_
        repeat (go_big_quiet_step ((fail)))
        refine wpQuiet_nil ?_; intro _ hw'; obtain ⟨xq, hw''⟩ := hw'; subst hw''
        go_wp2_with (fail)
        go_ret
        exact FIN.out 1 _ _ AE.out ⟨_, rfl, by omega, hp_ext O1.out xq⟩ ⟨⟨_, L2.out, M2.out.below (below_ext _ _)⟩, K2.out.trans (MK.below (below_ext _ _))⟩
    | false =>
      rw [hg1] at AB
      have G1 := Lib.hid hg1
      have AE := Lib.hid (show actB s.v base size = some 0 by rw [AB.out]; simp)
      clear hg1
      go_enter Tryd.func42, Tryd.ntmps42
      go_wp2_with (fail)
      refine V0.out.mono ?_
      rintro e w1 ⟨⟨g0, rfl, gl0, go0⟩, ⟨s1, l1, m1⟩, k1⟩
      have L1 := Lib.hid l1; have M1 := Lib.hid m1; have K1 := Lib.hid k1; have O0 := Lib.hid go0
      have V1 := Lib.hid (valid_no (H.out.go m1 k1) 1 (by omega) (by rw [l1.v]; exact G1.out))
      clear l1 m1 k1 go0
      go_wp2_with (fail)
      refine V1.out.mono ?_
      rintro e w2 ⟨rfl, ⟨s2, l2, m2⟩, k2⟩
      have L2 := Lib.hid (L1.out.trans l2); have M2 := Lib.hid m2; have K2 := Lib.hid (MK.trans K1.out k2)
      have O0' := Lib.hid (k2.keeps O0.out (by omega))
      clear l2 m2 k2
      go_wp2_with (fail)
      refine region_calm (by kernel_rfl) (by kernel_rfl) ?_
      repeat (go_big_quiet_step ((fail)))
      refine wpQuiet_nil ?_; intro _ hw'; obtain ⟨xq, hw''⟩ := hw'; subst hw''
      go_wp2_with (fail)
      go_ret
      exact FIN.out 0 _ _ AE.out ⟨_, rfl, gl0, hp_ext O0'.out xq⟩ ⟨⟨_, L2.out, M2.out.below (below_ext _ _)⟩, K2.out.trans (MK.below (below_ext _ _))⟩
  | false =>
    have V0 := Lib.hid (valid_no h 0 (by omega) hg0)
    rw [hg0] at AB
    clear h hg0
    cases hg1 : goodB s.v (bkAt base size 1) size with
    | true =>
      rw [hg1] at AB
      have G1 := Lib.hid hg1
      have AE := Lib.hid (show actB s.v base size = some 1 by rw [AB.out]; simp)
      clear hg1
      go_enter Tryd.func42, Tryd.ntmps42
      go_wp2_with (fail)
      refine V0.out.mono ?_
      rintro e w1 ⟨rfl, ⟨s1, l1, m1⟩, k1⟩
      have L1 := Lib.hid l1; have M1 := Lib.hid m1; have K1 := Lib.hid k1
      have V1 := Lib.hid (valid_sm (H.out.go m1 k1) 1 (by omega) (by rw [l1.v]; exact G1.out))
      clear l1 m1 k1
      go_wp2_with (fail)
      refine V1.out.mono ?_
      rintro e w2 ⟨⟨g1, rfl, gl1, go1⟩, ⟨s2, l2, m2⟩, k2⟩
      rw [L1.out.v] at go1
      have L2 := Lib.hid (L1.out.trans l2); have M2 := Lib.hid m2; have K2 := Lib.hid (MK.trans K1.out k2); have O1 := Lib.hid go1
      clear l2 m2 k2 go1
      have hge : w.heap.size ≤ w1.heap.size := K1.out.size
      go_wp2_with (fail)
      go_ret
      exact FIN.out 1 _ _ AE.out ⟨_, rfl, by omega, O1.out⟩ ⟨⟨_, L2.out, M2.out⟩, K2.out⟩
    | false =>
      rw [hg1] at AB
      have G1 := Lib.hid hg1
      have AE := Lib.hid (show actB s.v base size = none by rw [AB.out]; simp)
      clear hg1
      go_enter Tryd.func42, Tryd.ntmps42
      go_wp2_with (fail)
      refine V0.out.mono ?_
      rintro e w1 ⟨rfl, ⟨s1, l1, m1⟩, k1⟩
      have L1 := Lib.hid l1; have M1 := Lib.hid m1; have K1 := Lib.hid k1
      have V1 := Lib.hid (valid_no (H.out.go m1 k1) 1 (by omega) (by rw [l1.v]; exact G1.out))
      clear l1 m1 k1
      go_wp2_with (fail)
      refine V1.out.mono ?_
      rintro e w2 ⟨rfl, ⟨s2, l2, m2⟩, k2⟩
      have L2 := Lib.hid (L1.out.trans l2); have M2 := Lib.hid m2; have K2 := Lib.hid (MK.trans K1.out k2)
      clear l2 m2 k2
      go_wp2_with (fail)
      go_ret
      exact FIN0.out _ AE.out ⟨⟨_, L2.out, M2.out⟩, K2.out⟩
end Go.Proofs.YtdebfniifijjoaaDoor
/-
  What stores leave of a memory whose fuse may blow, in plain Lean: a prefix of them. Conditions: none.
-/
namespace Go.Proofs.YtdebfniifijjoaaDoor
open Go.RowKit Kit Go.Shelf
set_option linter.unusedVariables false
/-- Words are put, one after the other. -/
def putL (v : Nat → Nat) : List (Nat × Nat) → Nat → Nat
  | [] => v
  | (i, x) :: L => putL (fun j => if j = i then x else v j) L
theorem putL_append (v : Nat → Nat) (L L' : List (Nat × Nat)) : putL v (L ++ L') = putL (putL v L) L' := by
  induction L generalizing v with
  | nil => rfl
  | cons a L ih => obtain ⟨i, x⟩ := a; simp only [List.cons_append, putL]; exact ih _
/-- A prefix of the list was stored; all of it if there is no fuse; nothing if it has blown. -/
structure MS.Go (L : List (Nat × Nat)) (s s' : MS) : Prop where
  p : ∃ p, p ≤ L.length ∧ s'.v = putL s.v (L.take p) ∧ (p < L.length → s'.fuse = 0)
  f1 : s.fuse = -1 → s'.fuse = -1
  f0 : s.fuse = 0 → s'.fuse = 0 ∧ s'.v = s.v
  u : ∀ i, s'.u i = none ∨ s'.u i = s.u i
  scrub : s'.scrub = s.scrub
  lost : s'.lost = s.lost
theorem MS.Le.go {s s' : MS} (h : s.Le s') : s.Go [] s' := ⟨⟨0, Nat.le_refl _, h.v, fun h => absurd h (by simp)⟩, h.f1, fun e => ⟨h.f0 e, h.v⟩, h.u, h.scrub, h.lost⟩
theorem MS.Go.trans {a b c : MS} {L L' : List (Nat × Nat)} (h : a.Go L b) (h' : b.Go L' c) : a.Go (L ++ L') c := by
  refine ⟨?_, fun e => h'.f1 (h.f1 e), fun e => ⟨(h'.f0 (h.f0 e).1).1, (h'.f0 (h.f0 e).1).2.trans (h.f0 e).2⟩, fun i => ?_, h'.scrub.trans h.scrub, h'.lost.trans h.lost⟩
  · obtain ⟨p, h1, h2, h3⟩ := h.p
    obtain ⟨q, g1, g2, g3⟩ := h'.p
    by_cases hp : p < L.length
    · have hf := h3 hp
      refine ⟨p, by simp; omega, ?_, fun _ => (h'.f0 hf).1⟩
      rw [(h'.f0 hf).2, h2, List.take_append_of_le_length h1]
    · have e : p = L.length := by omega
      subst e
      refine ⟨L.length + q, by simp; omega, ?_, fun hq => g3 (by simp at hq; omega)⟩
      rw [List.take_append, List.take_of_length_le (by omega), putL_append, g2, h2, List.take_length, show L.length + q - L.length = q by omega]
  · rcases h'.u i with e | e
    · exact .inl e
    · rw [e]; exact h.u i
theorem go_store (s : MS) (i x : Nat) : s.Go [(i, x)] (s.store i x) := by
  unfold MS.store
  split
  · rename_i hf
    exact ⟨⟨0, by simp, rfl, fun _ => hf⟩, id, fun e => ⟨e, rfl⟩, fun _ => .inr rfl, rfl, rfl⟩
  · rename_i hf
    refine ⟨⟨1, by simp, rfl, fun h => absurd h (by simp)⟩, fun e => ?_, fun e => absurd e hf, fun j => ?_, rfl, rfl⟩
    · show (if 0 < s.fuse then s.fuse - 1 else s.fuse) = -1
      rw [e]; rfl
    · show (if j = i then none else s.u j) = none ∨ (if j = i then none else s.u j) = s.u j
      split
      · exact .inl rfl
      · exact .inr rfl
/-- The words of a string from a place on. -/
def wrL (a : Nat) (S : ByteArray) (k : Nat) : List (Nat × Nat) := (List.range k).map fun j => (a + j, wordAt S j)
theorem go_wr (s : MS) (a : Nat) (S : ByteArray) : ∀ k, s.Go (wrL a S k) (s.wr a S k)
  | 0 => (MS.Le.refl s).go
  | k + 1 => by
    have : wrL a S (k + 1) = wrL a S k ++ [(a + k, wordAt S k)] := by simp [wrL, List.range_succ]
    rw [this]
    exact (go_wr s a S k).trans (go_store _ _ _)
theorem MS.Go.full {s s' : MS} {L : List (Nat × Nat)} (h : s.Go L s') (hf : s.fuse = -1) : s'.v = putL s.v L := by
  obtain ⟨p, h1, h2, h3⟩ := h.p
  have hp : p = L.length := by
    rcases Nat.lt_or_ge p L.length with h' | h'
    · have := h3 h'; have := h.f1 hf; omega
    · omega
  rw [h2, hp, List.take_length]
/-- The words of a header. -/
def hdN (gen id len sum : Nat) : Nat → Nat
  | 0 => gen
  | 1 => id
  | 2 => len
  | 3 => sum
  | _ => 0
def hdW (gen id len sum i : Nat) : Nat := if i = 4 then sealS (hdN gen id len sum) else hdN gen id len sum i
/-- A header is stored: its generation is the last word. -/
def hdL (a : Nat) (h : Nat → Nat) : List (Nat × Nat) := [(a + 1, h 1), (a + 2, h 2), (a + 3, h 3), (a + 4, h 4), (a + 0, h 0)]
theorem hdL_at (a : Nat) (h : Nat → Nat) (k : Nat) (hk : k < 5) : (hdL a h).take (k + 1) = (hdL a h).take k ++ [(a + (k + 1) % 5, h ((k + 1) % 5))] := by
  rcases (by omega : k = 0 ∨ k = 1 ∨ k = 2 ∨ k = 3 ∨ k = 4) with rfl | rfl | rfl | rfl | rfl <;> rfl
end Go.Proofs.YtdebfniifijjoaaDoor
/-
  The walks of a store's Active and Begin. Conditions: a store that lies in a memory; no generation is the last one.
-/
namespace Go.Proofs.YtdebfniifijjoaaDoor
open Go.RowKit Kit Go.Shelf
set_option linter.unusedVariables false
theorem results_tmp4 {fn : Func} {t u v x : Tmp} (h : fn.results = #[.tmp t, .tmp u, .tmp v, .tmp x]) (tmps : Array Value) (P : Program) (w : World) :
    (results fn tmps).run P w = .ok (.tuple #[tmps.getD t undef, tmps.getD u undef, tmps.getD v undef, tmps.getD x undef]) w := by
  simp [results, h]
def actR (v : Nat → Nat) (base size : Nat) : Value :=
  match actB v base size with
  | none => .tuple #[.int .u32 0, .string emp, .int .u32 0, .int .i64 4]
  | some k => .tuple #[.int .u32 (hdF v (bkAt base size k) 1), .string (dataB v (bkAt base size k)), .int .u32 (hdF v (bkAt base size k) 0), .int .i64 0]
def ActvQ (bm bw n safe : Nat) (s : MS) (base size : Nat) (w : World) (e : Ending) (w' : World) : Prop := e = .returned (actR s.v base size) ∧ RdQ bm bw n safe s w w'
set_option maxRecDepth 100000 in
set_option maxHeartbeats 1600000 in
theorem actv_any {w : World} {bs bm bw base size n safe : Nat} {nx : Value} {s : MS} (h : SM w bs bm bw base size n safe nx s) :
    Calls Tryd.prog 22 #[.pointer (some ⟨bs, 0, none⟩)] w fun e w' => ActvQ bm bw n safe s base size w e w' := by
  have NO := Lib.hid (none_any h.st)
  have AC := Lib.hid (active_any h)
  cases ha : actB s.v base size with
  | none =>
    have FIN : Hid (∀ w', RdQ bm bw n safe s w w' → ActvQ bm bw n safe s base size w (.returned (.tuple #[.int .u32 0, .string emp, .int .u32 0, .int .i64 4])) w') := Lib.hid (fun w' r => ⟨by unfold actR; rw [ha], r⟩)
    unfold ActQ at AC
    rw [ha] at AC
    clear h ha
    go_enter Tryd.func22, Tryd.ntmps22
    go_wp2_with (fail)
    refine NO.out.mono ?_
    rintro e _ ⟨rfl, rfl⟩
    go_wp2_with (fail)
    refine AC.out.mono ?_
    rintro e w1 ⟨rfl, r1⟩
    have R1 := Lib.hid r1
    clear r1 AC
    go_wp2_with (fail)
    (try simp only [Exit.inBlock, Exit.then])
    refine bodyPost_ret (results_tmp4 rfl _ _ _) rfl ?_
    exact FIN.out _ R1.out
  | some k =>
    have FIN : Hid (∀ w', RdQ bm bw n safe s w w' → ActvQ bm bw n safe s base size w (.returned (.tuple #[.int .u32 (hdF s.v (bkAt base size k) 1), .string (dataB s.v (bkAt base size k)), .int .u32 (hdF s.v (bkAt base size k) 0), .int .i64 0])) w') := Lib.hid (fun w' r => ⟨by unfold actR; rw [ha], r⟩)
    unfold ActQ bkO at AC
    rw [ha] at AC
    dsimp only at AC
    generalize hdF s.v (bkAt base size k) = f at *
    generalize dataB s.v (bkAt base size k) = D at *
    clear h ha
    go_enter Tryd.func22, Tryd.ntmps22
    go_wp2_with (fail)
    refine NO.out.mono ?_
    rintro e _ ⟨rfl, rfl⟩
    go_wp2_with (fail)
    refine AC.out.mono ?_
    rintro e w1 ⟨⟨g, rfl, hg, go⟩, r1⟩
    have R1 := Lib.hid r1
    have y0 : w1.cell? ⟨g, 1, none⟩ = some (.int .u32 (f 0)) := cell_of go rfl
    have y1 : w1.cell? ⟨g, 2, none⟩ = some (.int .u32 (f 1)) := cell_of go rfl
    have y6 : w1.cell? ⟨g, 6, none⟩ = some (.string D) := cell_of go rfl
    have hgl := lt_of_obj go
    clear r1 AC go
    go_wp2_with (fail)
    refine region_calm (by kernel_rfl) (by kernel_rfl) ?_
    repeat (go_big_quiet_step ((fail)))
    refine wpQuiet_nil ?_; intro _ hw'; obtain ⟨xq, hw''⟩ := hw'; subst hw''
    go_wp2_with (fail)
    (try simp only [Exit.inBlock, Exit.then])
    refine bodyPost_ret (results_tmp4 rfl _ _ _) rfl ?_
    obtain ⟨⟨s', l, m⟩, k1⟩ := R1.out
    exact FIN.out _ ⟨⟨s', l, m.below (below_ext _ _)⟩, k1.trans (MK.below (below_ext _ _))⟩
/-- Only the memory, the store and what is new is written. -/
def MB (bm bw bs : Nat) : World → World → Prop := Mod (fun k => k = bm ∨ k = bw ∨ k = bs)
theorem MK.mb {bm bw bs : Nat} {a b : World} (h : MK bm bw a b) : MB bm bw bs a b := Mod.mono h (fun k _ e => by rcases e with e | e <;> simp [e])
theorem MB.trans {bm bw bs : Nat} {a b c : World} (h : MB bm bw bs a b) (h' : MB bm bw bs b c) : MB bm bw bs a c := Mod.trans h h' (fun _ _ h => h)
theorem MB.setS {bm bw bs : Nat} {a b : World} (h : MB bm bw bs a b) (i : Nat) (v : Value) : MB bm bw bs a (b.setCell ⟨bs, i, none⟩ v) := Mod.setCell h (Or.inl (Or.inr (Or.inr rfl))) v
/-- Where the next patch is staged. -/
def othB (v : Nat → Nat) (base size : Nat) : Nat := match actB v base size with | none => 0 | some k => 1 - k
/-- No generation is the last one. -/
def NotLast (v : Nat → Nat) (base size : Nat) : Prop := ∀ k, actB v base size = some k → hdF v (bkAt base size k) 0 < 4294967295
theorem actB_lt {v : Nat → Nat} {base size k : Nat} (h : actB v base size = some k) : k < 2 := by
  unfold actB at h
  split at h
  · split at h
    · split at h <;> simp at h <;> omega
    · simp at h; omega
  · split at h
    · simp at h; omega
    · cases h
theorem tab_ne {w : World} {b : Nat} {p : Option Addr} {c : List Value} {t : TypeId} (hT : Tab w) (h : w.heap[b]? = some (.cells (Value.pointer p :: c).toArray t)) : b ≠ 0 := by
  rintro rfl
  have h1 := hT 0 (by decide)
  have h2 : w.cell? ⟨0, 0, none⟩ = some (.pointer p) := cell_of h rfl
  rw [h2] at h1
  simp at h1
theorem Tab.modN {w w' : World} {B : Nat} (h : Tab w) (hB : B ≠ 0) (hm : Mod (fun k => k = B) w w') : Tab w' := fun j hj => by
  have h1 := h j hj
  have hlt := World.block_lt_of_cell? w _ h1
  rw [hm.cell hlt (fun e => by simp only at e; omega)]; exact h1
def BegQ (bs bm bw base size n safe : Nat) (s : MS) (id sum len : Nat) (w : World) (e : Ending) (w' : World) : Prop :=
  e = .returned (.int .i64 0) ∧ (∃ g, w.heap.size ≤ g ∧ SG w' g id sum len (othB s.v base size) ∧ ST w' bs bm base size (.pointer (some ⟨g, 0, none⟩))) ∧ (∃ s', s.Go [(bkAt base size (othB s.v base size), 0)] s' ∧ ME w' bm bw n safe s') ∧ MB bm bw bs w w'
theorem ST.set {w : World} {bs bm base size : Nat} {nx : Value} (h : ST w bs bm base size nx) (v : Value) : ST (w.setCell ⟨bs, 3, none⟩ v) bs bm base size v := hp_set (i := 3) h v
set_option maxRecDepth 100000 in
set_option maxHeartbeats 1600000 in
theorem begin_any {w : World} {bs bm bw base size n safe : Nat} {nx : Value} {s : MS} (h : SM w bs bm bw base size n safe nx s) (hNL : NotLast s.v base size) (id len sum : Nat) (hl : len ≤ size) :
    Calls Tryd.prog 47 #[.pointer (some ⟨bs, 0, none⟩), .int .u32 id, .int .i64 len, .int .u32 sum] w fun e w' => BegQ bs bm bw base size n safe s id sum len w e w' := by
  have NO := Lib.hid (none_any h.st)
  have AC := Lib.hid (active_any h)
  have H := Lib.hid h
  obtain ⟨hbs, hb1, hb2⟩ := h.lt
  have c2 : w.cell? ⟨bs, 2, none⟩ = some (.int .i64 size) := cell_of h.st rfl
  have d1 : decide ((size : Int) < (len : Int)) = false := by simp; omega
  have d1' : decide ((len : Int) > (size : Int)) = false := by simp; omega
  have d2 : decide ((len : Int) < 0) = false := by simp
  have hsz := h.h2
  have ob : othB s.v base size < 2 := by
    unfold othB
    cases ha : actB s.v base size with
    | none => decide
    | some k => have := actB_lt ha; show 1 - k < 2; omega
  have hno : bkAt base size (othB s.v base size) < n := by
    have := h.hn
    have : half size = 5 + (size + 3) / 4 := rfl
    unfold bkAt
    rcases (by omega : othB s.v base size = 0 ∨ othB s.v base size = 1) with e | e <;> rw [e] <;> omega
  have AT : Hid (∀ (w' : World) (nx : Value), ST w' bs bm base size nx → Calls Tryd.prog 57 #[.pointer (some ⟨bs, 0, none⟩), .int .i64 (othB s.v base size)] w' fun e w'' => e = .returned (.int .i64 (bkAt base size (othB s.v base size))) ∧ Below w'.heap.size w' w'') := Lib.hid (fun w' nx h' => (at_any h' h.hb h.h1 h.h2 _ ob).mono fun e w'' ⟨he, x, hx⟩ => ⟨he, by rw [hx]; exact below_ext _ x⟩)
  have OB : Hid (othB s.v base size = match actB s.v base size with | none => 0 | some k => 1 - k) := Lib.hid rfl
  have QQ : Hid (∀ {e : Ending} {w' : World}, (e = .returned (.int .i64 0) ∧ (∃ g, w.heap.size ≤ g ∧ SG w' g id sum len (othB s.v base size) ∧ ST w' bs bm base size (.pointer (some ⟨g, 0, none⟩))) ∧ (∃ s', s.Go [(bkAt base size (othB s.v base size), 0)] s' ∧ ME w' bm bw n safe s') ∧ MB bm bw bs w w') → BegQ bs bm bw base size n safe s id sum len w e w') := Lib.hid (fun h => h)
  generalize othB s.v base size = o at *
  obtain ⟨a, ha0⟩ : ∃ a, a = bkAt base size o := ⟨_, rfl⟩
  rw [← ha0] at AT QQ hno
  clear ha0
  cases ha : actB s.v base size with
  | none =>
    have EO : o = 0 := by rw [OB.out, ha]
    unfold ActQ at AC
    rw [ha] at AC
    subst EO
    rw [show ((0 : Nat) : Int) = 0 from rfl] at AT
    clear h ha OB
    go_enter Tryd.func47, Tryd.ntmps47
    go_wp2_with (fail)
    refine NO.out.mono ?_
    rintro e _ ⟨rfl, rfl⟩
    go_wp2_with (fail)
    refine AC.out.mono ?_
    rintro e w1 ⟨rfl, ⟨s1, l1, m1⟩, k1⟩
    have L1 := Lib.hid l1; have M1 := Lib.hid m1; have K1 := Lib.hid k1
    have S1 := Lib.hid ((H.out.go m1 k1).st)
    have T1 := Lib.hid ((H.out.go m1 k1).tab)
    clear l1 m1 k1 AC
    have y3 : w1.cell? ⟨bs, 3, none⟩ = some nx := cell_of S1.out rfl
    have y0 : w1.cell? ⟨bs, 0, none⟩ = some (.pointer (some ⟨bm, 0, none⟩)) := cell_of S1.out rfl
    have z : ∀ j, w1.frozen? ⟨bs, j, none⟩ = false := fun j => free_of S1.out
    have hl1 : bs < w1.heap.size := lt_of_obj S1.out
    go_wp2_with (fail)
    have hg1 : w.heap.size ≤ w1.heap.size := K1.out.size
    have S2 := Lib.hid (show ST _ bs bm base size (.pointer (some ⟨w1.heap.size, 0, none⟩)) from hp_old (S1.out.set (.pointer (some ⟨w1.heap.size, 0, none⟩))) (.cells #[.int .u32 id, .int .u32 sum, .int .i64 len, .int .i64 0] 118))
    have M2 := Lib.hid ((M1.out.modN (B := bs) (mod_at (i := 3) (Mod.refl _ _) (.pointer (some ⟨w1.heap.size, 0, none⟩))) (Ne.symm H.out.ne.1) (Ne.symm H.out.ne.2)).below (bl_alloc (Below.refl _ _) (.cells #[.int .u32 id, .int .u32 sum, .int .i64 len, .int .i64 0] 118)))
    have T2 := Lib.hid ((T1.out.modN (tab_ne T1.out S1.out) (mod_at (i := 3) (Mod.refl _ _) (.pointer (some ⟨w1.heap.size, 0, none⟩)))).below (bl_alloc (Below.refl _ _) (.cells #[.int .u32 id, .int .u32 sum, .int .i64 len, .int .i64 0] 118)))
    have G2 : Hid (SG ((w1.setCell ⟨bs, 3, none⟩ (.pointer (some ⟨w1.heap.size, 0, none⟩))).alloc (.cells #[.int .u32 id, .int .u32 sum, .int .i64 len, .int .i64 0] 118)) w1.heap.size id sum len 0) := Lib.hid (by
      have := hp_new (w1.setCell ⟨bs, 3, none⟩ (.pointer (some ⟨w1.heap.size, 0, none⟩))) (.cells #[.int .u32 id, .int .u32 sum, .int .i64 len, .int .i64 0] 118)
      rw [show (w1.setCell ⟨bs, 3, none⟩ (.pointer (some ⟨w1.heap.size, 0, none⟩))).heap.size = w1.heap.size by simp [World.setCell]] at this
      exact this)
    have K2 : Hid (MB bm bw bs w ((w1.setCell ⟨bs, 3, none⟩ (.pointer (some ⟨w1.heap.size, 0, none⟩))).alloc (.cells #[.int .u32 id, .int .u32 sum, .int .i64 len, .int .i64 0] 118))) := Lib.hid (Mod.alloc (K1.out.mb.setS 3 _) _)
    clear y0 y3 z hl1
    generalize ((w1.setCell ⟨bs, 3, none⟩ (.pointer (some ⟨w1.heap.size, 0, none⟩))).alloc (.cells #[.int .u32 id, .int .u32 sum, .int .i64 len, .int .i64 0] 118)) = w2 at *
    have y0 : w2.cell? ⟨bs, 0, none⟩ = some (.pointer (some ⟨bm, 0, none⟩)) := cell_of S2.out rfl
    have hl2 : bs < w2.heap.size := lt_of_obj S2.out
    have WR := Lib.hid (fun x => write_any (M2.out.below (below_ext w2 x)) (T2.out.below (below_ext w2 x)) a 0 hno (by omega))
    refine region_calm_tail 7 (by kernel_rfl) (by kernel_rfl) ?_
    simp only [List.take_succ_cons, List.take_zero, List.drop_succ_cons, List.drop_zero]
    repeat (go_big_quiet_step ((go_at_call 57; exact calm_of (AT.out _ _ (S2.out.below (below_ext _ _))))))
    refine wpQuiet_nil ?_; intro _ hw'; obtain ⟨xq, hw''⟩ := hw'; subst hw''
    go_wp2_with (fail)
    refine (WR.out xq).mono ?_
    rintro e w3 ⟨rfl, m3, k3⟩
    have M3 := Lib.hid m3
    have K3 := Lib.hid ((MK.below (below_ext w2 xq)).trans k3)
    clear m3 k3
    go_wp2_with (fail)
    go_ret
    have hgn : w1.heap.size ≠ bm ∧ w1.heap.size ≠ bw := by omega
    exact QQ.out ⟨rfl, ⟨_, hg1, K3.out.keeps G2.out (by omega), S2.out.mk' K3.out H.out.ne.1 H.out.ne.2⟩, ⟨_, L1.out.go.trans (go_store _ _ _), M3.out⟩, K2.out.trans K3.out.mb⟩
  | some k =>
    have EO : o = 1 - k := by rw [OB.out, ha]
    have hk2 := actB_lt ha
    have hnl := hNL k ha
    unfold ActQ bkO at AC
    rw [ha] at AC
    dsimp only at AC
    generalize hdF s.v (bkAt base size k) = f at *
    generalize dataB s.v (bkAt base size k) = D at *
    have W1 : IntKind.i64.wrap (1 - (k : Int)) = (o : Int) := by rw [IntWalk.i64_in _ (by omega)]; omega
    have W1' : (1 - (k : Int)) = (o : Int) := by omega
    clear h ha OB EO hNL
    have n1 : ((f 0 : Int) == 4294967295) = false := by simp; omega
    have n2 : (f 0 == 4294967295) = false := by simp; omega
    have n3 : ¬ (f 0 = 4294967295) := by omega
    go_enter Tryd.func47, Tryd.ntmps47
    go_wp2_with (fail)
    refine NO.out.mono ?_
    rintro e _ ⟨rfl, rfl⟩
    go_wp2_with (fail)
    refine AC.out.mono ?_
    rintro e w1 ⟨⟨g, rfl, hg, go⟩, ⟨s1, l1, m1⟩, k1⟩
    have L1 := Lib.hid l1; have M1 := Lib.hid m1; have K1 := Lib.hid k1
    have S1 := Lib.hid ((H.out.go m1 k1).st)
    have T1 := Lib.hid ((H.out.go m1 k1).tab)
    have x0 : w1.cell? ⟨g, 0, none⟩ = some (.int .i64 k) := cell_of go rfl
    have x1 : w1.cell? ⟨g, 1, none⟩ = some (.int .u32 (f 0)) := cell_of go rfl
    have hgl := lt_of_obj go
    clear l1 m1 k1 AC go
    have y3 : w1.cell? ⟨bs, 3, none⟩ = some nx := cell_of S1.out rfl
    have y0 : w1.cell? ⟨bs, 0, none⟩ = some (.pointer (some ⟨bm, 0, none⟩)) := cell_of S1.out rfl
    have z : ∀ j, w1.frozen? ⟨bs, j, none⟩ = false := fun j => free_of S1.out
    have hl1 : bs < w1.heap.size := lt_of_obj S1.out
    go_wp2_with (fail)
    have hg1 : w.heap.size ≤ w1.heap.size := K1.out.size
    have S2 := Lib.hid (show ST _ bs bm base size (.pointer (some ⟨w1.heap.size, 0, none⟩)) from hp_old (S1.out.set (.pointer (some ⟨w1.heap.size, 0, none⟩))) (.cells #[.int .u32 id, .int .u32 sum, .int .i64 len, .int .i64 (o : Nat)] 118))
    have M2 := Lib.hid ((M1.out.modN (B := bs) (mod_at (i := 3) (Mod.refl _ _) (.pointer (some ⟨w1.heap.size, 0, none⟩))) (Ne.symm H.out.ne.1) (Ne.symm H.out.ne.2)).below (bl_alloc (Below.refl _ _) (.cells #[.int .u32 id, .int .u32 sum, .int .i64 len, .int .i64 (o : Nat)] 118)))
    have T2 := Lib.hid ((T1.out.modN (tab_ne T1.out S1.out) (mod_at (i := 3) (Mod.refl _ _) (.pointer (some ⟨w1.heap.size, 0, none⟩)))).below (bl_alloc (Below.refl _ _) (.cells #[.int .u32 id, .int .u32 sum, .int .i64 len, .int .i64 (o : Nat)] 118)))
    have G2 : Hid (SG ((w1.setCell ⟨bs, 3, none⟩ (.pointer (some ⟨w1.heap.size, 0, none⟩))).alloc (.cells #[.int .u32 id, .int .u32 sum, .int .i64 len, .int .i64 (o : Nat)] 118)) w1.heap.size id sum len o) := Lib.hid (by
      have := hp_new (w1.setCell ⟨bs, 3, none⟩ (.pointer (some ⟨w1.heap.size, 0, none⟩))) (.cells #[.int .u32 id, .int .u32 sum, .int .i64 len, .int .i64 (o : Nat)] 118)
      rw [show (w1.setCell ⟨bs, 3, none⟩ (.pointer (some ⟨w1.heap.size, 0, none⟩))).heap.size = w1.heap.size by simp [World.setCell]] at this
      exact this)
    have K2 : Hid (MB bm bw bs w ((w1.setCell ⟨bs, 3, none⟩ (.pointer (some ⟨w1.heap.size, 0, none⟩))).alloc (.cells #[.int .u32 id, .int .u32 sum, .int .i64 len, .int .i64 (o : Nat)] 118))) := Lib.hid (Mod.alloc (K1.out.mb.setS 3 _) _)
    clear y0 y3 z hl1
    generalize ((w1.setCell ⟨bs, 3, none⟩ (.pointer (some ⟨w1.heap.size, 0, none⟩))).alloc (.cells #[.int .u32 id, .int .u32 sum, .int .i64 len, .int .i64 (o : Nat)] 118)) = w2 at *
    have y0 : w2.cell? ⟨bs, 0, none⟩ = some (.pointer (some ⟨bm, 0, none⟩)) := cell_of S2.out rfl
    have hl2 : bs < w2.heap.size := lt_of_obj S2.out
    have WR := Lib.hid (fun x => write_any (M2.out.below (below_ext w2 x)) (T2.out.below (below_ext w2 x)) a 0 hno (by omega))
    refine region_calm_tail 7 (by kernel_rfl) (by kernel_rfl) ?_
    simp only [List.take_succ_cons, List.take_zero, List.drop_succ_cons, List.drop_zero]
    repeat (go_big_quiet_step ((go_at_call 57; exact calm_of (AT.out _ _ (S2.out.below (below_ext _ _))))))
    refine wpQuiet_nil ?_; intro _ hw'; obtain ⟨xq, hw''⟩ := hw'; subst hw''
    go_wp2_with (fail)
    refine (WR.out xq).mono ?_
    rintro e w3 ⟨rfl, m3, k3⟩
    have M3 := Lib.hid m3
    have K3 := Lib.hid ((MK.below (below_ext w2 xq)).trans k3)
    clear m3 k3
    go_wp2_with (fail)
    go_ret
    have hgn : w1.heap.size ≠ bm ∧ w1.heap.size ≠ bw := by omega
    exact QQ.out ⟨rfl, ⟨_, hg1, K3.out.keeps G2.out (by omega), S2.out.mk' K3.out H.out.ne.1 H.out.ne.2⟩, ⟨_, L1.out.go.trans (go_store _ _ _), M3.out⟩, K2.out.trans K3.out.mb⟩
end Go.Proofs.YtdebfniifijjoaaDoor
