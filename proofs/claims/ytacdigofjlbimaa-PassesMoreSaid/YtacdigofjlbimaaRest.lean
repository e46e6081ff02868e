/-
  The walks of after and rest. Conditions: valid windows.
-/
import Derived.Test.YtacdigofjlbimaaMemo
namespace Go.Proofs.Ytacdigofjlbimaa
open Go.RowKit Kit Go.Maps
set_option linter.unusedVariables false
/-- What rest asks of the world. -/
structure RP (w : World) (p mb : Nat) (a : Option Addr) (n c : Nat) (L : List Wn) (gap : Int) : Prop where
  ws : WS w a n c L
  po : PO w p a n c gap mb
  me : Memo w mb (wl L) n gap
theorem RP.pm {w : World} {p mb : Nat} {a : Option Addr} {n c : Nat} {L : List Wn} {gap : Int} (h : RP w p mb a n c L gap) : p ≠ mb := by
  obtain ⟨es, cl, hm⟩ := h.me.map
  intro e
  have h2 := h.po
  unfold PO at h2
  rw [e, hm] at h2
  cases h2
theorem RP.below {w w' : World} {p mb : Nat} {a : Option Addr} {n c : Nat} {L : List Wn} {gap : Int} (h : RP w p mb a n c L gap) (hb : Below w.heap.size w w') : RP w' p mb a n c L gap :=
  ⟨h.ws.below hb, below_keeps hb h.po (lt_of_obj h.po), h.me.below hb⟩
theorem RP.mod {w w' : World} {p mb : Nat} {a : Option Addr} {n c : Nat} {L : List Wn} {gap : Int} (h : RP w p mb a n c L gap) (hm : Memo w' mb (wl L) n gap) (hb : Mod (fun x => x = mb) w w') : RP w' p mb a n c L gap := by
  obtain ⟨es, cl, hmm⟩ := h.me.map
  exact ⟨h.ws.keep (keep_map hmm hb), hb.keeps h.po h.pm, hm⟩
theorem RP.set {w : World} {p mb b i : Nat} {v : Value} {a : Option Addr} {n c : Nat} {L : List Wn} {gap : Int} (h : RP w p mb a n c L gap) {w0 : World} (h0 : RP w0 p mb a n c L gap) (hb : w0.heap.size ≤ b) (hW : Keep w0 (w.setCell ⟨b, i, none⟩ v)) : RP (w.setCell ⟨b, i, none⟩ v) p mb a n c L gap := by
  obtain ⟨es, cl, hmm⟩ := h0.me.map
  have h1 := lt_of_obj hmm
  have h2 := lt_of_obj h0.po
  exact ⟨h0.ws.keep hW, hp_set_ne h.po (by omega) _, h.me.setNe (by omega)⟩
def RestC (L : List Wn) (gap : Int) (a : Option Addr) (n c mb p : Nat) (k : Nat) : Prop := ∀ (last : Option Nat) (bud : Int) (w : World), RP w p mb a n c L gap → 0 ≤ bud ∧ bud ≤ 1000 → (∀ j, last = some j → j < n) →
  Calls Try.prog 26 #[.pointer (some ⟨p, 0, none⟩), pt (lz last) k bud] w fun e w' => e = .returned (gv (rest (wl L) n gap k last bud)) ∧ Memo w' mb (wl L) n gap ∧ Mod (fun x => x = mb) w w'
def AftC (L : List Wn) (gap : Int) (a : Option Addr) (n c mb p : Nat) (k : Nat) : Prop := ∀ (i : Nat) (bud : Int) (w : World), RP w p mb a n c L gap → 0 ≤ bud ∧ bud ≤ 1000 → i < n →
  Calls Try.prog 28 #[.pointer (some ⟨p, 0, none⟩), pt i k bud] w fun e w' => e = .returned (gv (plus (rest (wl L) n gap k (some i) bud) (wl L i).va)) ∧ Memo w' mb (wl L) n gap ∧ Mod (fun x => x = mb) w w'
theorem rest_bound {W : Nat → Wn} {n : Nat} {gap : Int} (hv : vL W n) (k : Nat) (last : Option Nat) (bud : Int) : 0 ≤ (rest W n gap k last bud).1 ∧ (rest W n gap k last bud).1 ≤ k * 1099511627776 ∧ 0 ≤ (rest W n gap k last bud).2 ∧ (rest W n gap k last bud).2 ≤ k := by
  obtain ⟨h1, h2⟩ := rest_many (W := W) (m := n) (gap := gap) k last bud
  obtain ⟨p, hp, hk⟩ := rest_is (W := W) (m := n) (gap := gap) k last bud
  refine ⟨?_, ?_, h1, h2⟩
  · have := rest_ge (W := W) (m := n) (gap := gap) k last bud [] (adm_nil _ _ _)
    unfold ge key value at this
    simp at this
    omega
  · have hlt := adm_lt k last bud p hp
    have e1 : value W p = (rest W n gap k last bud).1 := congrArg Prod.fst hk
    have e2 : (p.length : Int) = (rest W n gap k last bud).2 := congrArg Prod.snd hk
    have : value W p ≤ p.length * 1099511627776 := by
      clear hk e1 e2 hp
      induction p with
      | nil => simp [value]
      | cons i p ih =>
        have := ih (fun x hx => hlt x (by simp [hx]))
        have h3 := hv i (hlt i (by simp))
        unfold vW at h3
        simp only [value, List.length_cons]
        omega
    omega
/-- What has been found after i windows. -/
def restTo (W : Nat → Wn) (n : Nat) (gap : Int) (k : Nat) (last : Option Nat) (bud : Int) (i : Nat) : Int × Int :=
  match k with
  | 0 => (0, 0)
  | k + 1 => (List.range i).foldl (rnd W gap last bud (aft W n gap k bud)) (0, 0)
theorem restTo_zero (W : Nat → Wn) (n : Nat) (gap : Int) (k : Nat) (last : Option Nat) (bud : Int) : restTo W n gap k last bud 0 = (0, 0) := by cases k <;> rfl
theorem restTo_all (W : Nat → Wn) (n : Nat) (gap : Int) (k : Nat) (last : Option Nat) (bud : Int) : restTo W n gap k last bud n = rest W n gap k last bud := by cases k <;> rfl
theorem restTo_no {W : Nat → Wn} {n : Nat} {gap : Int} {k : Nat} {last : Option Nat} {bud : Int} {i : Nat} (h : nextT W gap k last bud i = false) : restTo W n gap k last bud (i + 1) = restTo W n gap k last bud i := by
  cases k with
  | zero => rfl
  | succ k =>
    have h2 : nextOk W gap last bud i = false := by unfold nextT at h; simpa using h
    show (List.range (i + 1)).foldl _ _ = (List.range i).foldl _ _
    rw [List.range_succ, List.foldl_append]
    simp [rnd, h2]
theorem restTo_yes {W : Nat → Wn} {n : Nat} {gap : Int} {k : Nat} {last : Option Nat} {bud : Int} {i : Nat} (h : nextT W gap (k + 1) last bud i = true) : restTo W n gap (k + 1) last bud (i + 1) = if gt (aft W n gap k bud i) (restTo W n gap (k + 1) last bud i) = true then aft W n gap k bud i else restTo W n gap (k + 1) last bud i := by
  have h2 : nextOk W gap last bud i = true := by unfold nextT at h; simpa using h
  show (List.range (i + 1)).foldl _ _ = if gt _ ((List.range i).foldl _ _) = true then _ else (List.range i).foldl _ _
  rw [List.range_succ, List.foldl_append]
  simp [rnd, h2]
theorem r1_of {w W : World} {z K bud : Int} (hW : W = (w.alloc (.cells #[.int .i64 z, .int .i64 K, .int .i64 bud] 55)).alloc (.cells #[.int .i64 0, .int .i64 0] 57)) :
    Below w.heap.size w W ∧ W.heap[w.heap.size]? = some (.cells #[.int .i64 z, .int .i64 K, .int .i64 bud] 55) ∧ W.heap[w.heap.size + 1]? = some (.cells #[.int .i64 0, .int .i64 0] 57) ∧ W.heap.size = w.heap.size + 1 + 1 := by
  subst hW
  refine ⟨bl_alloc (bl_alloc (Below.refl _ _) _) _, hp_old (hp_new w _) _, ?_, by simp⟩
  have := hp_new (w.alloc (.cells #[.int .i64 z, .int .i64 K, .int .i64 bud] 55)) (.cells #[.int .i64 0, .int .i64 0] 57)
  rw [World.size_alloc] at this
  exact this
theorem results_cell1 {fn : Func} {p : Tmp} {ty : TypeId} (h : fn.results = #[.cell p ty]) (tmps : Array Value) (P : Program) (w : World) :
    (results fn tmps).run P w = ((asAddr (tmps.getD p undef)).run P w).andThen fun a w₁ => (loadVar ty a).run P w₁ := by
  simp only [results, h]
  simp [Sem.run_bind, Result.andThen]
theorem rs_fin {fn : Func} (hfn : fn.results = #[.cell 4 57]) {Q : Ending → World → Prop} {W : World} {R : Nat} {g : Int × Int} {c : Array Value} (tmps : Array Value) (h4 : tmps.getD 4 undef = .pointer (some ⟨R, 0, none⟩)) (hr : W.heap[R]? = some (.cells c 57)) (hc : c = #[.int .i64 g.1, .int .i64 g.2])
    (hp : Q (.returned (gv g)) W) : bodyPost Try.prog fn Q .ret { tmps := tmps, defers := [] } W := by
  subst hc
  refine ⟨rfl, _, ?_, hp⟩
  have r0 := cell_of (i := 0) hr rfl
  have r1 := cell_of (i := 1) hr rfl
  rw [results_cell1 hfn, h4]
  go_simp
/-- What the loop of rest keeps. -/
structure RI (w : World) (mb : Nat) (W : Nat → Wn) (n : Nat) (gap z K bud : Int) (g : Int × Int) (wr : World) : Prop where
  me : Memo wr mb W n gap
  md : Mod (fun x => x = mb) w wr
  b0 : wr.heap[w.heap.size]? = some (.cells #[.int .i64 z, .int .i64 K, .int .i64 bud] 55)
  b1 : wr.heap[w.heap.size + 1]? = some (.cells #[.int .i64 0, .int .i64 0] 57)
  b2 : wr.heap[w.heap.size + 1 + 1]? = some (.cells #[.int .i64 g.1, .int .i64 g.2] 57)
theorem RI.below {w : World} {mb n : Nat} {W : Nat → Wn} {gap z K bud : Int} {g : Int × Int} {wr wr' : World} (h : RI w mb W n gap z K bud g wr) (hb : Below wr.heap.size wr wr') : RI w mb W n gap z K bud g wr' :=
  ⟨h.me.below hb, h.md.trans (Mod.of_below (S := fun x => x = mb) hb) (fun _ _ h => h), below_keeps hb h.b0 (lt_of_obj h.b0), below_keeps hb h.b1 (lt_of_obj h.b1), below_keeps hb h.b2 (lt_of_obj h.b2)⟩
theorem RI.mod {w : World} {mb n : Nat} {W : Nat → Wn} {gap z K bud : Int} {g : Int × Int} {wr wr' : World} (h : RI w mb W n gap z K bud g wr) (hmb : mb < w.heap.size) (hm : Memo wr' mb W n gap) (hb : Mod (fun x => x = mb) wr wr') : RI w mb W n gap z K bud g wr' :=
  ⟨hm, h.md.trans hb (fun _ _ h => h), hb.keeps h.b0 (by omega), hb.keeps h.b1 (by omega), hb.keeps h.b2 (by omega)⟩
theorem RI.set {w : World} {mb n : Nat} {W : Nat → Wn} {gap z K bud : Int} {g g' : Int × Int} {wr : World} (h : RI w mb W n gap z K bud g wr) (hmb : mb < w.heap.size) : RI w mb W n gap z K bud g' ((wr.setCell ⟨w.heap.size + 1 + 1, 0, none⟩ (.int .i64 g'.1)).setCell ⟨w.heap.size + 1 + 1, 1, none⟩ (.int .i64 g'.2)) :=
  ⟨(h.me.setNe (by omega)).setNe (by omega), (h.md.setCell (.inr (by simp; omega)) _).setCell (.inr (by simp; omega)) _, hp_set_ne (hp_set_ne h.b0 (by omega) _) (by omega) _, hp_set_ne (hp_set_ne h.b1 (by omega) _) (by omega) _, hp_set (hp_set h.b2 _) _⟩
/-- What rest leaves. -/
def RQ (w : World) (mb : Nat) (W : Nat → Wn) (n : Nat) (gap : Int) (g : Int × Int) (wr : World) : Prop := Memo wr mb W n gap ∧ Mod (fun x => x = mb) w wr ∧ wr.heap[w.heap.size + 1]? = some (.cells #[.int .i64 g.1, .int .i64 g.2] 57)
theorem RI.fin {w : World} {mb n : Nat} {W : Nat → Wn} {gap z K bud : Int} {g : Int × Int} {wr : World} (h : RI w mb W n gap z K bud g wr) (hmb : mb < w.heap.size) : RQ w mb W n gap g ((wr.setCell ⟨w.heap.size + 1, 0, none⟩ (.int .i64 g.1)).setCell ⟨w.heap.size + 1, 1, none⟩ (.int .i64 g.2)) :=
  ⟨(h.me.setNe (by omega)).setNe (by omega), (h.md.setCell (.inr (by simp)) _).setCell (.inr (by simp)) _, hp_set (hp_set h.b1 _) _⟩
set_option maxHeartbeats 3200000 in
theorem rest_of (L : List Wn) (gap : Int) (a : Option Addr) (n c mb p k : Nat) (hv : vL (wl L) n) (hg : 0 ≤ gap ∧ gap ≤ 1099511627776) (hk : k ≤ 40) (hn : n ≤ 40) (HA : ∀ k', k = k' + 1 → AftC L gap a n c mb p k') : RestC L gap a n c mb p k := by
  intro last bud w hRP hb hl
  obtain ⟨g, t, hrun, hgt⟩ := memo_look hRP.me last k bud hk hb (fun j hj => by have := hl j hj; omega)
  obtain ⟨R, hR⟩ : ∃ R, Hid (R = rest (wl L) n gap k last bud) := ⟨_, Lib.hid rfl⟩
  rw [← hR.out] at hgt ⊢
  have HRP := Lib.hid hRP
  obtain ⟨W2, hW2⟩ : ∃ W2, W2 = (w.alloc (.cells #[.int .i64 (lz last), .int .i64 k, .int .i64 bud] 55)).alloc (.cells #[.int .i64 0, .int .i64 0] 57) := ⟨_, rfl⟩
  have HW2 := Lib.hid hW2
  obtain ⟨b2, o0, o1, s2⟩ := r1_of hW2
  obtain ⟨es, cl, hm⟩ := hRP.me.map
  have hm2 := (below_keeps b2 hm (lt_of_obj hm)).trans hm.symm
  have L1 := hrun W2 hm2
  have L2 := hrun W2.drew hm2
  have L3 : ∀ q, _ := fun q => hrun (W2.drewN q) hm2
  have L4 : ∀ o, _ := fun o => hrun (W2.alloc o).drew (by rw [← hm2]; exact Below.heap_alloc _ _ _ (by have := lt_of_obj hm; have := b2.size; show mb < W2.heap.size; omega))
  have p0 : w.cell? ⟨p, 0, none⟩ = some (.slice a n c) := cell_of hRP.po rfl
  have p2 : W2.cell? ⟨p, 2, none⟩ = some (.map (some mb)) := cell_of (below_keeps b2 hRP.po (lt_of_obj hRP.po)) rfl
  have z0 : W2.cell? ⟨w.heap.size, 0, none⟩ = some (.int .i64 (lz last)) := cell_of o0 rfl
  have z1 : W2.cell? ⟨w.heap.size, 1, none⟩ = some (.int .i64 k) := cell_of o0 rfl
  have z2 : W2.cell? ⟨w.heap.size, 2, none⟩ = some (.int .i64 bud) := cell_of o0 rfl
  have hpl := lt_of_obj hRP.po
  have hpl2 := Nat.lt_of_lt_of_le hpl b2.size
  have hwl : w.heap.size < W2.heap.size := lt_of_obj o0
  have hne : p ≠ W2.heap.size := by omega
  have hne2 : w.heap.size ≠ W2.heap.size := by omega
  have p2' : (W2.alloc (.cells #[.int .i64 0, .int .i64 0] 57)).cell? ⟨p, 2, none⟩ = some (.map (some mb)) := ((bl_alloc (Below.refl _ _) _).cell (p := ⟨p, 2, none⟩) (by show _ < W2.heap.size; omega)).trans p2
  have z0' : (W2.alloc (.cells #[.int .i64 0, .int .i64 0] 57)).cell? ⟨w.heap.size, 0, none⟩ = some (.int .i64 (lz last)) := ((bl_alloc (Below.refl _ _) _).cell (p := ⟨w.heap.size, 0, none⟩) (by show _ < W2.heap.size; omega)).trans z0
  have z1' : (W2.alloc (.cells #[.int .i64 0, .int .i64 0] 57)).cell? ⟨w.heap.size, 1, none⟩ = some (.int .i64 k) := ((bl_alloc (Below.refl _ _) _).cell (p := ⟨w.heap.size, 1, none⟩) (by show _ < W2.heap.size; omega)).trans z1
  have z2' : (W2.alloc (.cells #[.int .i64 0, .int .i64 0] 57)).cell? ⟨w.heap.size, 2, none⟩ = some (.int .i64 bud) := ((bl_alloc (Below.refl _ _) _).cell (p := ⟨w.heap.size, 2, none⟩) (by show _ < W2.heap.size; omega)).trans z2
  clear hRP hW2 hrun b2 o0 o1 hm hm2
  go_enter Try.func26, Try.ntmps26
  go_wp2_with (fail)
  rw [← HW2.out]
  have HG := Lib.hid hgt
  have HRI : Hid (∀ W3, W3 = (W2.alloc (.cells #[.int .i64 g.1, .int .i64 g.2] 57)).drew → RI w mb (wl L) n gap (lz last) k bud g W3) := Lib.hid (by
    rintro _ rfl
    obtain ⟨b2, o0, o1, s2⟩ := r1_of HW2.out
    have B : Below w.heap.size w (W2.alloc (.cells #[.int .i64 g.1, .int .i64 g.2] 57)).drew := (bl_alloc b2 _).drew
    refine ⟨HRP.out.me.below B, Mod.of_below B, hp_old o0 _, hp_old o1 _, ?_⟩
    have := hp_new W2 (.cells #[.int .i64 g.1, .int .i64 g.2] 57)
    rw [s2] at this
    exact this)
  have hmb : mb < w.heap.size := by obtain ⟨es, cl, hm⟩ := HRP.out.me.map; exact lt_of_obj hm
  clear hgt
  go_region
  clear L1 L2 L3 L4 p2 z0 z1 z2 p2' z0' z1' z2' p0
  obtain ⟨W3, hW3⟩ : ∃ W3, W3 = (W2.alloc (.cells #[.int .i64 g.1, .int .i64 g.2] 57)).drew := ⟨_, rfl⟩
  rw [← hW3]
  have S3 := Lib.hid (HRI.out W3 hW3)
  clear HRI hW3 HW2 hpl2 hwl hne hne2 s2
  cases t with
  | true =>
    have e : g = R := by have := HG.out; rwa [if_pos rfl] at this
    subst e
    clear HG
    have q0 : W3.cell? ⟨w.heap.size + 1 + 1, 0, none⟩ = some (.int .i64 g.1) := cell_of S3.out.b2 rfl
    have q1 : W3.cell? ⟨w.heap.size + 1 + 1, 1, none⟩ = some (.int .i64 g.2) := cell_of S3.out.b2 rfl
    have s0 : W3.cell? ⟨w.heap.size + 1, 0, none⟩ = some (.int .i64 0) := cell_of S3.out.b1 rfl
    have s1 : W3.cell? ⟨w.heap.size + 1, 1, none⟩ = some (.int .i64 0) := cell_of S3.out.b1 rfl
    have f0 := free_of (i := 0) S3.out.b1
    have f1 := free_of (i := 1) S3.out.b1
    have l1 := lt_of_obj S3.out.b1
    have l2 := lt_of_obj S3.out.b2
    have F := Lib.hid (S3.out.fin hmb)
    go_wp2_with (fail)
    exact rs_fin rfl _ rfl F.out.2.2 rfl ⟨rfl, F.out.1, F.out.2.1⟩
  | false =>
    have e : g = (0, 0) := by have := HG.out; rwa [if_neg (by simp)] at this
    subst e
    clear HG
    obtain ⟨z, hz⟩ : ∃ z, Hid (z = lz last) := ⟨_, Lib.hid rfl⟩
    obtain ⟨K, hK⟩ : ∃ K : Int, Hid (K = (k : Int)) := ⟨_, Lib.hid rfl⟩
    rw [← hz.out, ← hK.out] at S3 ⊢
    have r0 : W3.cell? ⟨p, 0, none⟩ = some (.slice a n c) := by
      have := S3.out.md.keeps HRP.out.po HRP.out.pm
      exact cell_of this rfl
    have hp3 : p < W3.heap.size := Nat.lt_of_lt_of_le hpl S3.out.md.size
    go_wp2_with (fail)
    clear r0 hp3
    go_loopw [7, 8, 9, 10, 27] (fun _ _ _ _ i wr => ∃ j : Nat, j ≤ n ∧ i = .int .i64 j ∧ RI w mb (wl L) n gap z K bud (restTo (wl L) n gap k last bud j) wr) (fun _ _ _ _ i _ => n - (intOf i).toNat)
    case atStart => exact ⟨0, by omega, rfl, by rw [restTo_zero]; exact S3.out⟩
    case round =>
      clear S3
      obtain ⟨j, hj, rfl, hS⟩ := hrel
      have HS := Lib.hid hS
      clear hS
      by_cases hlt : j < n
      · have RP1 : Hid (RP wr p mb a n c L gap) := Lib.hid (HRP.out.mod HS.out.me HS.out.md)
        have NA := Lib.hid (next_any L gap k last bud j a n c mb p wr RP1.out.ws RP1.out.po hv hg hlt hl hk hb)
        have c0 : wr.cell? ⟨w.heap.size, 0, none⟩ = some (.int .i64 z) := cell_of HS.out.b0 rfl
        have c1 : wr.cell? ⟨w.heap.size, 1, none⟩ = some (.int .i64 K) := cell_of HS.out.b0 rfl
        have c2 : wr.cell? ⟨w.heap.size, 2, none⟩ = some (.int .i64 bud) := cell_of HS.out.b0 rfl
        have l0 := lt_of_obj HS.out.b0
        obtain ⟨T, hT⟩ : ∃ T, Hid (T = nextT (wl L) gap k last bud j) := ⟨_, Lib.hid rfl⟩
        rw [← hT.out] at NA
        cases T with
        | false =>
          have NA2 : Hid (Calls Try.prog 27 #[.pointer (some ⟨p, 0, none⟩), pt z K bud, .int .i64 j] wr fun e w' => e = .returned (.tuple #[pt z K bud, .bool false]) ∧ Below wr.heap.size wr w') := Lib.hid (by rw [hz.out, hK.out]; exact NA.out)
          have Z : Hid (restTo (wl L) n gap k last bud (j + 1) = restTo (wl L) n gap k last bud j) := Lib.hid (restTo_no hT.out.symm)
          clear NA
          go_wp2_with (fail)
          refine NA2.out.mono ?_
          rintro e w1 ⟨rfl, b1⟩
          have S1 := Lib.hid (HS.out.below b1)
          clear NA2 c0 c1 c2 l0 b1
          go_wp2_with (fail)
          go_roundw
          case rel => exact ⟨j + 1, by omega, by simp, by rw [Z.out]; exact S1.out.below (bl_alloc (Below.refl _ _) _)⟩
          case measure => simp [intOf]; omega
        | true =>
          obtain ⟨k', rfl⟩ : ∃ k', k = k' + 1 := by
            cases k with
            | zero => have := hT.out; simp [nextT] at this
            | succ k' => exact ⟨k', rfl⟩
          have eK : (((k' + 1 : Nat) : Int) - 1) = k' := by omega
          have hT2 := hT.out.symm
          have E1 := Lib.hid (restTo_yes (n := n) hT2)
          have hco : 0 ≤ (wl L j).co := (hv j hlt).2.2.2.2.2.2.2.1
          have hco2 : (wl L j).co ≤ bud := by have := hT2; unfold nextT nextOk at this; simp at this; omega
          obtain ⟨BD, hBD⟩ : ∃ BD, Hid (BD = bud - (wl L j).co) := ⟨_, Lib.hid rfl⟩
          have hBDr : 0 ≤ BD ∧ BD ≤ 1000 := by rw [hBD.out]; omega
          have NA2 : Hid (Calls Try.prog 27 #[.pointer (some ⟨p, 0, none⟩), pt z K bud, .int .i64 j] wr fun e w' => e = .returned (.tuple #[pt j k' BD, .bool true]) ∧ Below wr.heap.size wr w') := Lib.hid (by
            rw [hz.out, hK.out, hBD.out]
            have := NA.out
            unfold nextV at this
            rw [if_pos rfl, eK] at this
            exact this)
          have AA := Lib.hid (fun W h => HA k' rfl j BD W h hBDr hlt)
          rw [show rest (wl L) n gap k' (some j) BD = rest (wl L) n gap k' (some j) (bud - (wl L j).co) by rw [hBD.out]] at AA
          change Hid (∀ W, _ → Calls _ _ _ W fun e w' => e = .returned (gv (aft (wl L) n gap k' bud j)) ∧ _) at AA
          generalize aft (wl L) n gap k' bud j = A at AA E1
          obtain ⟨gv1, gm1⟩ := A
          clear NA eK hT2 hco hco2
          go_wp2_with (fail)
          refine NA2.out.mono ?_
          rintro e w1 ⟨rfl, b1⟩
          have S1 := Lib.hid (HS.out.below b1)
          have RP4 : Hid (RP (w1.alloc (.cells #[.int .i64 j, .int .i64 k', .int .i64 BD] 55)) p mb a n c L gap) := Lib.hid ((RP1.out.below b1).below (bl_alloc (Below.refl _ _) _))
          have S4 := Lib.hid (S1.out.below (bl_alloc (Below.refl _ _) (.cells #[.int .i64 j, .int .i64 k', .int .i64 BD] 55)))
          clear NA2 c0 c1 c2 l0 b1 HS S1
          go_wp2_with (fail)
          refine (AA.out _ RP4.out).mono ?_
          rintro e w5 ⟨rfl, me5, md5⟩
          have S5 := Lib.hid (S4.out.mod hmb me5 md5)
          clear AA me5 md5 S4 RP4 RP1
          obtain ⟨B, hB⟩ : ∃ B, Hid (B = restTo (wl L) n gap (k' + 1) last bud j) := ⟨_, Lib.hid rfl⟩
          rw [← hB.out] at S5 E1
          obtain ⟨bv, bm⟩ := B
          have q0 : w5.cell? ⟨w.heap.size + 1 + 1, 0, none⟩ = some (.int .i64 bv) := cell_of S5.out.b2 rfl
          have q1 : w5.cell? ⟨w.heap.size + 1 + 1, 1, none⟩ = some (.int .i64 bm) := cell_of S5.out.b2 rfl
          have f0 := free_of (i := 0) S5.out.b2
          have f1 := free_of (i := 1) S5.out.b2
          have l2 := lt_of_obj S5.out.b2
          clear hB
          by_cases hd1 : bv < gv1
          · have hd : decide (bv < gv1) = true := by simpa using hd1
            have Z : Hid (∀ W, RI w mb (wl L) n gap z K bud ((gv1, gm1)) W → RI w mb (wl L) n gap z K bud (restTo (wl L) n gap (k' + 1) last bud (j + 1)) W) := Lib.hid (fun W h => by rw [E1.out, if_pos (by unfold gt; simp; omega)]; exact h)
            go_wp2_with (fail)
            go_roundw
            case rel => exact ⟨j + 1, by omega, by simp, Z.out _ ((S5.out.set (g' := (gv1, gm1)) hmb).below (bl_alloc (Below.refl _ _) _))⟩
            case measure => simp [intOf]; omega
          · have hd : decide (bv < gv1) = false := by simpa using hd1
            by_cases he1 : gv1 = bv
            · subst he1
              by_cases hm1 : gm1 < bm
              · have hm : decide (gm1 < bm) = true := by simpa using hm1
                have Z : Hid (∀ W, RI w mb (wl L) n gap z K bud ((gv1, gm1)) W → RI w mb (wl L) n gap z K bud (restTo (wl L) n gap (k' + 1) last bud (j + 1)) W) := Lib.hid (fun W h => by rw [E1.out, if_pos (by unfold gt; simp; omega)]; exact h)
                go_wp2_with (fail)
                go_roundw
                case rel => exact ⟨j + 1, by omega, by simp, Z.out _ ((S5.out.set (g' := (gv1, gm1)) hmb).below (bl_alloc (Below.refl _ _) _))⟩
                case measure => simp [intOf]; omega

              · have hm : decide (gm1 < bm) = false := by simpa using hm1
                have Z : Hid (∀ W, RI w mb (wl L) n gap z K bud ((gv1, bm)) W → RI w mb (wl L) n gap z K bud (restTo (wl L) n gap (k' + 1) last bud (j + 1)) W) := Lib.hid (fun W h => by rw [E1.out, if_neg (by unfold gt; simp; omega)]; exact h)
                go_wp2_with (fail)
                go_roundw
                case rel => exact ⟨j + 1, by omega, by simp, Z.out _ (S5.out.below (bl_alloc (Below.refl _ _) _))⟩
                case measure => simp [intOf]; omega

            · have he : (gv1 == bv) = false := by simpa using he1
              have Z : Hid (∀ W, RI w mb (wl L) n gap z K bud ((bv, bm)) W → RI w mb (wl L) n gap z K bud (restTo (wl L) n gap (k' + 1) last bud (j + 1)) W) := Lib.hid (fun W h => by rw [E1.out, if_neg (by unfold gt; simp; omega)]; exact h)
              go_wp2_with (fail)
              go_roundw
              case rel => exact ⟨j + 1, by omega, by simp, Z.out _ (S5.out.below (bl_alloc (Below.refl _ _) _))⟩
              case measure => simp [intOf]; omega

      · obtain rfl : j = n := by omega
        rw [restTo_all, ← hR.out] at HS
        obtain ⟨w6, hput, me6, hgr⟩ := memo_put (w := wr.drew) (HS.out.me.below (Below.refl _ _).drew) last k bud hk hb (fun i hi => by have := hl i hi; omega)
        rw [← hz.out, ← hK.out, ← hR.out] at hput
        have r2 : wr.cell? ⟨p, 2, none⟩ = some (.map (some mb)) := cell_of (HS.out.md.keeps HRP.out.po HRP.out.pm) rfl
        have hp3 : p < wr.heap.size := Nat.lt_of_lt_of_le hpl HS.out.md.size
        have c0 : wr.cell? ⟨w.heap.size, 0, none⟩ = some (.int .i64 z) := cell_of HS.out.b0 rfl
        have c1 : wr.cell? ⟨w.heap.size, 1, none⟩ = some (.int .i64 K) := cell_of HS.out.b0 rfl
        have c2 : wr.cell? ⟨w.heap.size, 2, none⟩ = some (.int .i64 bud) := cell_of HS.out.b0 rfl
        have q0 : wr.cell? ⟨w.heap.size + 1 + 1, 0, none⟩ = some (.int .i64 R.1) := cell_of HS.out.b2 rfl
        have q1 : wr.cell? ⟨w.heap.size + 1 + 1, 1, none⟩ = some (.int .i64 R.2) := cell_of HS.out.b2 rfl
        have S6 : Hid (RI w mb (wl L) j gap z K bud R w6) := Lib.hid (by
          have hs := HS.out
          have hdr : Mod (fun x => x = mb) wr w6 := (Mod.of_below (Below.refl wr.heap.size wr).drew).trans (Mod.mono (S := fun x => some x = some mb) ⟨hgr.os, hgr.tape, hgr.output, hgr.size, fun k hk hs => hgr.block k hk (fun e => hs e)⟩ (fun k _ h => Option.some.inj h)) (fun k _ h => h)
          exact hs.mod hmb me6 hdr)
        clear HA hgr me6
        go_wp2_with (fail)
        go_region
        have q0 : w6.cell? ⟨w.heap.size + 1 + 1, 0, none⟩ = some (.int .i64 R.1) := cell_of S6.out.b2 rfl
        have q1 : w6.cell? ⟨w.heap.size + 1 + 1, 1, none⟩ = some (.int .i64 R.2) := cell_of S6.out.b2 rfl
        have s0 : w6.cell? ⟨w.heap.size + 1, 0, none⟩ = some (.int .i64 0) := cell_of S6.out.b1 rfl
        have s1 : w6.cell? ⟨w.heap.size + 1, 1, none⟩ = some (.int .i64 0) := cell_of S6.out.b1 rfl
        have f0 := free_of (i := 0) S6.out.b1
        have f1 := free_of (i := 1) S6.out.b1
        have l1 := lt_of_obj S6.out.b1
        have l2 := lt_of_obj S6.out.b2
        have F := Lib.hid (S6.out.fin hmb)
        clear hput
        go_wp2_with (fail)
        exact rs_fin rfl _ rfl F.out.2.2 rfl ⟨rfl, F.out.1, F.out.2.1⟩
end Go.Proofs.Ytacdigofjlbimaa
