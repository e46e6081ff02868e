/-
  The walk of New, and of the methods that change a monitor. Conditions: lists of monitors that can be read.
-/
import Derived.Test.YthgilipffdcddaaObj
import Derived.Deep.AppendLies
import Derived.Deep.RegionLaw
namespace Go.Proofs.Ythgilipffdcddaa
open Go.RowKit Kit
set_option linter.unusedVariables false
/-- A fresh monitor. -/
def fresh (e : E) : Prop := e.cnt = 0 ∧ e.tr = false
theorem fresh_ec {e : E} (h : fresh e) : ec e = mc e ++ [.int .i64 0, .bool false] := by
  unfold ec mc; rw [h.1, h.2]; rfl
/-- A slice of monitors, as a list. -/
def MS (w : World) (v : Value) (L : List E) : Prop :=
  (∀ e ∈ L, fresh e) ∧ ((∃ b off c, v = .slice (some ⟨b, off, none⟩) L.length c ∧ b < w.heap.size ∧ ∀ i e, L[i]? = some e → ∀ j, j < 7 → w.cell? ⟨b, off + (i * 7 + j), none⟩ = (mc e)[j]?) ∨ (L = [] ∧ ∃ a c, v = .slice a 0 c))
theorem MS.below {w w' : World} {v : Value} {L : List E} (h : MS w v L) (hb : Below w.heap.size w w') : MS w' v L := by
  refine ⟨h.1, ?_⟩
  rcases h.2 with ⟨b, off, c, rfl, hlt, hc⟩ | h
  · left
    have := hb.size
    exact ⟨b, off, c, rfl, by omega, fun i e he j hj => by rw [(bcell hb).1 b _ hlt]; exact hc i e he j hj⟩
  · exact .inr h
def vE (e : E) : Bool := validB e.par e.lo e.hi e.per e.tier e.seq
theorem vE_ok {e : E} (h : vE e = true) (hf : fresh e) : okE e := by
  unfold vE at h; rw [validB_iff] at h; unfold okE; rw [hf.1]; omega
theorem info72 : (Try.prog.info? 72).map (fun i => (i.zero, i.size, i.bytes)) = some (some (.agg #[.int .i64 0, .int .i64 0, .int .i64 0, .int .i64 0, .int .i64 0, .int .i64 0, .bool false, .int .i64 0, .bool false]), 9, 72) := by kernel_rfl
def NW (W : World) (L : List E) (k : Nat) (wr : World) : Prop :=
  ∃ v, wr.heap[W.heap.size]? = some (.cells #[.bool true, v] 64) ∧ wr.ownsRow W.heap.size 72 9 v k ((L.take k).flatMap ec) ∧ Below W.heap.size W wr ∧ (∀ e ∈ L.take k, vE e = true) ∧ k ≤ 32
theorem new_grow {W w2 w3 : World} {L : List E} {k gg cap3 : Nat} {v : Value} {e : E} {o : Obj} (O2 : w2.ownsRow W.heap.size 72 9 v k ((L.take k).flatMap ec)) (B2 : Below W.heap.size W w2)
    (hg : (w2.alloc o).drew.grownBy w3 v.ownBlock) (h3 : w3.ownsRow W.heap.size 72 9 (.slice (some ⟨gg, 0, none⟩) (k + 1) cap3) (k + 1) ((L.take k).flatMap ec ++ ec e)) (k1 : w3.heap[W.heap.size]? = some (.cells #[.bool true, v] 64))
    (he : L[k]? = some e) (hv : vE e = true) (h4 : ∀ e ∈ L.take k, vE e = true) (h32 : k < 32) : NW W L (k + 1) (w3.setCell ⟨W.heap.size, 1, none⟩ (.slice (some ⟨gg, 0, none⟩) (k + 1) cap3)) := by
  refine ⟨_, hp_set k1 _, ?_, ?_, ?_, by omega⟩
  · rw [take_snoc L k e he, List.flatMap_append]
    refine own_mod (by simpa using h3) (mod_at (b := W.heap.size) (Mod.refl _ _) _) (fun j hj e => ?_)
    exact own_ne_obj h3 k1 (by decide) (by rw [hj, e])
  · exact bl_set (((bl_alloc B2 _).drew).grown hg (by have := B2.size; simp; omega) (fun j e => (O2.lt j e).1)) (Nat.le_refl _) _
  · rw [take_snoc L k e he]
    intro x hx
    rcases List.mem_append.1 hx with hx | hx
    · exact h4 x hx
    · obtain rfl := List.mem_singleton.1 hx; exact hv
def MNew (W : World) (L : List E) (e : Ending) (wr : World) : Prop :=
  (((∀ e ∈ L, vE e = true) ∧ L.length ≤ 32) ∧ ∃ v, e = .returned (.tuple #[.pointer (some ⟨W.heap.size, 0, none⟩), .int .i64 0]) ∧ FO wr W.heap.size W.heap.size v L ∧ Below W.heap.size W wr) ∨
  (¬ ((∀ e ∈ L, vE e = true) ∧ L.length ≤ 32) ∧ e = .returned (.tuple #[.pointer none, .int .i64 2]) ∧ Below W.heap.size W wr)
set_option maxHeartbeats 3200000 in
theorem new_some {L : List E} {w : World} (b off c : Nat) (hf : ∀ e ∈ L, fresh e) (hb : b < w.heap.size) (hc : ∀ i e, L[i]? = some e → ∀ j, j < 7 → w.cell? ⟨b, off + (i * 7 + j), none⟩ = (mc e)[j]?) (hlen : L.length ≤ maxLen) :
    Calls Try.prog 10 #[.slice (some ⟨b, off, none⟩) L.length c] w fun e w' => MNew w L e w' := by
  unfold maxLen at hlen
  obtain ⟨i0, hi, hz0, hz1, hz2⟩ := info_parts info72
  have S0 : Hid (NW w L 0 (w.alloc (.cells #[.bool true, .slice none 0 0] 64))) := Lib.hid ⟨_, hp_new w _, World.ownsRow_nil _ _ _ _, bl_alloc (Below.refl _ _) _, by simp, by omega⟩
  obtain ⟨n, hn⟩ : ∃ n, n = L.length := ⟨_, rfl⟩
  rw [← hn] at hlen ⊢
  have HN := Lib.hid hn
  have HF := Lib.hid hf; have HC := Lib.hid hc
  clear hf hc hn
  go_enter Try.func10, Try.ntmps10
  go_wp2_with (fail)
  go_loopw [11] (fun i wr => ∃ k : Nat, k ≤ n ∧ i = .int .i64 k ∧ NW w L k wr) (fun i _ => n - (intOf i).toNat)
  case atStart => exact ⟨0, by omega, rfl, S0.out⟩
  case round =>
    clear S0
    obtain ⟨k, hk, rfl, hS⟩ := hrel
    obtain ⟨v, h1, h2, h3, h4, h5⟩ := hS
    by_cases hlt : k < n
    · obtain ⟨e, he⟩ : ∃ e, L[k]? = some e := ⟨_, List.getElem?_eq_getElem (by have := HN.out; omega)⟩
      have hcell : ∀ j, j < 7 → wr.cell? ⟨b, off + (k * 7 + j), none⟩ = (mc e)[j]? := fun j hj => by rw [(bcell h3).1 b _ hb]; exact HC.out k e he j hj
      have c0 : wr.cell? ⟨b, off + k * 7, none⟩ = _ := hcell 0 (by omega)
      have c1 : wr.cell? ⟨b, off + k * 7 + 1, none⟩ = _ := hcell 1 (by omega)
      have c2 : wr.cell? ⟨b, off + k * 7 + 2, none⟩ = _ := hcell 2 (by omega)
      have c3 : wr.cell? ⟨b, off + k * 7 + 3, none⟩ = _ := hcell 3 (by omega)
      have c4 : wr.cell? ⟨b, off + k * 7 + 4, none⟩ = _ := hcell 4 (by omega)
      have c5 : wr.cell? ⟨b, off + k * 7 + 5, none⟩ = _ := hcell 5 (by omega)
      have c6 : wr.cell? ⟨b, off + k * 7 + 6, none⟩ = _ := hcell 6 (by omega)
      simp only [mc, List.getElem?_cons_succ, List.getElem?_cons_zero] at c0 c1 c2 c3 c4 c5 c6
      have d0 := cell_of (i := 0) h1 rfl
      have d1 := cell_of (i := 1) h1 rfl
      have df := free_of (i := 1) h1
      have hwl := h3.size
      have hwl2 := lt_of_obj h1
      have H1 := Lib.hid h1; have H2 := Lib.hid h2; have H3 := Lib.hid h3; have H4 := Lib.hid h4; have HE := Lib.hid he
      clear h1 h2 h3 h4 he hcell
      obtain ⟨T, hT⟩ : ∃ T, vE e = T := ⟨_, rfl⟩
      have HT := Lib.hid hT; clear hT
      obtain ⟨p, hp⟩ : ∃ p, p = e.par := ⟨_, rfl⟩
      obtain ⟨lo, hlo⟩ : ∃ p, p = e.lo := ⟨_, rfl⟩
      obtain ⟨hi', hhi⟩ : ∃ p, p = e.hi := ⟨_, rfl⟩
      obtain ⟨pe, hpe⟩ : ∃ p, p = e.per := ⟨_, rfl⟩
      obtain ⟨ti, hti⟩ : ∃ p, p = e.tier := ⟨_, rfl⟩
      obtain ⟨se, hse⟩ : ∃ p, p = e.seq := ⟨_, rfl⟩
      obtain ⟨on, hon⟩ : ∃ p, p = e.on := ⟨_, rfl⟩
      rw [← hp] at c0; rw [← hlo] at c1; rw [← hhi] at c2; rw [← hpe] at c3; rw [← hti] at c4; rw [← hse] at c5; rw [← hon] at c6
      have HM : Hid (mc e = [.int .i64 p, .int .i64 lo, .int .i64 hi', .int .i64 pe, .int .i64 ti, .int .i64 se, .bool on] ∧ vE e = validB p lo hi' pe ti se) := Lib.hid (by subst hp hlo hhi hpe hti hse hon; exact ⟨rfl, rfl⟩)
      clear hp hlo hhi hpe hti hse hon
      go_wp2_with (fail)
      refine (valid_any _ _ _ _ _ _ _ _).mono ?_
      rw [← HM.out.2, HT.out]
      rintro en w1 ⟨rfl, rfl⟩
      have hvs : ∃ a nn cc, v = .slice a nn cc ∧ nn = k := by
        rcases H2.out.2 with ⟨rfl, h0⟩ | ⟨g, cap, cur, rfl, _⟩
        · exact ⟨_, _, _, rfl, h0.symm⟩
        · exact ⟨_, _, _, rfl, rfl⟩
      obtain ⟨va, vn, vc, rfl, rfl⟩ := hvs
      obtain ⟨w2, hw2⟩ : ∃ w2, (wr.alloc (.cells #[.int .i64 p, .int .i64 lo, .int .i64 hi', .int .i64 pe, .int .i64 ti, .int .i64 se, .bool on] 30)).alloc (.cells #[.int .i64 p, .int .i64 lo, .int .i64 hi', .int .i64 pe, .int .i64 ti, .int .i64 se, .bool on] 30) = w2 := ⟨_, rfl⟩
      have a2 : Below wr.heap.size wr w2 := by rw [← hw2]; exact bl_alloc (bl_alloc (Below.refl _ _) _) _
      have mh : w2.heap[wr.heap.size]? = some (.cells #[.int .i64 p, .int .i64 lo, .int .i64 hi', .int .i64 pe, .int .i64 ti, .int .i64 se, .bool on] 30) := by rw [← hw2]; exact hp_old (hp_new wr _) _
      have hs2 : w.heap.size < w2.heap.size := by have := a2.size; omega
      have D2 := Lib.hid (below_keeps a2 H1.out hwl2)
      have O2 := Lib.hid (own_calm H2.out a2)
      have B2 := Lib.hid (bl_step H3.out a2)
      rw [hw2]
      clear hw2 d0 d1 df c0 c1 c2 c3 c4 c5 c6
      have m0 := cell_of (i := 0) mh rfl
      have m1 := cell_of (i := 1) mh rfl
      have m2 := cell_of (i := 2) mh rfl
      have m3 := cell_of (i := 3) mh rfl
      have m4 := cell_of (i := 4) mh rfl
      have m5 := cell_of (i := 5) mh rfl
      have m6 := cell_of (i := 6) mh rfl
      have mhl := lt_of_obj mh
      have d0 := cell_of (i := 0) D2.out rfl
      have d1 := cell_of (i := 1) D2.out rfl
      have df := free_of (i := 1) D2.out
      replace mh := Lib.hid mh
      obtain ⟨mB, hmB⟩ : ∃ mB, mB = wr.heap.size := ⟨_, rfl⟩
      rw [← hmB] at m0 m1 m2 m3 m4 m5 m6 mhl ⊢
      clear hmB
      cases T with
      | false =>
        go_wp2_with (fail)
        go_ret2
        refine .inr ⟨fun hh => ?_, rfl, B2.out⟩
        have := hh.1 e (List.mem_of_getElem? HE.out)
        rw [HT.out] at this; cases this
      | true =>
        by_cases h32 : vn = 32
        · subst h32
          go_wp2_with (fail)
          go_ret2
          refine .inr ⟨fun hh => ?_, rfl, B2.out⟩
          have := hh.2; have := HN.out; omega
        · have hne : ((vn : Int) == 32) = false := by simp; omega
          have H32 : vn < 32 := by omega
          clear h32
          have HNE : Hid (some w.heap.size ≠ (Value.slice va vn vc).ownBlock) := Lib.hid (own_ne_obj O2.out D2.out (by decide)).symm
          go_wp2_with (fail)
          go_region_law ((refine step_append_lies _ (by rfl) _ _ _ (by rfl) w.heap.size 72 i0 _ 9 72 Try.underlying62 hi hz0 hz1 hz2 rfl (by omega) (.slice va vn vc) vn _ (by rfl) ((O2.out.alloc _).drew) ⟨w2.heap.size, 0, none⟩ 1 1 [.int .i64 p, .int .i64 lo, .int .i64 hi', .int .i64 pe, .int .i64 ti, .int .i64 se, .bool on, .int .i64 0, .bool false] (by rfl) (by rfl) (World.news_of_block (cs := #[.int .i64 p, .int .i64 lo, .int .i64 hi', .int .i64 pe, .int .i64 ti, .int .i64 se, .bool on, .int .i64 0, .bool false]) (t := 72) (fr := (0, 0)) (heap_alloc_new w2 _)) (by simp [Value.oneCell']) (by omega) (by unfold maxLen; omega) (by omega) (by simp; omega) (w2.heap.size + 1) (by simp) ?_; intro gg cap3 w3 hown3 hgrow3 hat hlt3; have k1 := (hgrow3.block w.heap.size (by simp; omega) HNE.out).trans (hp_old D2.out _); have kc := cell_of (i := 1) k1 rfl; have kf := free_of (i := 1) k1; replace k1 := Lib.hid k1; replace hown3 := Lib.hid hown3; replace hgrow3 := Lib.hid hgrow3; clear hat))
          all_goals
            go_wp2_with (fail)
            refine ⟨⟨vn + 1, by omega, by go_num, new_grow (e := e) O2.out B2.out hgrow3.out (by rw [fresh_ec (HF.out e (List.mem_of_getElem? HE.out)), HM.out.1]; exact hown3.out) k1.out HE.out HT.out H4.out H32⟩, by simp [intOf]; omega⟩
    · have he : k = n := by omega
      subst he
      have R : Hid (MNew w L (.returned (.tuple #[.pointer (some ⟨w.heap.size, 0, none⟩), .int .i64 0])) wr) := Lib.hid (by
        have hn := HN.out
        subst hn
        rw [List.take_length] at h2 h4
        exact .inl ⟨⟨h4, h5⟩, v, rfl, ⟨h1, h2, fun e he => vE_ok (h4 e he) (HF.out e he), h5, Nat.le_refl _⟩, h3⟩)
      clear h1 h2 h3 h4
      go_wp2_with (fail)
      go_ret2
      exact R.out
theorem new_nil (a : Option Addr) (c : Nat) (w : World) : Calls Try.prog 10 #[.slice a 0 c] w fun e w' => MNew w [] e w' := by
  have R : Hid (MNew w [] (.returned (.tuple #[.pointer (some ⟨w.heap.size, 0, none⟩), .int .i64 0])) (w.alloc (.cells #[.bool true, .slice none 0 0] 64))) := Lib.hid
    (.inl ⟨⟨by simp, by simp⟩, .slice none 0 0, rfl, ⟨hp_new w _, World.ownsRow_nil _ _ _ _, by simp, by simp, Nat.le_refl _⟩, bl_alloc (Below.refl _ _) _⟩)
  go_enter Try.func10, Try.ntmps10
  go_wp2_with (fail)
  refine wp_loop_rounds 1 ?_
  rw [rounds_succ]
  go_wp2_with (fail)
  go_ret2
  exact R.out
theorem new_any {L : List E} {w : World} {v : Value} (h : MS w v L) (hlen : L.length ≤ maxLen) : Calls Try.prog 10 #[v] w fun e w' => MNew w L e w' := by
  obtain ⟨hf, ⟨b, off, c, rfl, hb, hc⟩ | ⟨rfl, a, c, rfl⟩⟩ := h
  · exact new_some b off c hf hb hc hlen
  · exact new_nil a c w
/-! Clear and Enable -/
def MAt (w : World) (g : Nat) (L : List E) (n : Int) (e : Ending) (w' : World) : Prop :=
  w = w' ∧ ((0 ≤ n ∧ n < L.length ∧ e = .returned (.tuple #[.pointer (some ⟨g, n.toNat * 9, none⟩), .int .i64 0])) ∨ (¬ (0 ≤ n ∧ n < L.length) ∧ e = .returned (.tuple #[.pointer none, .int .i64 4])))
set_option maxHeartbeats 1600000 in
theorem at_any {w : World} {f : Nat} (n : Int) (len cap : Nat) (va : Option Addr) (h : w.heap[f]? = some (.cells #[.bool true, .slice va len cap] 64)) (hl : len ≤ 32) :
    (∀ g, va = some ⟨g, 0, none⟩ → 0 ≤ n → n < len → Calls Try.prog 34 #[.pointer (some ⟨f, 0, none⟩), .int .i64 n] w fun e w' => e = .returned (.tuple #[.pointer (some ⟨g, n.toNat * 9, none⟩), .int .i64 0]) ∧ w = w') ∧
    (¬ (0 ≤ n ∧ n < len) → Calls Try.prog 34 #[.pointer (some ⟨f, 0, none⟩), .int .i64 n] w fun e w' => e = .returned (.tuple #[.pointer none, .int .i64 4]) ∧ w = w') := by
  have hc0 := cell_of (i := 0) h rfl
  have hc1 := cell_of (i := 1) h rfl
  clear h
  refine ⟨fun g hg h1 h2 => ?_, fun hh => ?_⟩
  · subst hg
    obtain ⟨k, rfl⟩ : ∃ k : Nat, n = k := ⟨n.toNat, by omega⟩
    rw [Int.toNat_natCast]
    have hk : k < len := by omega
    have hd : decide (len ≤ k) = false := by simp; omega
    clear h2
    go_enter Try.func34, Try.ntmps34
    go_wp2_with (fail)
    refine (none_any f true _ hc0).mono ?_
    rintro e _ ⟨rfl, rfl⟩
    go_wp2_with (fail)
    go_ret2
    exact ⟨rfl, rfl⟩
  · by_cases h1 : n < 0
    · clear hh
      go_enter Try.func34, Try.ntmps34
      go_wp2_with (fail)
      refine (none_any f true _ hc0).mono ?_
      rintro e _ ⟨rfl, rfl⟩
      go_wp2_with (fail)
      go_ret2
      exact ⟨rfl, rfl⟩
    · have h2 : (len : Int) ≤ n := by omega
      clear hh
      go_enter Try.func34, Try.ntmps34
      go_wp2_with (fail)
      refine (none_any f true _ hc0).mono ?_
      rintro e _ ⟨rfl, rfl⟩
      go_wp2_with (fail)
      go_ret2
      exact ⟨rfl, rfl⟩
end Go.Proofs.Ythgilipffdcddaa
