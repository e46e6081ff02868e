/-
  The walk of the reference's New. Conditions: lists of monitors that can be read.
-/
import Derived.Test.YthgilipffdcddaaRok
import Derived.Deep.AppendLies
import Derived.Deep.RegionLaw
namespace Go.Proofs.Ythgilipffdcddaa
open Go.RowKit Kit
set_option linter.unusedVariables false
theorem info30 : (Try.prog.info? 30).map (fun i => (i.zero, i.size, i.bytes)) = some (some (.agg #[.int .i64 0, .int .i64 0, .int .i64 0, .int .i64 0, .int .i64 0, .int .i64 0, .bool false]), 7, 56) := by kernel_rfl
def NR (W : World) (L : List E) (k : Nat) (wr : World) : Prop :=
  ∃ lv wv, wr.heap[W.heap.size]? = some (.cells #[lv, wv] 60) ∧ wr.ownsRow W.heap.size 30 7 lv k ((L.take k).flatMap mc) ∧ wr.ownsRow W.heap.size 69 2 wv k ((L.take k).flatMap wc) ∧ Below W.heap.size W wr ∧ (∀ e ∈ L.take k, vE e = true)
def RNew (W : World) (L : List E) (e : Ending) (wr : World) : Prop :=
  (((∀ e ∈ L, vE e = true) ∧ L.length ≤ 32) ∧ ∃ lv wv, e = .returned (.tuple #[.pointer (some ⟨W.heap.size, 0, none⟩), .int .i64 0]) ∧ RO wr W.heap.size W.heap.size lv wv L ∧ Below W.heap.size W wr) ∨
  (¬ ((∀ e ∈ L, vE e = true) ∧ L.length ≤ 32) ∧ e = .returned (.tuple #[.pointer none, .int .i64 2]) ∧ Below W.heap.size W wr)
theorem fresh_wc {e : E} (h : fresh e) : wc e = [.int .i64 0, .bool false] := by
  unfold wc; rw [h.1, h.2]
def NM (W : World) (L : List E) (k : Nat) (e : E) (lv wv : Value) (wr : World) : Prop :=
  wr.heap[W.heap.size]? = some (.cells #[lv, wv] 60) ∧ wr.ownsRow W.heap.size 30 7 lv (k + 1) ((L.take k).flatMap mc ++ mc e) ∧ wr.ownsRow W.heap.size 69 2 wv k ((L.take k).flatMap wc) ∧ Below W.heap.size W wr
theorem nm_of {W w2 w3 : World} {L : List E} {k gg cap3 : Nat} {lv wv : Value} {e : E} {o : Obj} (O2 : w2.ownsRow W.heap.size 30 7 lv k ((L.take k).flatMap mc)) (O2W : w2.ownsRow W.heap.size 69 2 wv k ((L.take k).flatMap wc)) (B2 : Below W.heap.size W w2)
    (hg : (w2.alloc o).drew.grownBy w3 lv.ownBlock) (h3 : w3.ownsRow W.heap.size 30 7 (.slice (some ⟨gg, 0, none⟩) (k + 1) cap3) (k + 1) ((L.take k).flatMap mc ++ mc e)) (k1 : w3.heap[W.heap.size]? = some (.cells #[lv, wv] 60)) :
    NM W L k e (.slice (some ⟨gg, 0, none⟩) (k + 1) cap3) wv (w3.setCell ⟨W.heap.size, 0, none⟩ (.slice (some ⟨gg, 0, none⟩) (k + 1) cap3)) := by
  have m : Mod (fun j => j = W.heap.size) w3 (w3.setCell ⟨W.heap.size, 0, none⟩ (.slice (some ⟨gg, 0, none⟩) (k + 1) cap3)) := mod_at (b := W.heap.size) (Mod.refl _ _) _
  have O3W : w3.ownsRow W.heap.size 69 2 wv k ((L.take k).flatMap wc) := by
    refine own_mod (own_drewN (O2W.alloc o) 1) (mod_of_grown (v := lv) hg) (fun j hj hs => ?_)
    rcases own_apart O2W O2 (by decide) with h1 | h1
    · rw [h1] at hj; cases hj
    · exact h1 (by rw [hj, hs])
  refine ⟨hp_set k1 _, own_mod h3 m (fun j hj e => ?_), own_mod O3W m (fun j hj e => ?_), ?_⟩
  · exact own_ne_obj h3 k1 (by decide) (by rw [hj, e])
  · exact own_ne_obj O3W k1 (by decide) (by rw [hj, e])
  · exact bl_set (((bl_alloc B2 _).drew).grown hg (by have := B2.size; simp; omega) (fun j e => (O2.lt j e).1)) (Nat.le_refl _) _
theorem nr_of {W w5 w6 : World} {L : List E} {k : Nat} {lv wv wv' : Value} {e : E} {o : Obj} (h : NM W L k e lv wv w5) (hg : (w5.alloc o).grownBy w6 wv.ownBlock) (h6 : w6.ownsRow W.heap.size 69 2 wv' (k + 1) ((L.take k).flatMap wc ++ wc e)) (he : L[k]? = some e) (hv : vE e = true) (h4 : ∀ e ∈ L.take k, vE e = true) :
    NR W L (k + 1) (w6.setCell ⟨W.heap.size, 1, none⟩ wv') := by
  obtain ⟨g1, g2, g3, g4⟩ := h
  have m : Mod (fun j => j = W.heap.size) w6 (w6.setCell ⟨W.heap.size, 1, none⟩ wv') := mod_at (b := W.heap.size) (Mod.refl _ _) _
  have k6 : w6.heap[W.heap.size]? = some (.cells #[lv, wv] 60) := (hg.block W.heap.size (by have := lt_of_obj g1; simp; omega) (own_ne_obj g3 g1 (by decide)).symm).trans (hp_old g1 _)
  have O6 : w6.ownsRow W.heap.size 30 7 lv (k + 1) ((L.take k).flatMap mc ++ mc e) := by
    refine own_mod (g2.alloc o) (mod_of_grown (v := wv) hg) (fun j hj hs => ?_)
    rcases own_apart g2 g3 (by decide) with h1 | h1
    · rw [h1] at hj; cases hj
    · exact h1 (by rw [hj, hs])
  refine ⟨_, _, hp_set k6 _, ?_, ?_, ?_, ?_⟩
  · rw [take_snoc L k e he, List.flatMap_append]
    refine own_mod (by simpa using O6) m (fun j hj e => ?_)
    exact own_ne_obj O6 k6 (by decide) (by rw [hj, e])
  · rw [take_snoc L k e he, List.flatMap_append]
    refine own_mod (by simpa using h6) m (fun j hj e => ?_)
    exact own_ne_obj h6 k6 (by decide) (by rw [hj, e])
  · exact bl_set ((bl_alloc g4 _).grown hg (by have := g4.size; simp; omega) (fun j e => (g3.lt j e).1)) (Nat.le_refl _) _
  · rw [take_snoc L k e he]
    intro x hx
    rcases List.mem_append.1 hx with hx | hx
    · exact h4 x hx
    · obtain rfl := List.mem_singleton.1 hx; exact hv
set_option maxRecDepth 100000 in
set_option maxHeartbeats 6400000 in
theorem rnew_some {L : List E} {w : World} (b off c : Nat) (hf : ∀ e ∈ L, fresh e) (hb : b < w.heap.size) (hc : ∀ i e, L[i]? = some e → ∀ j, j < 7 → w.cell? ⟨b, off + (i * 7 + j), none⟩ = (mc e)[j]?) (hlen : L.length ≤ 32) :
    Calls Try.prog 15 #[.slice (some ⟨b, off, none⟩) L.length c] w fun e w' => RNew w L e w' := by
  obtain ⟨i0, hi, hz0, hz1, hz2⟩ := info_parts info30
  obtain ⟨j0, hj, hy0, hy1, hy2⟩ := info_parts info69
  have S0 : Hid (NR w L 0 (w.alloc (.cells #[.slice none 0 0, .slice none 0 0] 60))) := Lib.hid ⟨_, _, hp_new w _, World.ownsRow_nil _ _ _ _, World.ownsRow_nil _ _ _ _, bl_alloc (Below.refl _ _) _, by simp⟩
  obtain ⟨n, hn⟩ : ∃ n, n = L.length := ⟨_, rfl⟩
  rw [← hn] at hlen ⊢
  have HN := Lib.hid hn
  have HF := Lib.hid hf; have HC := Lib.hid hc
  clear hf hc hn
  have hd32 : decide (32 < n) = false := by simp; omega
  go_enter Try.func15, Try.ntmps15
  go_wp2_with (fail)
  go_loopw [5] (fun i wr => ∃ k : Nat, k ≤ n ∧ i = .int .i64 k ∧ NR w L k wr) (fun i _ => n - (intOf i).toNat)
  case atStart => exact ⟨0, by omega, rfl, S0.out⟩
  case round =>
    clear S0
    obtain ⟨k, hk, rfl, hS⟩ := hrel
    obtain ⟨lv, wv, h1, h2, h2w, h3, h4⟩ := hS
    by_cases hlt : k < n
    · obtain ⟨e, he⟩ : ∃ e, L[k]? = some e := ⟨_, List.getElem?_eq_getElem (by have := HN.out; omega)⟩
      have hcell : ∀ j, j < 7 → wr.cell? ⟨b, off + (k * 7 + j), none⟩ = (mc e)[j]? := fun j hj => by rw [(bcell h3).1 b _ hb]; exact HC.out k e he j hj
      have c0 : wr.cell? ⟨b, off + k * 7, none⟩ = _ := hcell 0 (by omega)
      have c1 : wr.cell? ⟨b, off + k * 7 + 1, none⟩ = _ := hcell 1 (by omega)
      have c2 : wr.cell? ⟨b, off + k * 7 + 2, none⟩ = _ := hcell 2 (by omega)
      have c3 : wr.cell? ⟨b, off + k * 7 + 3, none⟩ = _ := hcell 3 (by omega)
      have c4 : wr.cell? ⟨b, off + k * 7 + 4, none⟩ = _ := hcell 4 (by omega)
      have c5 : wr.cell? ⟨b, off + k * 7 + 5, none⟩ = _ := hcell 5 (by omega)
      have c6 : wr.cell? ⟨b, off + k * 7 + 6, none⟩ = _ := hcell 6 (by omega)
      simp only [mc, List.getElem?_cons_succ, List.getElem?_cons_zero] at c0 c1 c2 c3 c4 c5 c6
      have hwl := h3.size
      have hwl2 := lt_of_obj h1
      have H1 := Lib.hid h1; have H2 := Lib.hid h2; have H2W := Lib.hid h2w; have H3 := Lib.hid h3; have H4 := Lib.hid h4; have HE := Lib.hid he
      clear h1 h2 h2w h3 h4 he hcell
      obtain ⟨T, hT⟩ : ∃ T, vE e = T := ⟨_, rfl⟩
      have HT := Lib.hid hT; clear hT
      obtain ⟨par, lo, hi', per, ti, se, on, cnt, tr⟩ := e
      simp only [vE] at HT
      go_wp2_with (fail)
      refine (refvalid_any _ _ _ _ _ _ _ _).mono ?_
      rw [HT.out]
      rintro en w1 ⟨rfl, hw1⟩
      obtain ⟨la, lc, rfl⟩ := slice_of H2.out
      obtain ⟨wa, wcp, rfl⟩ := slice_of H2W.out
      have a2 : Below wr.heap.size wr w1 := by rw [hw1]; exact bl_alloc (Below.refl _ _) _
      have D2 := Lib.hid (below_keeps a2 H1.out hwl2)
      have O2 := Lib.hid (own_calm H2.out a2)
      have O2W := Lib.hid (own_calm H2W.out a2)
      have B2 := Lib.hid (bl_step H3.out a2)
      have hs2 := a2.size
      have hbl : b < wr.heap.size := by omega
      have bc := (bcell a2).1
      replace c0 := (bc b _ hbl).trans c0
      replace c1 := (bc b _ hbl).trans c1
      replace c2 := (bc b _ hbl).trans c2
      replace c3 := (bc b _ hbl).trans c3
      replace c4 := (bc b _ hbl).trans c4
      replace c5 := (bc b _ hbl).trans c5
      replace c6 := (bc b _ hbl).trans c6
      have d0 : w1.cell? ⟨w.heap.size, 0, none⟩ = some (.slice la k lc) := cell_of (i := 0) D2.out rfl
      have d1 : w1.cell? ⟨w.heap.size, 1, none⟩ = some (.slice wa k wcp) := cell_of (i := 1) D2.out rfl
      have df0 := free_of (i := 0) D2.out
      have df1 := free_of (i := 1) D2.out
      have hwlt : w.heap.size < w1.heap.size := by omega
      have hbl1 : b < w1.heap.size := by omega
      clear bc hw1 a2
      cases T with
      | false =>
        go_wp2_with (fail)
        go_ret2
        refine .inr ⟨fun hh => ?_, rfl, B2.out⟩
        have := hh.1 _ (List.mem_of_getElem? HE.out)
        simp only [vE] at this
        rw [HT.out] at this; cases this
      | true =>
        have HNE : Hid (some w.heap.size ≠ (Value.slice la k lc).ownBlock) := Lib.hid (own_ne_obj O2.out D2.out (by decide)).symm
        go_wp2_with (fail)
        go_region_law ((refine step_append_lies _ (by rfl) _ _ _ (by rfl) w.heap.size 30 i0 _ 7 56 Try.underlying31 hi hz0 hz1 hz2 rfl (by omega) (.slice la k lc) k _ (by rfl) ((O2.out.alloc _).drew) ⟨w1.heap.size, 0, none⟩ 1 1 [.int .i64 par, .int .i64 lo, .int .i64 hi', .int .i64 per, .int .i64 ti, .int .i64 se, .bool on] (by rfl) (by rfl) (World.news_of_block (cs := #[.int .i64 par, .int .i64 lo, .int .i64 hi', .int .i64 per, .int .i64 ti, .int .i64 se, .bool on]) (t := 30) (fr := (0, 0)) (heap_alloc_new w1 _)) (by simp [Value.oneCell']) (by omega) (by unfold maxLen; omega) (by omega) (by simp; omega) (w1.heap.size + 1) (by simp) ?_; intro gg cap3 w3 hown3 hgrow3 hat hlt3; have k1 := (hgrow3.block w.heap.size (by simp; omega) HNE.out).trans (hp_old D2.out _); have kc := cell_of (i := 0) k1 rfl; have kf := free_of (i := 0) k1; replace k1 := Lib.hid k1; replace hown3 := Lib.hid hown3; replace hgrow3 := Lib.hid hgrow3; clear hat))
        all_goals
          have N5 := Lib.hid (nm_of (e := ⟨par, lo, hi', per, ti, se, on, cnt, tr⟩) O2.out O2W.out B2.out hgrow3.out hown3.out k1.out)
          obtain ⟨w5, hw5⟩ : ∃ w5, w5 = w3.setCell ⟨w.heap.size, 0, none⟩ (.slice (some ⟨gg, 0, none⟩) (k + 1) cap3) := ⟨_, rfl⟩
          rw [← hw5] at N5 ⊢
          clear hw5 c0 c1 c2 c3 c4 c5 c6 d0 d1 df0 df1
          have G2 := Lib.hid N5.out.2.2.1
          have G1 := Lib.hid N5.out.1
          have hb5 := N5.out.2.2.2.size
          have d1 : w5.cell? ⟨w.heap.size, 1, none⟩ = some (.slice wa k wcp) := cell_of (i := 1) G1.out rfl
          have d0 : w5.cell? ⟨w.heap.size, 0, none⟩ = some (.slice (some ⟨gg, 0, none⟩) (k + 1) cap3) := cell_of (i := 0) G1.out rfl
          have HNW : Hid (some w.heap.size ≠ (Value.slice wa k wcp).ownBlock) := Lib.hid (own_ne_obj G2.out G1.out (by decide)).symm
          have hl5 := lt_of_obj G1.out
          go_wp2_with (at_builtin; refine wpList_append_own _ rfl _ _ 57 rfl w.heap.size 69 j0 _ 2 16 Try.underlying57 hj hy0 hy1 hy2 rfl (by decide) _ _ _ rfl (G2.out.alloc _) ⟨w5.heap.size, 0, none⟩ 1 1 [_, _] rfl rfl (cells_new w5 [_, _] 69) (by simp [Value.oneCell']) (by unfold maxLen; omega) (by omega) (by simp; omega) ?_; intro v' w6 hown' hgrow6 _; obtain ⟨va6, vc6, rfl⟩ := slice_of hown'; have k6 := (hgrow6.block w.heap.size (by simp; omega) HNW.out).trans (hp_old G1.out _); have kc6 := cell_of (i := 1) k6 rfl; have kf6 := free_of (i := 1) k6; replace hown' := Lib.hid hown'; replace hgrow6 := Lib.hid hgrow6; clear k6)
          refine ⟨⟨k + 1, by omega, by simp, nr_of N5.out hgrow6.out (by rw [fresh_wc (HF.out _ (List.mem_of_getElem? HE.out))]; exact hown'.out) HE.out (by simp only [vE]; exact HT.out) H4.out⟩, by simp [intOf]; omega⟩
    · have he : k = n := by omega
      subst he
      have R : Hid (RNew w L (.returned (.tuple #[.pointer (some ⟨w.heap.size, 0, none⟩), .int .i64 0])) wr) := Lib.hid (by
        have hn := HN.out
        subst hn
        rw [List.take_length] at h2 h2w h4
        exact .inl ⟨⟨h4, hlen⟩, _, _, rfl, ⟨h1, h2, h2w, hlen, Nat.le_refl _⟩, h3⟩)
      clear h1 h2 h2w h3 h4
      go_wp2_with (fail)
      go_ret2
      exact R.out
theorem rnew_nil (a : Option Addr) (c : Nat) (w : World) : Calls Try.prog 15 #[.slice a 0 c] w fun e w' => RNew w [] e w' := by
  have R : Hid (RNew w [] (.returned (.tuple #[.pointer (some ⟨w.heap.size, 0, none⟩), .int .i64 0])) (w.alloc (.cells #[.slice none 0 0, .slice none 0 0] 60))) := Lib.hid
    (.inl ⟨⟨by simp, by simp⟩, _, _, rfl, ⟨hp_new w _, World.ownsRow_nil _ _ _ _, World.ownsRow_nil _ _ _ _, by simp, Nat.le_refl _⟩, bl_alloc (Below.refl _ _) _⟩)
  go_enter Try.func15, Try.ntmps15
  go_wp2_with (fail)
  refine wp_loop_rounds 1 ?_
  rw [rounds_succ]
  go_wp2_with (fail)
  go_ret2
  exact R.out
theorem rnew_many {L : List E} (a : Option Addr) (n c : Nat) (w : World) (hn : n = L.length) (h : 32 < n) : Calls Try.prog 15 #[.slice a n c] w fun e w' => RNew w L e w' := by
  have R : Hid (RNew w L (.returned (.tuple #[.pointer none, .int .i64 2])) w) := Lib.hid (.inr ⟨fun hh => by have := hh.2; omega, rfl, Below.refl _ _⟩)
  clear hn
  go_enter Try.func15, Try.ntmps15
  go_wp2_with (fail)
  go_ret2
  exact R.out
theorem rnew_any {L : List E} {w : World} {v : Value} (h : MS w v L) : Calls Try.prog 15 #[v] w fun e w' => RNew w L e w' := by
  obtain ⟨hf, ⟨b, off, c, rfl, hb, hc⟩ | ⟨rfl, a, c, rfl⟩⟩ := h
  · by_cases h32 : L.length ≤ 32
    · exact rnew_some b off c hf hb hc h32
    · exact rnew_many _ _ c w rfl (by omega)
  · exact rnew_nil a c w
end Go.Proofs.Ythgilipffdcddaa
