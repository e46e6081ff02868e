/-
  The walk of fields.Unpack where the widths are good. Conditions: slices of at most 1000 elements.
-/
import Derived.Test.YtjeaccpocpfkgaaEachp
namespace Go.Proofs.Ytjeaccpocpfkgaa
open Go.RowKit Go.Shelf Kit
attribute [local go_sem] Oper.semAt_some
set_option linter.unusedVariables false
theorem Nums.step {k : IntKind} {w : World} {b off n c : Nat} {X : List Int} (h : Nums k w (some ⟨b, off, none⟩) n c X) (hn : 0 < n) : Nums k w (some ⟨b, off + 1, none⟩) (n - 1) (c - 1) (X.drop 1) := by
  refine ⟨by rw [List.length_drop, h.1], by have := h.2.1; omega, by have := h.2.2.1; omega, fun i x hx => ?_⟩
  rw [List.getElem?_drop] at hx
  obtain ⟨b', off', he, hl, hc⟩ := h.2.2.2 _ x hx
  simp only [Option.some.injEq, Addr.mk.injEq, and_true] at he
  obtain ⟨rfl, rfl⟩ := he
  exact ⟨_, _, rfl, hl, by rw [Nat.add_assoc]; exact hc⟩
theorem Nums.step' {k : IntKind} {w : World} {b off n c : Nat} {X : List Int} (h : Nums k w (some ⟨b, off, none⟩) n c X) (hn : 0 < n) : Nums k w (if c = 1 then some ⟨b, off, none⟩ else some ⟨b, off + 1, none⟩) (n - 1) (c - 1) (X.drop 1) := by
  by_cases hc : c = 1
  · rw [if_pos hc]
    have h1 := h.1
    have h2 := h.2.1
    refine ⟨by rw [List.length_drop, h.1], by omega, by have := h.2.2.1; omega, fun i x hx => ?_⟩
    rw [List.getElem?_eq_none (by rw [List.length_drop]; omega)] at hx
    cases hx
  · rw [if_neg hc]; exact h.step hn
/-- All bits are 0. -/
def Z0 (pre : List Bit) : Prop := ∀ x ∈ pre, x.1 = 0
/-- A bit is set. -/
def N0 (pre : List Bit) : Prop := ∃ x ∈ pre, x.1 ≠ 0
theorem Z0.snoc {pre : List Bit} (h : Z0 pre) {x : Bit} (hx : x.1 = 0) : Z0 (pre ++ [x]) := by
  intro y hy
  rcases List.mem_append.1 hy with hy | hy
  · exact h y hy
  · rw [List.mem_singleton.1 hy]; exact hx
theorem N0.snoc (pre : List Bit) {x : Bit} (hx : x.1 ≠ 0) : N0 (pre ++ [x]) := ⟨x, by simp, hx⟩
theorem z0_bits {d : ByteArray} {s t : Nat} (h : Z0 (bitL d s t)) : ∀ i, s ≤ i → i < s + t → bitOf (lst d) i = 0 := by
  intro i h1 h2
  have := h ⟨bitOf (lst d) (s + (i - s)), bitOf_lt _ _⟩ (by unfold bitL; exact List.mem_map.2 ⟨i - s, List.mem_range.2 (by omega), rfl⟩)
  rw [show s + (i - s) = i by omega] at this
  exact this
theorem n0_bits {d : ByteArray} {s k : Nat} (h : N0 (bitL d s k)) : ∃ i, s ≤ i ∧ i < s + k ∧ bitOf (lst d) i ≠ 0 := by
  obtain ⟨x, hx, hne⟩ := h
  unfold bitL at hx
  obtain ⟨i, hi, rfl⟩ := List.mem_map.1 hx
  exact ⟨s + i, by omega, by have := List.mem_range.1 hi; omega, hne⟩
theorem un_fin2 {X : List Int} {d : ByteArray} {w W : World} {v : Value} {E : Int} {B D2 L : Nat} (tmps : Array Value) (h4 : tmps.getD 4 undef = .pointer (some ⟨B, 0, none⟩)) (h5 : tmps.getD 5 undef = .pointer (some ⟨B + 1, 0, none⟩))
    (hBL : B + 2 ≤ L) (hLD : L ≤ D2) (hK : W.heap[D2]? = some (.deferred (some []))) (c0 : Boxed W B 42 v) (c1 : Boxed W (B + 1) 24 (.int .i64 E)) (hp : ∀ W', Below L W W' → UpPost X d w (.returned (.tuple #[v, .int .i64 E])) W') :
    bodyPostM Fence.wide 5 Try.prog Try.f25 (fun e w' => UpPost X d w e w') .ret { tmps := tmps, defers := [{ target := .collected D2, args := #[] }] } W := by
  refine ⟨by simp, .inl ⟨_, _, rfl, run_takeDeferred hK, ?_⟩⟩
  have hb : Below L W (W.putObj D2 (.deferred none)) := (Below.refl L W).grown (grownBy_putObj' W D2 _) (by have := (Array.getElem?_eq_some_iff.1 hK).1; omega) (fun k e => by cases e; omega)
  refine ⟨_, ?_, hp _ hb⟩
  have e0 : Boxed (W.putObj D2 (.deferred none)) B 42 v := (hb.block B (by omega)).trans c0
  have e1 : Boxed (W.putObj D2 (.deferred none)) (B + 1) 24 (.int .i64 E) := (hb.block (B + 1) (by omega)).trans c1
  have f0 := e0.cell
  have f1 := e1.cell
  show (results Try.f25 tmps).run Try.prog _ = _
  rw [results_cell2 rfl, h4, h5]
  go_simp
/-- What holds at the head of the program's loop. -/
def UnI (X : List Int) (d : ByteArray) (w W0 : World) (k n : Nat) (v : Value) (r : Value) (wr : World) : Prop :=
  (∃ a c, r = .slice a (n - k) c ∧ Nums .i64 W0 a (n - k) c (X.drop k)) ∧ Below W0.heap.size W0 wr ∧ wr.ownsRow W0.heap.size 23 1 v k (u64c (unK X d k))
set_option maxRecDepth 100000 in
set_option maxHeartbeats 3200000 in
theorem un_good (X : List Int) (a : Option Addr) (n c : Nat) (d : ByteArray) (w : World) (hX : Nums .i64 w a n c X) (hn : n ≤ 1000) (hl : d.size ≤ 65536) (hok : okW X) (hs : d.size = (offs (wid X) X.length + 7) / 8) :
    Calls Try.prog 25 #[.slice a n c, .string d] w fun e w' => UpPost X d w e w' := by
  obtain ⟨i0, hi, hz0, hz1, hz2⟩ := info_parts info23
  have hml : d.size ≤ maxLen := by unfold maxLen; omega
  have SA := Lib.hid (fun W h => sum_any X a n c W h (by omega))
  have hsR : sumR X = .tuple #[.int .i64 (offs (wid X) X.length : Nat), .bool true] := by unfold sumR; rw [if_pos hok]
  rw [hsR] at SA
  have HX : Hid (∀ v e, Nums .i64 ((w.alloc (.cells #[v] 42)).alloc (.cells #[e] 24)) a n c X) := Lib.hid (fun v e => hX.below (two_boxes w v e).2.2)
  have hle := offs_le X hok X.length (Nat.le_refl _)
  have N1 := Lib.hid hX.1; have HO := Lib.hid hok
  have hcap := hX.2.1
  have hcap2 := hX.2.2.1
  unfold maxLen at hcap2
  obtain ⟨s, hss⟩ : ∃ s, s = offs (wid X) n := ⟨_, rfl⟩
  rw [← hX.1, ← hss] at hle hs SA
  have HS := Lib.hid hss
  have hne : ((d.size : Int) != ((s : Int) + 7) / 8) = false := by simp; omega
  have hl' : ¬ (65536 : Int) < (d.size : Int) := by omega
  clear hsR hX hok hss
  refine (callsIn_wide (n := 5)).1 ?_
  refine callsIn_of_wp_marks Try.func25 rfl trivial ?_ rfl
  simp only [Try.ntmps25, List.size_toArray, List.length_cons, List.length_nil, Nat.reduceAdd, Nat.reduceSub, Array.replicate_succ, Array.replicate_zero, List.push_toArray, List.append_toArray, List.nil_append, List.cons_append]
  refine wpIn_wide.2 ?_
  go_wp2_with (fail)
  refine (SA.out _ (HX.out _ _)).mono ?_
  rintro e _ ⟨rfl, rfl⟩
  go_wp2_with (fail)
  obtain ⟨W0, hW0⟩ : ∃ W0, W0 = (w.alloc (.cells #[.slice none 0 0] 42)).alloc (.cells #[.int .i64 0] 24) := ⟨_, rfl⟩
  have TB : Hid (Boxed W0 w.heap.size 42 (.slice none 0 0) ∧ Boxed W0 (w.heap.size + 1) 24 (.int .i64 0) ∧ Below w.heap.size w W0 ∧ W0.heap.size = w.heap.size + 2) := Lib.hid (by
    rw [hW0]
    refine ⟨(Boxed.new w 42 _).alloc _, ?_, (two_boxes w _ _).2.2, by simp⟩
    have := Boxed.new (w.alloc (.cells #[.slice none 0 0] 42)) 24 (.int .i64 0)
    rw [World.size_alloc] at this
    exact this)
  have HX0 := Lib.hid (HX.out (.slice none 0 0) (.int .i64 0))
  try rw [← hW0]
  rw [← hW0] at HX0
  have S0 : Hid (UnI X d w W0 0 n (.slice none 0 0) (.slice a n n) W0) := Lib.hid ⟨⟨a, n, rfl, HX0.out.1, Nat.le_refl _, by have := HX0.out.2.1; have := HX0.out.2.2.1; omega, HX0.out.2.2.2⟩, Below.refl _ _, World.ownsRow_nil _ _ _ _⟩
  clear hW0 HX
  go_loopw [8, 9, 10, 11, 12] (fun v p r _ _ wr => ∃ k : Nat, k ≤ n ∧ p = .int .i64 (offs (wid X) k : Nat) ∧ UnI X d w W0 k n v r wr) (fun _ _ r _ _ _ => match r with | .slice _ m _ => m | _ => 0)
  case atStart => exact ⟨0, by omega, rfl, S0.out⟩
  case round =>
    clear S0
    obtain ⟨k, hk, rfl, ⟨⟨ra, rc, rfl, hR⟩, hB, hO⟩⟩ := hrel
    have HR := Lib.hid hR; have HB := Lib.hid hB; have HW := Lib.hid hO
    clear hR hB hO
    by_cases hlt : k < n
    · obtain ⟨b, off, rfl, hbl0, hcell0⟩ := HR.out.at (i := 0) (by omega)
      have hst : offs (wid X) (k + 1) = offs (wid X) k + wid X k := rfl
      have hsm := offs_mono (wid X) (k + 1) n hlt
      rw [← HS.out, hst] at hsm
      obtain ⟨h1, h2⟩ := HO.out k (by rw [← N1.out]; exact hlt)
      have hw : (wid X k : Int) = X.getD k 0 := by unfold wid; omega
      have hgd : (X.drop k).getD 0 0 = X.getD k 0 := by simp [List.getD_eq_getElem?_getD]
      obtain ⟨p, hp⟩ : ∃ p, p = offs (wid X) k := ⟨_, rfl⟩
      obtain ⟨x, hx⟩ : ∃ x, x = wid X k := ⟨_, rfl⟩
      rw [← hp] at hst hsm ⊢
      rw [hgd, ← hw, ← hx, Nat.add_zero] at hcell0
      have hcell := (HB.out.cell (p := ⟨b, off, none⟩) hbl0).trans hcell0
      have hbl := Nat.lt_of_lt_of_le hbl0 HB.out.size
      have HC0 := Lib.hid hcell0; have HBL := Lib.hid hbl0
      rw [← hw, ← hx] at h1 h2
      rw [← hx] at hst hsm
      obtain ⟨m, hm⟩ : ∃ m, m = n - k := ⟨_, rfl⟩
      have hm0 : 0 < m := by omega
      have hrc := HR.out.2.1
      have hrc2 := HR.out.2.2.1
      unfold maxLen at hrc2
      rw [← hm] at HR hrc ⊢
      have HM := Lib.hid hm; have HST := Lib.hid hst; have HP := Lib.hid hp; have Hx := Lib.hid hx
      have hgr : getR d (p : Int) (x : Int) = .tuple #[.int .u64 (numB (lst d) p x : Nat), .int .i64 0] := by
        unfold getR
        rw [if_pos (by unfold chk; rw [if_neg (by omega), if_neg (by omega)]), Int.toNat_natCast, Int.toNat_natCast]
      have GA := Lib.hid (fun W => get_any d p x W hml)
      rw [hgr] at GA
      clear hp hst hx hw hgd hm hgr hcell0 hbl0
      go_wp2_with (fail)
      refine (GA.out _).mono ?_
      rintro e w1 ⟨rfl, b1⟩
      have HB1 := Lib.hid (bl_step HB.out b1)
      have HW1 := Lib.hid (own_calm HW.out b1)
      have hb2s := HB1.out.size
      clear b1 hcell hbl
      go_wp2_with (at_builtin; refine wpList_append_own _ rfl _ _ 42 rfl W0.heap.size 23 i0 _ 1 8 Try.underlying42 hi hz0 hz1 hz2 rfl (by decide) _ _ _ rfl (HW1.out.alloc _) ⟨w1.heap.size, 0, none⟩ 1 1 [_] rfl rfl (cells_new w1 [_] 23) (by simp [Value.oneCell']) (by unfold maxLen; omega) (by omega) (by simp; omega) ?_; intro v' w6 hown' hgrow _; have hU := upI_grow HB1.out HW1.out hgrow hown' (by rw [← HP.out, ← Hx.out]); clear hown' hgrow; have hcell6 := (hU.1.cell (p := ⟨b, off, none⟩) HBL.out).trans HC0.out; have hbl6 := Nat.lt_of_lt_of_le HBL.out hU.1.size; replace hU := Lib.hid hU)
      go_roundw
      case rel => exact ⟨k + 1, by omega, by rw [HST.out]; simp, ⟨_, _, by congr 1; have := HM.out; omega, by have := HR.out.step' hm0; rw [List.drop_drop, HM.out, Nat.sub_sub] at this; exact this⟩, hU.out.1, hU.out.2⟩
      case measure => simp; omega
    · obtain rfl : k = n := by omega
      rw [← HS.out]
      obtain ⟨t, ht⟩ : ∃ t : Nat, t = 8 * d.size - s := ⟨_, rfl⟩
      have ht' : Hid (8 * (((s : Int) + 7) / 8) - (s : Int) = (t : Int)) := Lib.hid (by omega)
      have ht2 : s + t ≤ 8 * d.size := by omega
      have HT := Lib.hid ht
      clear ht hi hz0 hz1 hz2 HR
      rw [Nat.sub_self]
      go_wp2_with (fail)
      rw [ht'.out]
      refine (each_any d s t wr).mono ?_
      rintro e w5 ⟨rfl, h5⟩
      go_wp2_with (fail)
      refine (wpIn_wide (n := 5)).1 ?_
      obtain ⟨D, hD⟩ : ∃ D, D = wr.heap.size := ⟨_, rfl⟩
      obtain ⟨W6, hW6⟩ : ∃ W6, W6 = ((wr.alloc (.cells #[.string d] 9)).alloc (.cells #[.int .i64 (s : Int)] 3)).alloc (.cells #[.int .i64 (t : Int)] 3) := ⟨_, rfl⟩
      have bD : Boxed W6 D 9 (.string d) := by rw [hW6, hD]; exact ((Boxed.new wr 9 (.string d)).alloc _).alloc _
      have bA : Boxed W6 (D + 1) 3 (.int .i64 s) := by
        rw [hW6, hD]; have := (Boxed.new (wr.alloc (.cells #[.string d] 9)) 3 (.int .i64 s)).alloc (.cells #[.int .i64 t] 3); rw [World.size_alloc] at this; exact this
      have bT : Boxed W6 (D + 2) 3 (.int .i64 t) := by
        rw [hW6, hD]; have := Boxed.new ((wr.alloc (.cells #[.string d] 9)).alloc (.cells #[.int .i64 s] 3)) 3 (.int .i64 t); rw [World.size_alloc, World.size_alloc] at this; exact this
      have c6 : W6.heap.size = D + 3 := by rw [hW6, hD]; simp [World.size_alloc]
      have b6 : Below W0.heap.size W0 W6 := by rw [hW6]; exact bl_alloc (bl_alloc (bl_alloc HB.out _) _) _
      have o6 : W6.ownsRow W0.heap.size 23 1 u8 k (u64c (unK X d k)) := by rw [hW6]; exact ((HW.out.alloc _).alloc _).alloc _
      rw [← hW6, ← hD]
      clear hW6 h5
      have rb : Boxed W6 w.heap.size 42 (.slice none 0 0) ∧ Boxed W6 (w.heap.size + 1) 24 (.int .i64 0) ∧ Below w.heap.size w W6 ∧ w.heap.size + 2 ≤ W6.heap.size := by
        refine ⟨?_, ?_, TB.out.2.2.1.trans (b6.mono TB.out.2.2.1.size), by have := TB.out.2.2.2; have := b6.size; omega⟩
        · have := b6.block w.heap.size (by have := TB.out.2.2.2; omega)
          exact this.trans TB.out.1
        · have := b6.block (w.heap.size + 1) (by have := TB.out.2.2.2; omega)
          exact this.trans TB.out.2.1
      have RB := Lib.hid rb
      have B6 := Lib.hid b6; have O6 := Lib.hid o6; have C6 := Lib.hid c6
      have HD := Lib.hid hD
      clear rb b6 o6 hD c6
      generalize hact : ({ tmps := _, defers := [] } : Act) = act
      have hact' := Lib.hid hact
      refine wpIn_rangeFunc_ownG rfl (show 1 ≤ 5 by omega) (gf := 46) (lb := #[.pointer (some ⟨D + 1, 0, none⟩), .pointer (some ⟨D + 1 + 1, 0, none⟩), .pointer (some ⟨D, 0, none⟩)]) (by rw [← hact]; rfl) trivial (enters_of Try.func46 (by kernel_rfl) rfl)
        (each1_stopsP 4 (show 1 ≤ 4 by omega) D d hl s t ht2 W6 (by have := C6.out; omega) bA.cell bT.cell bD.cell) keep3_t (keep3_b (by have := C6.out; omega)) (Below.refl _ _) (fun _ => rfl)
        (fun pre W => Below W6.heap.size W6 W ∧ Z0 pre)
        (fun cd pre W => cd = .ret ∧ Boxed W w.heap.size 42 (.slice none 0 0) ∧ Boxed W (w.heap.size + 1) 24 (.int .i64 6) ∧ Below w.heap.size w W ∧ N0 pre)
        (OwnFrom.and (ownFrom_below (Nat.le_refl _) (Nat.le_refl _)) (fun _ _ _ _ h _ _ => h))
        ?hIx ⟨Below.refl _ _, by intro y hy; cases hy⟩
        (fun x => { tmps := (act.tmps.setIfInBounds 69 (.int .u64 ((x.1 : Nat) : Int))).setIfInBounds 13 (.int .u64 ((x.1 : Nat) : Int)), defers := [] }) ?assign ?body ?done ?stop
      case hIx =>
        exact fun cd => OwnFrom.and (fun _ _ _ _ h _ _ => h) (OwnFrom.and ((boxed_own w.heap.size 42 (fun _ => .slice none 0 0)).from _) (OwnFrom.and ((boxed_own (w.heap.size + 1) 24 (fun _ => .int .i64 6)).from _) (OwnFrom.and (ownFrom_below (Nat.le_refl _) (by have := RB.out.2.2.2; omega)) (fun _ _ _ _ h _ _ => h))))
      case assign =>
        intro l x W K hK
        subst hact
        simp only [List.setIfInBounds_toArray, List.set_cons_succ, List.set_cons_zero] at hK
        gi_wp2
        exact hK
      case body =>
        rintro l pre x W ⟨hBW, hz⟩ hlt
        subst hact
        simp only [List.setIfInBounds_toArray, List.set_cons_succ, List.set_cons_zero]
        obtain ⟨b, hb⟩ := x
        have hrs := RB.out.2.2.2
        have hsz := hBW.size
        have x0 : Boxed W w.heap.size 42 (.slice none 0 0) := (hBW.block w.heap.size (by omega)).trans RB.out.1
        have x1 : Boxed W (w.heap.size + 1) 24 (.int .i64 0) := (hBW.block (w.heap.size + 1) (by omega)).trans RB.out.2.1
        have cx0 := x0.cell
        have cx1 := x1.cell
        have fx0 := x0.frozen
        have fx1 := x1.frozen
        have HBW := Lib.hid hBW; have HZ := Lib.hid hz; have X0 := Lib.hid x0; have X1 := Lib.hid x1
        clear hBW hz x0 x1
        by_cases hb0 : b = 0
        · subst hb0
          gi_wp2
          exact ⟨KeepsFrom.refl _ _, ⟨rfl, rfl, rfl⟩, HBW.out, Z0.snoc HZ.out rfl⟩
        · have hb1 : ((b : Int) != 0) = true := by simp; omega
          gi_wp2
          have hd := HD.out; have hd0 := HB.out.size; have hd1 := TB.out.2.2.2; have h6 := C6.out
          refine ⟨((KeepsOthers.setCell _ _ _).from _).trans ((KeepsOthers.setCell _ _ _).from _), rfl, (X0.out.set _).other (by omega) _, (X1.out.other (by omega) _).set _, ?_, N0.snoc pre hb0⟩
          exact ((RB.out.2.2.1.trans (HBW.out.mono (by omega))).setCell (p := ⟨w.heap.size, 0, none⟩) (Nat.le_refl _) _).setCell (p := ⟨w.heap.size + 1, 0, none⟩) (Nat.le_succ _) _
      case done =>
        rintro D2 ys W hD2 rfl ⟨hBW, hz⟩ hK
        subst hact
        have hrs := RB.out.2.2.2
        have hsz := hBW.size
        have x0 : Boxed W w.heap.size 42 (.slice none 0 0) := (hBW.block w.heap.size (by omega)).trans RB.out.1
        have x1 : Boxed W (w.heap.size + 1) 24 (.int .i64 0) := (hBW.block (w.heap.size + 1) (by omega)).trans RB.out.2.1
        have cx0 := x0.cell
        have cx1 := x1.cell
        have fx0 := x0.frozen
        have fx1 := x1.frozen
        have HBW := Lib.hid hBW; have HZ := Lib.hid hz; have X0 := Lib.hid x0; have X1 := Lib.hid x1; have HK := Lib.hid hK; have HD2 := Lib.hid hD2
        clear hBW hz x0 x1 hK hD2
        obtain ⟨av, cv, hu8⟩ : ∃ av cv, u8 = .slice av k cv := by
          rcases O6.out.2 with ⟨h1, h2⟩ | ⟨g, cap, cur, h1, _⟩
          · exact ⟨none, 0, by rw [h1]; have : k = 0 := by first | exact h2 | omega
                               rw [this]⟩
          · exact ⟨_, _, h1⟩
        subst hu8
        go_wp2_with (fail)
        have hd := HD.out; have hd0 := HB.out.size; have hd1 := TB.out.2.2.2; have h6 := C6.out; have hd2 := HD2.out
        have hUE : upE X d = 0 := by
          unfold upE
          rw [if_neg (by omega), if_neg (fun h => h HO.out), if_neg (fun h => h (by rw [← N1.out, ← HS.out]; exact hs)), if_pos]
          rw [← N1.out, ← HS.out]
          intro i h1 h2
          exact z0_bits HZ.out i h2 (by have := HT.out; omega)
        refine un_fin2 (L := W6.heap.size) _ rfl rfl hrs hd2 ?_ ((X0.out.set _).other (by omega) _) ((X1.out.other (by omega) _).set _) ?_
        · exact (Below.heap_setCell _ _ _ _ (by show D2 ≠ w.heap.size + 1; omega)).trans ((Below.heap_setCell _ _ _ _ (by show D2 ≠ w.heap.size; omega)).trans HK.out)
        · intro W' hW'
          have o1 : W.ownsRow W0.heap.size 23 1 (.slice av k cv) k (u64c (unK X d k)) := own_calm O6.out HBW.out
          have hlt1 := fun j hj => (o1.lt j hj).1
          have m1 : Mod (fun j => j < W0.heap.size) W ((W.setCell ⟨w.heap.size, 0, none⟩ (.slice av k cv)).setCell ⟨w.heap.size + 1, 0, none⟩ (.int .i64 0)) := ((Mod.refl _ _).setCell (Or.inl (by show w.heap.size < _; omega)) _).setCell (Or.inl (by show w.heap.size + 1 < _; omega)) _
          have o2 := own_mod o1 m1 (fun j hj hlt => by have := hlt1 j hj; omega)
          have o3 := own_below o2 hW' (fun j hj => (O6.out.lt j hj).2)
          refine up_ok hUE (by rw [← N1.out]; exact own_rebase o3 (by omega)) ?_
          exact (((RB.out.2.2.1.trans (HBW.out.mono (by omega))).setCell (p := ⟨w.heap.size, 0, none⟩) (Nat.le_refl _) _).setCell (p := ⟨w.heap.size + 1, 0, none⟩) (Nat.le_succ _) _).trans (hW'.mono (by omega))
      case stop =>
        rintro D2 cd pre W hD2 ⟨q, hq, rfl⟩ ⟨rfl, x0, x1, hbw, hn0⟩ hK
        subst hact
        have cx0 := x0.cell
        have cx1 := x1.cell
        have X0 := Lib.hid x0; have X1 := Lib.hid x1; have HK := Lib.hid hK; have HD2 := Lib.hid hD2; have HBW := Lib.hid hbw; have HN := Lib.hid hn0
        clear x0 x1 hK hD2 hbw hn0
        have hrs := RB.out.2.2.2
        have hd2 := HD2.out
        have hUE : upE X d = 6 := by
          unfold upE
          rw [if_neg (by omega), if_neg (fun h => h HO.out), if_neg (fun h => h (by rw [← N1.out, ← HS.out]; exact hs)), if_neg]
          rw [← N1.out, ← HS.out]
          intro hr
          obtain ⟨i, h1, h2, h3⟩ := n0_bits HN.out
          exact h3 (hr i (by have := HT.out; omega) h1)
        refine wpIn_ret ?_
        show bodyPostM Fence.wide 5 Try.prog Try.f25 (fun e w' => UpPost X d w e w') .ret _ _
        exact un_fin2 (L := W6.heap.size) _ rfl rfl hrs hd2 HK.out X0.out X1.out (fun W' hW' => up_err hUE (by decide) (HBW.out.trans (hW'.mono (by omega))))
theorem un_any (X : List Int) (a : Option Addr) (n c : Nat) (d : ByteArray) (w : World) (hX : Nums .i64 w a n c X) (hn : n ≤ 1000) (hml : d.size ≤ maxLen) :
    Calls Try.prog 25 #[.slice a n c, .string d] w fun e w' => UpPost X d w e w' := by
  by_cases hl : 65536 < d.size
  · exact un_long X a n c d w hml (by omega)
  · by_cases hok : okW X
    · by_cases hs : d.size = (offs (wid X) X.length + 7) / 8
      · exact un_good X a n c d w hX hn (by omega) hok hs
      · exact un_form X a n c d w hX hn (by omega) hok hs
    · exact un_bad X a n c d w hX hn (by omega) hok
end Go.Proofs.Ytjeaccpocpfkgaa
