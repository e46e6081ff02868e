/-
  The walk of convol.Encode (func14) at every message of up to 1100 bytes: encode_any. Conditions: those that each theorem names.
-/
import Derived.RangeFuncNested
import Derived.RangeFuncBound
import Derived.RangeFuncCalls
import Derived.RangeFuncLeaves
import Derived.RangeFuncBox
import Derived.Shelf.Abstract
import Derived.Shelf.RegionOpen
import Derived.WalkKit
import Derived.OwnWalkIn
import Derived.TacticsInMore
import Derived.LoopNIn
import Derived.LoopIn
import Derived.Maps.AppendAt
import Derived.Laws.BytesArg
import Derived.Test.YtbfgpjpfhbbdfaaIter
namespace Go.Proofs.Ytbfgpjpfhbbdfaa
open Go.RowKit Go.Shelf Kit
attribute [local go_sem] Oper.semAt_some
set_option linter.unusedVariables false

theorem bits1_stops (n : Nat) (hn : 1 ≤ n) (Bn : Nat) (d : ByteArray) (hd : d.size ≤ 1100) (w : World) (hBn : Bn < w.heap.size)
    (hc : w.cell? ⟨Bn, 0, none⟩ = some (.string d)) :
    SeqStopsK Fence.wide n Try.prog 47 #[.pointer (some ⟨Bn, 0, none⟩)] (fun x : Bit => #[Value.int .i64 ((x.1 : Nat) : Int)]) (KeepAt Bn) (fun xs => xs = bitL d (8 * d.size + 6)) (fun _ => True) (8 * d.size + 6) w := fun l J Jx W hW _ _ hY h0 =>
  bits1_in Fence.wide n trivial rfl hn l Bn d hd J Jx hY W ((hW.cell (p := ⟨Bn, 0, none⟩) hBn).trans hc) h0

theorem bits_any (d : ByteArray) (w : World) :
    Calls Try.prog 42 #[.string d] w fun e w' => e = .returned (.func (.func 47) #[] #[.pointer (some ⟨w.heap.size, 0, none⟩)]) ∧ w' = w.alloc (.cells #[.string d] 9) := by
  go_enter Try.func42, Try.ntmps42
  go_wp2_with (fail)
  go_ret
  exact ⟨rfl, rfl⟩

def encS (pre : List Bit) : Nat × List Int := pre.foldl (fun p b => (nx p.1 b.1, p.2 ++ [(o1 p.1 b.1 : Int), (o2 p.1 b.1 : Int)])) (0, [])
theorem encS_snoc (pre : List Bit) (x : Bit) : encS (pre ++ [x]) = (nx (encS pre).1 x.1, (encS pre).2 ++ [(o1 (encS pre).1 x.1 : Int), (o2 (encS pre).1 x.1 : Int)]) := by
  simp [encS]
theorem info5 : (Try.prog.info? 5).map (fun i => (i.zero, i.size, i.bytes)) = some (some (.int .u8 0), 1, 1) := by kernel_rfl

theorem encS_lt (pre : List Bit) : (encS pre).1 < 64 := by
  unfold encS
  suffices h : ∀ (l : List Bit) (p : Nat × List Int), p.1 < 64 → (l.foldl (fun p b => (nx p.1 b.1, p.2 ++ [(o1 p.1 b.1 : Int), (o2 p.1 b.1 : Int)])) p).1 < 64 from h pre (0, []) (by decide)
  intro l
  induction l with
  | nil => intro p hp; exact hp
  | cons b l ih => intro p hp; exact ih _ (by show nx p.1 b.1 < 64; have := b.2; unfold nx; omega)
theorem encS_len (pre : List Bit) : (encS pre).2.length = 2 * pre.length := by
  unfold encS
  suffices h : ∀ (l : List Bit) (p : Nat × List Int), (l.foldl (fun p b => (nx p.1 b.1, p.2 ++ [(o1 p.1 b.1 : Int), (o2 p.1 b.1 : Int)])) p).2.length = p.2.length + 2 * l.length by
    have := h pre (0, []); simpa using this
  intro l
  induction l with
  | nil => intro p; simp
  | cons b l ih => intro p; rw [List.foldl_cons, ih]; simp; omega
theorem tb_own (w0 : Nat) (cs : Array Value) (t : TypeId) : Own (fun (_ : List Bit) W => W.heap[w0]? = some (.cells cs t)) := fun s X Y row hs hg hr => (grownBy_keeps_cells hg hr hs rfl).trans hs
theorem not_row' {W : World} {B : Nat} {t e : TypeId} {cs : Array Value} (h : W.heap[B]? = some (.cells cs t)) (hte : t ≠ e) {base size k : Nat} {v : Value} {xs : List Value} (hr : W.ownsRow base e size v k xs) : some B ≠ v.ownBlock := by
  rcases hr.2 with ⟨rfl, _⟩ | ⟨g, cap, cur, rfl, _, hgb, _⟩
  · simp [Value.ownBlock]
  · intro e'
    obtain rfl : B = g := by simpa [Value.ownBlock] using e'
    have := h.symm.trans hgb
    simp at this
    exact hte this.2
theorem tb_cells {W : World} {T : Nat} (h : W.heap[T]? = some (.cells (tcells 128) 79)) (s b : Nat) (hs : s < 64) (hb : b < 2) :
    W.cell? ⟨T, s * 6 + b * 3, none⟩ = some (.int .i64 (nx s b)) ∧ W.cell? ⟨T, s * 6 + b * 3 + 1, none⟩ = some (.int .i64 (o1 s b)) ∧ W.cell? ⟨T, s * 6 + b * 3 + 2, none⟩ = some (.int .i64 (o2 s b)) := by
  obtain ⟨t1, t2, t3⟩ := tnum0 s b hb
  refine ⟨cell_of h ?_, cell_of h ?_, cell_of h ?_⟩
  · rw [tcells_get _ _ (by omega), if_pos (by omega), t1]
  · rw [tcells_get _ _ (by omega), if_pos (by omega), t2]
  · rw [tcells_get _ _ (by omega), if_pos (by omega), t3]
theorem cells_newE (w : World) (l : List Value) (t : TypeId) : ∀ j u, l[j]? = some u → (w.alloc (.cells l.toArray t)).cell? ((⟨w.heap.size, 0, none⟩ : Addr).add j) = some u := by
  intro j u h
  have hp : (⟨w.heap.size, 0, none⟩ : Addr).add j = ⟨w.heap.size, 0 + j, none⟩ := by unfold Addr.add; split <;> simp_all
  rw [hp]
  exact cell_of (hp_new w _) (by simpa using h)
theorem enc_kept {W w6 : World} {T B : Nat} {x : Array Value} {s : Value} {cs : Array Value} {v : Value} {d : Value} {y : Obj} {base size k : Nat} {xs : List Value}
    (hX : (W.alloc (.cells x 77)).heap[W.heap.size]? = some (.cells x 77)) (hS : Boxed W (B + 1) 3 s) (hT : W.heap[T]? = some (.cells cs 79)) (hD : Boxed W (B + 2) 9 d) (hv : Boxed W B 37 v)
    (hr : ((W.alloc (.cells x 77)).alloc y).ownsRow base 5 size v k xs) (hg : ((W.alloc (.cells x 77)).alloc y).grownBy w6 v.ownBlock) (v' : Value) (hTl : T < W.heap.size) :
    (w6.setCell ⟨B, 0, none⟩ v').heap[W.heap.size]? = some (.cells x 77) ∧ Boxed (w6.setCell ⟨B, 0, none⟩ v') (B + 1) 3 s ∧ (w6.setCell ⟨B, 0, none⟩ v').heap[T]? = some (.cells cs 79) ∧ Boxed (w6.setCell ⟨B, 0, none⟩ v') (B + 2) 9 d := by
  have g : ∀ {j : Nat} {c : Array Value} {t : TypeId}, ((W.alloc (.cells x 77)).alloc y).heap[j]? = some (.cells c t) → t ≠ 5 → w6.heap[j]? = some (.cells c t) := fun h ht => (hg.block _ (lt_of_obj h) (not_row' h ht hr)).trans h
  have hB := hv.lt
  have hBT : T ≠ B := by
    rintro rfl
    have := hT.symm.trans hv
    simp at this
  refine ⟨hp_set_ne (g (hp_old hX _) (by decide)) (by omega) _, hp_set_ne (g ((hS.alloc _).alloc _) (by decide)) (by omega) _, hp_set_ne (g (hp_old (hp_old hT _) _) (by decide)) (by omega) _, hp_set_ne (g ((hD.alloc _).alloc _) (by decide)) (by omega) _⟩
def encI (w : World) (T B : Nat) (d : ByteArray) (pre : List Bit) (W : World) : Prop :=
  ((∃ v, Boxed W B 37 v ∧ W.ownsRow w.heap.size 5 1 v (2 * pre.length) ((encS pre).2.map (Value.int .u8)) ∧ True) ∧ Boxed W (B + 1) 3 (.int .i64 (encS pre).1) ∧ W.heap[T]? = some (.cells (tcells 128) 79) ∧ Boxed W (B + 2) 9 (.string d)) ∧ Below w.heap.size w W

set_option maxRecDepth 100000 in
set_option maxHeartbeats 1600000 in
theorem encode_any (d : ByteArray) (hd : d.size ≤ 1100) (w : World) :
    Calls Try.prog 32 #[.string d] w fun e w' => e = .returned (.tuple #[.string (strOfNums (encS (bitL d (8 * d.size + 6))).2), .int .i64 0]) ∧ Below w.heap.size w w' := by
  obtain ⟨i0, hi, hz0, hz1, hz2⟩ := info_parts info5
  refine (callsIn_wide (n := 5)).1 ?_
  refine callsIn_of_wp_marks Try.func32 rfl trivial ?_ rfl
  simp only [Try.ntmps32, List.size_toArray, List.length_cons, List.length_nil, Nat.reduceAdd, Nat.reduceSub, Array.replicate_succ, Array.replicate_zero, List.push_toArray, List.append_toArray, List.nil_append, List.cons_append]
  refine wpIn_wide.2 ?_
  go_wp2_with (fail)
  refine (trellis_any _).mono ?_
  rintro e w1 ⟨rfl, hb1⟩
  have hz := zero42
  go_wp2_with (refine wpList_store_row rfl 79 _ _ rfl w1.heap.size (tcells 128) rfl rfl 79 _ (hp_new w1 (.cells (tcells 0) 79)) (by rw [tcells_size]; kernel_rfl) (by rw [tcells_size, tcells_size]) (by kernel_rfl) ?_)
  obtain ⟨w2, hw2⟩ : ∃ w2, (w1.alloc (.cells (tcells 0) 79)).setRow w1.heap.size (tcells 128) = w2 := ⟨_, rfl⟩
  have T2 : w2.heap[w1.heap.size]? = some (.cells (tcells 128) 79) := by rw [← hw2]; exact setRow_heap _ _ _ _ _ _ (hp_new w1 (.cells (tcells 0) 79))
  have hb2 : Below w.heap.size w w2 := by rw [← hw2]; exact below_setRow (bl_alloc hb1 _) hb1.size _
  have hs2 : w2.heap.size = w1.heap.size + 1 := by rw [← hw2]; simp [World.setRow, World.size_alloc]
  rw [hw2]
  clear hw2 hz
  have hd' : (d.size : Int) ≤ 1100 := by omega
  go_wp2_with (fail)
  refine (symbols_any _ _).mono ?_
  rintro e _ ⟨rfl, rfl⟩
  obtain ⟨m, hm⟩ : ∃ m : Nat, Hid (m = 16 * d.size + 12) := ⟨_, Lib.hid rfl⟩
  have hsym : symN (d.size : Int) = (m : Int) := by have := hm.out; unfold symN; rw [if_pos ⟨by omega, hd'⟩]; omega
  go_wp2_with (at_make; refine wpList_make_own _ rfl _ _ 37 rfl w.heap.size 5 i0 (.int .u8 0) 1 Try.underlying37 hi hz0 hz1 _ _ _ m rfl rfl rfl (by have := hm.out; rw [hz2]; omega) (by have := hm.out; unfold maxLen; omega) hb2.size ?_; intro w3 hown hgrow)
  have T3 : w3.heap[w1.heap.size]? = some (.cells (tcells 128) 79) := (hgrow.block _ (lt_of_obj T2) (by simp)).trans T2
  have hb3 : Below w.heap.size w w3 := hb2.grown hgrow hb2.size (fun k e => by cases e)
  have hs3 : w2.heap.size ≤ w3.heap.size := hgrow.size
  obtain ⟨v3, hv3⟩ : ∃ v, v = Value.slice (some ⟨w1.heap.size + 1, 0, none⟩) 0 m := ⟨_, rfl⟩
  rw [hs2, ← hv3] at hown
  replace hown := Lib.hid hown
  clear hgrow T2
  go_wp2_with (fail)
  rw [← hv3]
  obtain ⟨B, hB⟩ : ∃ B, B = w3.heap.size := ⟨_, rfl⟩
  obtain ⟨w4, hw4⟩ : ∃ w4, (w3.alloc (.cells #[v3] 37)).alloc (.cells #[.int .i64 0] 3) = w4 := ⟨_, rfl⟩
  have O4 : w4.ownsRow w.heap.size 5 1 v3 0 [] := by rw [← hw4]; exact (hown.out.alloc _).alloc _
  have T4 : w4.heap[w1.heap.size]? = some (.cells (tcells 128) 79) := by rw [← hw4]; exact hp_old (hp_old T3 _) _
  have V4 : Boxed w4 B 37 v3 := by rw [← hw4, hB]; exact (Boxed.new w3 37 v3).alloc _
  have S4 : Boxed w4 (B + 1) 3 (.int .i64 0) := by rw [← hw4, hB]; have := Boxed.new (w3.alloc (.cells #[v3] 37)) 3 (.int .i64 0); rw [World.size_alloc] at this; exact this
  have hb4 : Below w.heap.size w w4 := by rw [← hw4]; exact bl_alloc (bl_alloc hb3 _) _
  have s4 : w4.heap.size = B + 2 := by rw [← hw4]; simp [World.size_alloc, hB]
  have hwB : w.heap.size ≤ B := by rw [hB]; exact hb3.size
  have hw1B : w.heap.size ≤ w1.heap.size ∧ w1.heap.size < B := ⟨hb1.size, by omega⟩
  rw [hw4, ← hB]
  clear hw4 T3 hown hb3 hs3
  replace O4 := Lib.hid O4
  replace T4 := Lib.hid T4
  replace V4 := Lib.hid V4
  replace S4 := Lib.hid S4
  replace hb4 := Lib.hid hb4
  replace s4 := Lib.hid s4
  replace hv3 := Lib.hid hv3
  replace hwB := Lib.hid hwB
  replace hw1B := Lib.hid hw1B
  replace hs2 := Lib.hid hs2
  clear hB
  refine (bits_any d w4).mono ?_
  rintro e w5 ⟨rfl, h5⟩
  go_wp2_with (fail)
  refine (wpIn_wide (n := 5)).1 ?_
  have c4 : w4.heap.size = B + 2 := s4.out
  simp only [c4]
  have b5 := Boxed.new w4 9 (.string d)
  rw [c4] at b5
  refine wpIn_rangeFunc_ownG rfl (show 1 ≤ 5 by omega) (gf := 47) (lb := #[.pointer (some ⟨B + 2, 0, none⟩)]) rfl trivial (enters_of Try.func47 (by kernel_rfl) rfl)
    (bits1_stops 4 (show 1 ≤ 4 by omega) (B + 2) d hd (w4.alloc (.cells #[.string d] 9)) (by rw [World.size_alloc, c4]; omega) b5.cell) keepAt_t (keepAt_b (by rw [World.size_alloc, c4]; omega)) (Below.refl _ _) (fun _ => rfl)
    (encI w w1.heap.size B d)
    (fun _ _ _ => False)
    (OwnFrom.and ((Own.from (holdsRow_own w.heap.size B 37 5 1 (fun pre : List Bit => 2 * pre.length) (fun pre => (encS pre).2.map (Value.int .u8)) (fun _ _ => True)) _).and (((boxed_own (B + 1) 3 (fun pre => .int .i64 (encS pre).1)).from _).and (((tb_own w1.heap.size (tcells 128) 79).from _).and ((boxed_own (B + 2) 9 (fun _ => .string d)).from _)))) (ownFrom_below (Nat.le_refl _) (by rw [World.size_alloc, c4]; have := hwB.out; omega)))
    (fun _ _ _ _ _ hs _ _ => hs)
    ⟨⟨⟨v3, V4.out.alloc _, O4.out.alloc _, trivial⟩, S4.out.alloc _, hp_old T4.out _, b5⟩, bl_alloc hb4.out _⟩
    (fun x => { tmps := #[Value.string d, undef, Value.string { data := #[] }, Value.int IntKind.i64 0,
          Value.pointer (some { block := w1.heap.size, off := 0 }), Value.pointer (some { block := B, off := 0 }),
          Value.pointer (some { block := B + 1, off := 0 }), .int .i64 ((x.1 : Nat) : Int), undef, Value.string d,
          Value.int IntKind.i64 d.size, Value.bool (decide (1100 < (d.size : Int))), Value.agg (tcells 128), Value.string d,
          Value.int IntKind.i64 d.size, Value.int IntKind.i64 m,
          v3, Value.string d,
          Value.func (Fn.func 47) #[] #[Value.pointer (some { block := B + 2, off := 0 })], .int .i64 ((x.1 : Nat) : Int), undef, undef, undef,
          undef, undef, undef, undef, undef, undef, undef, undef, undef, undef, undef, undef, undef, undef, undef], defers := [] }) ?assign ?body ?done ?stop
  case assign =>
    intro l x W K hK
    gi_wp2
    exact hK
  case body =>
    rintro l pre x W ⟨⟨⟨v, hv, hrow, -⟩, hS, hT, hD⟩, hBW⟩ hlt
    obtain ⟨s, hs⟩ : ∃ s, s = (encS pre).1 := ⟨_, rfl⟩
    obtain ⟨b, hb⟩ := x
    have hs64 : s < 64 := by rw [hs]; exact encS_lt pre
    rw [← hs] at hS
    obtain ⟨q1, q2, q3⟩ := tb_cells hT s b hs64 hb
    obtain ⟨n1, hn1⟩ : ∃ n, n = nx s b := ⟨_, rfl⟩
    obtain ⟨a1, ha1⟩ : ∃ n, n = o1 s b := ⟨_, rfl⟩
    obtain ⟨a2, ha2⟩ : ∃ n, n = o2 s b := ⟨_, rfl⟩
    have l1 : a1 < 2 := by rw [ha1]; exact par_lt _
    have l2 : a2 < 2 := by rw [ha2]; unfold o2; omega
    rw [← hn1] at q1
    rw [← ha1] at q2
    rw [← ha2] at q3
    have u1 : IntKind.u8.wrap (a1 : Int) = a1 := IntWalk.u8_in _ (by omega)
    have u2 : IntKind.u8.wrap (a2 : Int) = a2 := IntWalk.u8_in _ (by omega)
    have cv := hv.cell
    have cs := hS.cell
    have fs := hS.frozen
    replace hs := Lib.hid hs
    replace hn1 := Lib.hid hn1
    replace ha1 := Lib.hid ha1
    replace ha2 := Lib.hid ha2
    replace hrow := Lib.hid hrow
    replace hT := Lib.hid hT
    replace hD := Lib.hid hD
    replace hS := Lib.hid hS
    replace hv := Lib.hid hv
    replace hBW := Lib.hid hBW
    have hX := hp_new W (.cells #[.int .i64 n1, .int .i64 a1, .int .i64 a2] 77)
    have cX := (hv.out.alloc (.cells #[.int .i64 n1, .int .i64 a1, .int .i64 a2] 77)).cell
    have nY := cells_newE (W.alloc (.cells #[.int .i64 n1, .int .i64 a1, .int .i64 a2] 77)) [.int .u8 a1, .int .u8 a2] 5
    rw [World.size_alloc] at nY
    replace hX := Lib.hid hX
    replace nY := Lib.hid nY
    gi_wp2_with (gi_at_builtin; refine wpListIn_append_own _ rfl _ _ 37 rfl w.heap.size 5 i0 (.int .u8 0) 1 1 Try.underlying37 hi hz0 hz1 hz2 rfl (by decide) _ _ _ rfl ((hrow.out.alloc _).alloc _) ⟨W.heap.size + 1, 0, none⟩ 2 2 [.int .u8 a1, .int .u8 a2] rfl rfl nY.out (by simp [Value.oneCell']) (by unfold maxLen; omega) (by omega) (by have := hBW.out.size; simp; omega) ?_; intro v' w6 hown' hgrow _; obtain ⟨g', cap', rfl⟩ := ownsRow_succ hown'; obtain ⟨hv1, hv2, hr2, hk2, hb2⟩ := (hv.out.alloc _).appended (by decide) (hrow.out.alloc _) (by have := hBW.out.size; simp; omega) (hwB.out) hown' hgrow; have hc1 := hv1.cell; have hf1 := hv1.frozen; have hr0 := (hrow.out.alloc (.cells #[.int .i64 n1, .int .i64 a1, .int .i64 a2] 77)).alloc (.cells #[.int .u8 a1, .int .u8 a2] 5); obtain ⟨hX7, hS7, hT7, hD7⟩ := enc_kept hX.out hS.out hT.out hD.out hv.out hr0 hgrow (.slice (some ⟨g', 0, none⟩) (2 * pre.length + 1 + 1) cap') (lt_of_obj hT.out); have cx7 := cell_of (i := 0) hX7 rfl; have cs7 := hS7.cell; have fs7 := hS7.frozen; replace hX7 := Lib.hid hX7; replace hS7 := Lib.hid hS7; replace hT7 := Lib.hid hT7; replace hD7 := Lib.hid hD7; replace hv2 := Lib.hid hv2; replace hr2 := Lib.hid hr2; replace hk2 := Lib.hid hk2; replace hb2 := Lib.hid hb2; clear hgrow hown' hr0)
    have hL := hv.out.lt
    have hBW' := hBW.out
    have hw1B' := hw1B.out
    have hwB' := hwB.out
    have eS := encS_snoc pre ⟨b, hb⟩
    simp only at eS
    rw [← hs.out, ← hn1.out, ← ha1.out, ← ha2.out] at eS
    refine ⟨((KeepsOthers.alloc W _).trans (hk2.out.trans (KeepsOthers.setCell _ _ _))).from _, ?_, ⟨⟨⟨_, hp_set_ne hv2.out (by omega) _, ?_, trivial⟩, ?_, hp_set_ne hT7.out (by omega) _, hp_set_ne hD7.out (by omega) _⟩, ?_⟩⟩
    · exact (hp_set_ne hD7.out (by omega) _).trans hD.out.symm
    · have := hr2.out.kept (grownBy_setCell' _ (B + 1) (.int .i64 n1)) (.inr (hS7.out.not_row (by decide) hr2.out).symm)
      rw [eS]
      simpa [Nat.mul_add] using this
    · rw [eS]; exact hS7.out.set _
    · exact ((hBW'.trans ((Below.refl w.heap.size W).alloc hBW'.size _)).trans hb2.out).setCell (p := ⟨B + 1, 0, none⟩) (by show w.heap.size ≤ B + 1; omega) _
  case done =>
    rintro D ys W hD rfl ⟨⟨⟨v, hv, hrow, -⟩, hS, hT, hDd⟩, hBW⟩ hK
    have cv := hv.cell
    rw [bitL_length] at hrow
    obtain ⟨L', hL'⟩ : ∃ L, L = 2 * (8 * d.size + 6) - 1 := ⟨_, rfl⟩
    rw [show 2 * (8 * d.size + 6) = L' + 1 by omega] at hrow
    obtain ⟨g, cap, rfl⟩ := ownsRow_succ hrow
    obtain ⟨L, hL⟩ : ∃ L, L = L' + 1 := ⟨_, rfl⟩
    obtain ⟨xs, hxs⟩ : ∃ xs, xs = (encS (bitL d (8 * d.size + 6))).2 := ⟨_, rfl⟩
    rw [← hL, ← hxs] at hrow
    rw [← hL] at cv hv
    have lx : xs.length = L := by rw [hxs, encS_len, bitL_length]; omega
    have hcv := run_convert_bytes_arg W 37 5 Try.underlying37 Try.underlying5 g 0 L cap xs lx (fun i hi => by
      rw [Nat.zero_add, hrow.cellAt i (by omega)]
      simp [List.getD, List.getElem?_eq_getElem (show i < xs.length by omega)]) 9 Try.underlying9
    replace hrow := Lib.hid hrow
    replace hv := Lib.hid hv
    replace hL := Lib.hid hL
    replace hL' := Lib.hid hL'
    replace hxs := Lib.hid hxs
    go_wp2_with (fail)
    refine ⟨by simp, .inl ⟨_, _, rfl, run_takeDeferred hK, ?_⟩⟩
    rw [← hxs.out]
    exact ⟨_, results_tmp2 rfl _ _ _, rfl, hBW.trans (belowK_b (w := w) (Nat.le_refl _) W D _ _ (by have := hBW.size; have := hb4.out.size; simp at hD; omega) hK rfl rfl)⟩
  case stop =>
    rintro D c pre W _ _ h _
    exact h.elim
end Go.Proofs.Ytbfgpjpfhbbdfaa
