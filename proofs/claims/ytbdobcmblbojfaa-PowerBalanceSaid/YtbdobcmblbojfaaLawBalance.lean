/-
  The walk of the law on the balance of a battery. Conditions: none.
-/
import Derived.Test.YtbdobcmblbojfaaBig
import Derived.Test.YtbdobcmblbojfaaShnb
import Derived.Deep.RegionWith
import Derived.Deep.CutRange
import Derived.Deep.LoopGhost
namespace Go.Proofs.Ytbdobcmblbojfaa
open Go.RowKit Kit Go.Shelf
set_option linter.unusedVariables false
theorem ord_exists (l : List Ld) : ∃ o, Ord l o := by
  refine ⟨_, ord_of (n := l.length) rfl ((List.finRange l.length).mergeSort fun x y => !(ltOf (fun i k : Fin l.length => cfN l i.val k.val)) y x) (List.mergeSort_perm _ _) ?_⟩
  have := List.pairwise_mergeSort (le := fun x y => !(ltOf (fun i k : Fin l.length => cfN l i.val k.val)) y x) ?_ ?_ (List.finRange l.length)
  · refine this.imp ?_
    intro x y h
    right
    rw [ltF] at h
    simpa using h
  · intro x y z h1 h2
    simp only [ltF, Bool.not_eq_true', decide_eq_false_iff_not] at *
    unfold bef at *; omega
  · intro x y
    simp only [ltF, Bool.or_eq_true, Bool.not_eq_true', decide_eq_false_iff_not]
    unfold bef; omega
/-- A step's contract, its result being known. -/
def StepAs (F : Nat) (c f m u s made : Int) (l : List Ld) (n : Nat) (y0 y1 y2 y3 y4 E : Int) (nT : Nat) (T : List Bool) : Prop :=
  ∀ (a : Option Addr) (cp : Nat) (W : World), Lds W a n cp l → Calls Try.prog F #[batV c f m u s, .int .i64 made, .slice a n cp] W fun e w' =>
    ∃ a1 c1, e = .returned (.tuple #[batV y0 y1 y2 y3 y4, .slice a1 nT c1, .int .i64 E]) ∧ Bls w' a1 nT c1 T ∧ (∀ b off, a1 = some ⟨b, off, none⟩ → W.heap.size ≤ b) ∧ Below W.heap.size W w'
theorem bls_nil2 (w : World) : Bls w none 0 0 [] := ⟨rfl, Nat.le_refl _, by simp [maxLen], fun i hi => by omega⟩
/-- The outcomes of a step. -/
theorem step_out (c f m u s made : Int) (l : List Ld) (n : Nat) (hn0 : n ≤ 100000) :
    (okS c f m u s made l = false ∧ StepAs 11 c f m u s made l n 0 0 0 0 0 2 0 []) ∨
    ∃ o S U P, Good c f m u s made l o S U P ∧
      ((tooBig m u s made U P = true ∧ StepAs 11 c f m u s made l n 0 0 0 0 0 7 0 []) ∨
       (tooBig m u s made U P = false ∧ StepAs 11 c f m u s made l n (c + made - U - P) f (m + made) (u + U) (s + P) 0 n S)) := by
  have hn : n ≤ 1000000 := by omega
  cases hok : okS c f m u s made l with
  | false => exact .inl ⟨rfl, fun a cp W h => (step_bad c f m u s made l a n cp W h hn hok).mono fun e w' h => ⟨none, 0, h.1, bls_nil2 _, (fun _ _ e => by cases e), h.2⟩⟩
  | true =>
    obtain ⟨h1, h2, h3⟩ := okS_parts hok
    obtain ⟨o, ho⟩ := ord_exists l
    obtain ⟨S, hS⟩ : ∃ S, S = shedL l (c + made) o (onL l) := ⟨_, rfl⟩
    obtain ⟨U, hU⟩ : ∃ U, U = sumS l S := ⟨_, rfl⟩
    obtain ⟨P, hP⟩ : ∃ P, P = mx 0 (c + made - U - f) := ⟨_, rfl⟩
    have hG : Good c f m u s made l o S U P := ⟨h1, h2, h3, ho, hS, hU, hP⟩
    have key : ∀ {W e w'}, StepPost c f m u s made l n W e w' → Below W.heap.size W w' ∧
        ((tooBig m u s made U P = true ∧ e = .returned (.tuple #[batV 0 0 0 0 0, .slice none 0 0, .int .i64 7])) ∨
         (tooBig m u s made U P = false ∧ ∃ a' c', e = .returned (.tuple #[batV (c + made - U - P) f (m + made) (u + U) (s + P), .slice a' n c', .int .i64 0]) ∧ Bls w' a' n c' S ∧ ∀ b off, a' = some ⟨b, off, none⟩ → W.heap.size ≤ b)) := by
      intro W e w' h
      obtain ⟨o', S', U', P', ho', hS', hU', hP', hb, h⟩ := h
      obtain rfl := ho'.eq ho
      obtain rfl : S' = S := by rw [hS', hS]
      obtain rfl : U' = U := by rw [hU', hU]
      obtain rfl : P' = P := by rw [hP', hP]; rfl
      refine ⟨hb, ?_⟩
      rcases h with ⟨h4, h5⟩ | ⟨h4, v, h5, h6⟩
      · exact .inl ⟨decide_eq_true h4, h5⟩
      · obtain ⟨a', c', rfl, hbv⟩ := own_bls h6
        exact .inr ⟨decide_eq_false h4, a', c', h5, hbv, fun b off e => (h6.lt b (by rw [e]; rfl)).1⟩
    refine .inr ⟨o, S, U, P, hG, ?_⟩
    cases hb : tooBig m u s made U P with
    | true =>
      refine .inl ⟨rfl, fun a cp W h => (step_good c f m u s made l a n cp W h h1 h2 h3).mono fun e w' h => ?_⟩
      obtain ⟨h1, h2⟩ := key h
      rcases h2 with ⟨_, h2⟩ | ⟨h2, _⟩
      · exact ⟨none, 0, h2, bls_nil2 _, (fun _ _ e => by cases e), h1⟩
      · rw [hb] at h2; cases h2
    | false =>
      refine .inr ⟨rfl, fun a cp W h => (step_good c f m u s made l a n cp W h h1 h2 h3).mono fun e w' h => ?_⟩
      obtain ⟨h1, h2⟩ := key h
      rcases h2 with ⟨h2, _⟩ | ⟨_, a', c', h2, h3, h4⟩
      · rw [hb] at h2; cases h2
      · exact ⟨a', c', h2, h3, h4, h1⟩
/-- A slice of numbers: the one at a place. -/
theorem slIn_i64 {w : World} {v : Value} (h : SlIn [.inl .i64] w v) : ∃ (a : Option Addr) (n c : Nat) (X : Nat → Int), v = .slice a n c ∧ n ≤ c ∧ c ≤ maxLen ∧ ∀ i, i < n → ∃ b off, a = some ⟨b, off, none⟩ ∧ b < w.heap.size ∧ w.cell? ⟨b, off + i, none⟩ = some (.int .i64 (X i)) ∧ (Lit.int .i64 (X i)).wf = true := by
  obtain ⟨Y, h1, h2, h3⟩ := slIn_l h
  rcases h1 with ⟨b, off, c, rfl, k1, k2, k3, k4⟩ | ⟨rfl, a, rfl⟩
  · have hx : ∀ i, ∃ x : Int, ∀ (h : i < Y.length), Y[i] = [Value.int .i64 x] ∧ (Lit.int .i64 x).wf = true := fun i => by
      by_cases hi : i < Y.length
      · obtain ⟨n, cs, e, h4, h5⟩ := scAll_int (h3 Y[i] (List.getElem_mem hi))
        rw [scAll_nil h5] at e
        exact ⟨n, fun _ => ⟨e, h4⟩⟩
      · exact ⟨0, fun h => (hi h).elim⟩
    refine ⟨_, Y.length, c, fun i => Classical.choose (hx i), rfl, k1, k2, fun i hi => ⟨b, off, rfl, k3, ?_, (Classical.choose_spec (hx i) hi).2⟩⟩
    have := k4 i _ (List.getElem?_eq_getElem hi) 0 (by simp)
    rw [(Classical.choose_spec (hx i) hi).1] at this
    simpa using this
  · exact ⟨a, 0, 0, fun _ => 0, rfl, Nat.le_refl _, by simp, fun i hi => by omega⟩
/-- What holds at the head of the loop over the ticks. -/
structure BaI (w : World) (C c f m u s : Int) (l : List Ld) (B2 : Nat) (x0 x2 x3 x4 : Int) (wr : World) : Prop where
  bb : BX w w.heap.size c f m u s wr
  bc : BX w B2 x0 f x2 x3 x4 wr
  ok : okC x0 f x2 x3 x4 l = true
  eq : c + (x2 - m) = x0 + (x3 - u) + (x4 - s)
  ne : w.heap.size < B2
theorem bcell {W w1 : World} (hb : Below W.heap.size W w1) : (∀ b o, b < W.heap.size → w1.cell? ⟨b, o, none⟩ = W.cell? ⟨b, o, none⟩) ∧ (∀ b o, b < W.heap.size → w1.frozen? ⟨b, o, none⟩ = W.frozen? ⟨b, o, none⟩) ∧ W.heap.size ≤ w1.heap.size :=
  ⟨fun b o h => hb.cell (p := ⟨b, o, none⟩) h, fun b o h => hb.frozen (p := ⟨b, o, none⟩) h, hb.size⟩
theorem BaI.step {w : World} {C c f m u s : Int} {l : List Ld} {B2 : Nat} {x0 x2 x3 x4 : Int} {wr wr' : World} (h : BaI w C c f m u s l B2 x0 x2 x3 x4 wr) (hb : Below wr.heap.size wr wr') : BaI w C c f m u s l B2 x0 x2 x3 x4 wr' :=
  ⟨h.bb.step hb, h.bc.step hb, h.ok, h.eq, h.ne⟩
theorem BaI.set {w : World} {C c f m u s : Int} {l : List Ld} {B2 : Nat} {x0 x2 x3 x4 y0 y2 y3 y4 : Int} {wr : World} (h : BaI w C c f m u s l B2 x0 x2 x3 x4 wr) (ho : okC y0 f y2 y3 y4 l = true) (he : c + (y2 - m) = y0 + (y3 - u) + (y4 - s)) :
    BaI w C c f m u s l B2 y0 y2 y3 y4 (((((wr.setCell ⟨B2, 0, none⟩ (.int .i64 y0)).setCell ⟨B2, 1, none⟩ (.int .i64 f)).setCell ⟨B2, 2, none⟩ (.int .i64 y2)).setCell ⟨B2, 3, none⟩ (.int .i64 y3)).setCell ⟨B2, 4, none⟩ (.int .i64 y4)) := by
  have hm := set5_mod wr B2 (.int .i64 y0) (.int .i64 f) (.int .i64 y2) (.int .i64 y3) (.int .i64 y4)
  have hne := h.ne
  have hc := h.bc.set (Nat.le_of_lt hne) y0 f y2 y3 y4
  exact ⟨⟨hm.keeps h.bb.bt (by omega), hc.bl⟩, hc, ho, he, hne⟩
theorem below_as {W W1 W' : World} {B : Nat} (h : Below B W W1) (e : W' = W ∨ W' = W.drew ∨ W = W'.drew) : Below B W' W1 := by
  rcases e with rfl | rfl | rfl
  · exact h
  · exact ⟨h.os, h.tape, h.output, h.size, h.block⟩
  · exact ⟨h.os, h.tape, h.output, h.size, h.block⟩
theorem below_alloc2 {wr w3 : World} {Z : Obj} (h : Below (wr.alloc Z).drew.heap.size (wr.alloc Z).drew w3) : Below (wr.heap.size + 1) (wr.alloc Z) w3 := by
  have e : (wr.alloc Z).drew.heap.size = wr.heap.size + 1 := World.size_alloc wr Z
  rw [e] at h
  exact ⟨h.os, h.tape, h.output, h.size, h.block⟩
theorem ne_alloc {wr : World} {Z : Obj} {a1 : Option Addr} (h : ∀ b off, a1 = some ⟨b, off, none⟩ → (wr.alloc Z).drew.heap.size ≤ b) : ∀ b off, a1 = some ⟨b, off, none⟩ → b ≠ wr.heap.size := by
  have e : (wr.alloc Z).drew.heap.size = wr.heap.size + 1 := World.size_alloc wr Z
  rw [e] at h
  intro b off hb
  have := h b off hb
  omega
/-- What the drawn statement leaves. -/
def Rel (w : World) (c f m u s : Int) (l : List Ld) (B2 : Nat) (x0 x2 x3 x4 y0 y1 y2 y3 y4 E : Int) (nT : Nat) (T : List Bool) (dv sv ev : Value) (wc : World) : Prop :=
  ∃ D a1 k1, dv = .pointer (some ⟨D, 0, none⟩) ∧ sv = .slice a1 nT k1 ∧ ev = .int .i64 E ∧ BaI w 0 c f m u s l B2 x0 x2 x3 x4 wc ∧ BX w D y0 y1 y2 y3 y4 wc ∧ Bls wc a1 nT k1 T
theorem rel_a {w : World} {c f m u s : Int} {l : List Ld} {B2 : Nat} {x0 x2 x3 x4 y0 y1 y2 y3 y4 E : Int} {nT : Nat} {T : List Bool} {wr w3 : World} {a1 : Option Addr} {k1 : Nat}
    (h : BaI w 0 c f m u s l B2 x0 x2 x3 x4 wr) (hb : Below wr.drew.heap.size wr.drew w3) (hs : Bls w3 a1 nT k1 T) :
    Rel w c f m u s l B2 x0 x2 x3 x4 y0 y1 y2 y3 y4 E nT T (.pointer (some ⟨w3.heap.size, 0, none⟩)) (.slice a1 nT k1) (.int .i64 E) (w3.alloc (.cells #[.int .i64 y0, .int .i64 y1, .int .i64 y2, .int .i64 y3, .int .i64 y4] 23)) := by
  have hb' : Below wr.heap.size wr w3 := below_as hb (.inr (.inr rfl))
  have d := bl_alloc (Below.refl w3.heap.size w3) (.cells #[.int .i64 y0, .int .i64 y1, .int .i64 y2, .int .i64 y3, .int .i64 y4] 23)
  exact ⟨_, _, _, rfl, rfl, rfl, (h.step hb').step d, BX.new (h.step hb').bb.bl _ _ _ _ _, hs.below d⟩
theorem rel_b {w : World} {c f m u s : Int} {l : List Ld} {B2 : Nat} {x0 x2 x3 x4 y0 y1 y2 y3 y4 E : Int} {nT : Nat} {T : List Bool} {wr w3 : World} {a1 : Option Addr} {k1 : Nat}
    (h : BaI w 0 c f m u s l B2 x0 x2 x3 x4 wr) (hb : Below (wr.heap.size + 1) (wr.alloc (.cells #[.int .i64 0, .int .i64 0, .int .i64 0, .int .i64 0, .int .i64 0] 23)) w3) (hs : Bls w3 a1 nT k1 T) (hne : ∀ b off, a1 = some ⟨b, off, none⟩ → b ≠ wr.heap.size) :
    Rel w c f m u s l B2 x0 x2 x3 x4 y0 y1 y2 y3 y4 E nT T (.pointer (some ⟨wr.heap.size, 0, none⟩)) (.slice a1 nT k1) (.int .i64 E)
      (((((w3.setCell ⟨wr.heap.size, 0, none⟩ (.int .i64 y0)).setCell ⟨wr.heap.size, 1, none⟩ (.int .i64 y1)).setCell ⟨wr.heap.size, 2, none⟩ (.int .i64 y2)).setCell ⟨wr.heap.size, 3, none⟩ (.int .i64 y3)).setCell ⟨wr.heap.size, 4, none⟩ (.int .i64 y4)) := by
  have d := bl_alloc (Below.refl wr.heap.size wr) (.cells #[.int .i64 0, .int .i64 0, .int .i64 0, .int .i64 0, .int .i64 0] 23)
  have hb' : Below (wr.alloc (.cells #[.int .i64 0, .int .i64 0, .int .i64 0, .int .i64 0, .int .i64 0] 23)).heap.size (wr.alloc (.cells #[.int .i64 0, .int .i64 0, .int .i64 0, .int .i64 0, .int .i64 0] 23)) w3 := by rw [World.size_alloc]; exact hb
  have h3 := (h.step d).step hb'
  have hz : w3.heap[wr.heap.size]? = some (.cells #[.int .i64 0, .int .i64 0, .int .i64 0, .int .i64 0, .int .i64 0] 23 (0, 0)) := below_keeps hb' (hp_new wr _) (by simp)
  have hm := set5_mod w3 wr.heap.size (.int .i64 y0) (.int .i64 y1) (.int .i64 y2) (.int .i64 y3) (.int .i64 y4)
  have hlb := lt_of_obj h.bb.bt
  have hlc := lt_of_obj h.bc.bt
  have hle : w.heap.size ≤ wr.heap.size := h.bb.bl.size
  have hbl : Below w.heap.size w _ := h3.bb.bl.trans (hm.below h3.bb.bl.size (fun k e => by rw [e]; exact hle))
  refine ⟨_, _, _, rfl, rfl, rfl, ⟨⟨hm.keeps h3.bb.bt (by omega), hbl⟩, ⟨hm.keeps h3.bc.bt (by omega), hbl⟩, h.ok, h.eq, h.ne⟩, ⟨set5_hp hz _ _ _ _ _, hbl⟩, hs.1, hs.2.1, hs.2.2.1, fun i hi => ?_⟩
  obtain ⟨b, off, he, hl, hc⟩ := hs.2.2.2 i hi
  have hbn := hne b off he
  exact ⟨b, off, he, Nat.lt_of_lt_of_le hl hm.size, (hm.cell hl hbn).trans hc⟩
set_option maxRecDepth 100000 in
set_option maxHeartbeats 25600000 in
theorem balance_in (c f m u s : Int) (a am : Option Addr) (n cp nm cm : Nat) (X : Nat → Int) (l : List Ld) (w : World) (hL : Lds w a n cp l) (hok : okC c f m u s l = true) (hnm : nm ≤ 200) (hcm : nm ≤ cm) (hcm2 : cm ≤ maxLen)
    (hX : ∀ i, i < nm → ∃ b off, am = some ⟨b, off, none⟩ ∧ b < w.heap.size ∧ w.cell? ⟨b, off + i, none⟩ = some (.int .i64 (X i)) ∧ (Lit.int .i64 (X i)).wf = true) :
    Calls Try.prog 6 #[batV c f m u s, .slice am nm cm, .slice a n cp] w fun e w' => e = .returned (.bool true) ∧ Below w.heap.size w w' := by
  obtain ⟨p1, p2, p3, k4, k5, k6, k7, k8, hd⟩ := okC_parts hok
  have HL := Lib.hid hL
  have HX := Lib.hid hX
  have N1 := Lib.hid hL.1
  have hn : n ≤ 16 := by have := hL.1; omega
  have hcap := hL.2.1
  have hcap2 := hL.2.2.1
  unfold maxLen at hcap2 hcm2
  have CA := Lib.hid (fun W h => check_any c f m u s l a n cp W h (by omega))
  rw [chkE_ok hok] at CA
  have CB := Lib.hid (fun x0 x2 x3 x4 W (h : okC x0 f x2 x3 x4 l = true) hW => by
    have := check_any x0 f x2 x3 x4 l a n cp W hW (by omega)
    rw [chkE_ok h] at this
    exact this)
  have SA := Lib.hid (fun x0 x2 x3 x4 made W h => step_any x0 f x2 x3 x4 made l a n cp W h (by omega))
  have P0 := Lib.hid (BX.new (Below.refl w.heap.size w) c f m u s)
  have HOK := Lib.hid hok
  have HD := Lib.hid hd
  unfold batV at CA CB SA ⊢
  clear hL hok hX hd
  go_enter Try.func6, Try.ntmps6
  go_wp2_with (fail)
  refine (shown_any _).mono ?_
  rintro e W1 ⟨rfl, b1⟩
  have P1 := Lib.hid (P0.out.step b1)
  clear b1 P0
  obtain ⟨c0, c1, c2, c3, c4, cl, cf⟩ := P1.out.cells
  go_wp2_with (fail)
  refine (CA.out _ (HL.out.below P1.out.bl)).mono ?_
  rintro e W2 ⟨rfl, b2⟩
  have P2 := Lib.hid (P1.out.step b2)
  clear b2 P1 c0 c1 c2 c3 c4 cl cf
  obtain ⟨c0, c1, c2, c3, c4, cl, cf⟩ := P2.out.cells
  go_wp2_with (fail)
  have I0 : Hid (BaI w 0 c f m u s l W2.heap.size c m u s (W2.alloc (.cells #[.int .i64 c, .int .i64 f, .int .i64 m, .int .i64 u, .int .i64 s] 23))) := Lib.hid
    ⟨P2.out.step (bl_alloc (Below.refl _ _) _), BX.new P2.out.bl _ _ _ _ _, HOK.out, by omega, lt_of_obj P2.out.bt⟩
  obtain ⟨B2, hB2⟩ : ∃ B2, B2 = W2.heap.size := ⟨_, rfl⟩
  rw [← hB2] at I0 ⊢
  clear c0 c1 c2 c3 c4 cl cf P2 HOK hB2
  go_loopg [8] nm (fun gg iv wr => ∃ (i : Nat) (x0 x2 x3 x4 : Int), i ≤ nm ∧ nm - i ≤ gg ∧ iv = .int .i64 i ∧ BaI w 0 c f m u s l B2 x0 x2 x3 x4 wr)
  case atStart => exact ⟨0, c, m, u, s, by omega, by omega, rfl, I0.out⟩
  case round =>
    clear I0
    obtain ⟨i, x0, x2, x3, x4, hi, hgg, rfl, hI⟩ := hrel
    have HI := Lib.hid hI
    clear hI
    by_cases hlt : i < nm
    · obtain ⟨b, off, rfl, hbl0, hc0, hwf⟩ := HX.out i hlt
      have hcell := (HI.out.bb.bl.cell (p := ⟨b, off + i, none⟩) hbl0).trans hc0
      have hbl := Nat.lt_of_lt_of_le hbl0 HI.out.bb.bl.size
      obtain ⟨v0, v1, v2, v3, v4, vl, vf⟩ := HI.out.bc.cells
      obtain ⟨made, hmade⟩ : ∃ made, made = X i := ⟨_, rfl⟩
      rw [← hmade] at hcell hc0
      have HC0 := Lib.hid hc0
      have HBL := Lib.hid hbl0
      have LD := Lib.hid (HL.out.below HI.out.bb.bl)
      clear hc0 hbl0 hwf hmade
      have hso := step_out x0 f x2 x3 x4 made l n (by omega)
      rcases hso with ⟨hno, hst⟩ | ⟨o, S, U, P, hG, hres⟩
      · have ST := Lib.hid hst
        clear hst hno
        unfold StepAs batV at ST
        clear SA CA CB HX
        go_wp2_with (fail)
        go_cut [9, 10, 11] from 26 to 101 (fun dv sv ev wc => Rel w c f m u s l B2 x0 x2 x3 x4 0 0 0 0 0 2 0 [] dv sv ev wc)
        case first =>
          go_region_with (go_at_call 11; refine (ST.out _ _ _ (by first | exact LD.out.below (Below.refl _ _).drew | exact LD.out.below (bl_alloc (Below.refl _ _) _).drew)).mono ?_; rintro e w3 ⟨a1, k1, rfl, hb3, hne3, hbl3⟩; obtain ⟨zc, zf, zs⟩ := bcell hbl3)
          all_goals (try go_wp2_with (fail))
          all_goals go_meet
          · exact rel_a HI.out hbl3 hb3
          · exact rel_b HI.out (below_alloc2 hbl3) hb3 (ne_alloc hne3)
          · exact rel_b HI.out (below_alloc2 hbl3) hb3 (ne_alloc hne3)
          · exact rel_a HI.out hbl3 hb3
          all_goals exact rel_b HI.out (below_alloc2 hbl3) hb3 (ne_alloc hne3)
        case rest =>
          obtain ⟨D, a1, k1, rfl, rfl, rfl, hI2, hD, hS2⟩ := hcut
          obtain ⟨e0, e1, e2, e3, e4, el, ef⟩ := hD.cells
          have HI2 := Lib.hid hI2
          clear hI2 hD hS2
          go_wp2_with (fail)
          go_roundg (gk - 1)
          case measure => omega
          case rel => exact ⟨i + 1, x0, x2, x3, x4, by omega, by omega, by simp, HI2.out⟩
      · rcases hres with ⟨hbig, hst⟩ | ⟨hbig, hst⟩
        · have ST := Lib.hid hst
          clear hst hbig hG
          unfold StepAs batV at ST
          clear SA CA CB HX
          go_wp2_with (fail)
          go_cut [9, 10, 11] from 26 to 101 (fun dv sv ev wc => Rel w c f m u s l B2 x0 x2 x3 x4 0 0 0 0 0 7 0 [] dv sv ev wc)
          case first =>
            go_region_with (go_at_call 11; refine (ST.out _ _ _ (by first | exact LD.out.below (Below.refl _ _).drew | exact LD.out.below (bl_alloc (Below.refl _ _) _).drew)).mono ?_; rintro e w3 ⟨a1, k1, rfl, hb3, hne3, hbl3⟩; obtain ⟨zc, zf, zs⟩ := bcell hbl3)
            all_goals (try go_wp2_with (fail))
            all_goals go_meet
            · exact rel_a HI.out hbl3 hb3
            · exact rel_b HI.out (below_alloc2 hbl3) hb3 (ne_alloc hne3)
            · exact rel_b HI.out (below_alloc2 hbl3) hb3 (ne_alloc hne3)
            · exact rel_a HI.out hbl3 hb3
            all_goals exact rel_b HI.out (below_alloc2 hbl3) hb3 (ne_alloc hne3)
          case rest =>
            obtain ⟨D, a1, k1, rfl, rfl, rfl, hI2, hD, hS2⟩ := hcut
            obtain ⟨e0, e1, e2, e3, e4, el, ef⟩ := hD.cells
            have HI2 := Lib.hid hI2
            clear hI2 hD hS2
            go_wp2_with (fail)
            go_roundg (gk - 1)
            case measure => omega
            case rel => exact ⟨i + 1, x0, x2, x3, x4, by omega, by omega, by simp, HI2.out⟩
        · have ST := Lib.hid hst
          have HG := Lib.hid hG
          have HBG := Lib.hid hbig
          clear hst hG hbig
          unfold StepAs batV at ST
          clear SA CA CB HX
          go_wp2_with (fail)
          go_cut [9, 10, 11] from 26 to 101 (fun dv sv ev wc => Rel w c f m u s l B2 x0 x2 x3 x4 (x0 + made - U - P) f (x2 + made) (x3 + U) (x4 + P) 0 n S dv sv ev wc)
          case first =>
            go_region_with (go_at_call 11; refine (ST.out _ _ _ (by first | exact LD.out.below (Below.refl _ _).drew | exact LD.out.below (bl_alloc (Below.refl _ _) _).drew)).mono ?_; rintro e w3 ⟨a1, k1, rfl, hb3, hne3, hbl3⟩; obtain ⟨zc, zf, zs⟩ := bcell hbl3)
            all_goals (try go_wp2_with (fail))
            all_goals go_meet
            · exact rel_a HI.out hbl3 hb3
            · exact rel_b HI.out (below_alloc2 hbl3) hb3 (ne_alloc hne3)
            · exact rel_b HI.out (below_alloc2 hbl3) hb3 (ne_alloc hne3)
            · exact rel_a HI.out hbl3 hb3
            all_goals exact rel_b HI.out (below_alloc2 hbl3) hb3 (ne_alloc hne3)
          case rest =>
            obtain ⟨D, a1, k1, rfl, rfl, rfl, hI2, hD, hS2⟩ := hcut
            obtain ⟨y0, hy0⟩ : ∃ y, y = x0 + made - U - P := ⟨_, rfl⟩
            obtain ⟨y2, hy2⟩ : ∃ y, y = x2 + made := ⟨_, rfl⟩
            obtain ⟨y3, hy3⟩ : ∃ y, y = x3 + U := ⟨_, rfl⟩
            obtain ⟨y4, hy4⟩ : ∃ y, y = x4 + P := ⟨_, rfl⟩
            rw [← hy0, ← hy2, ← hy3, ← hy4] at hD
            have hk3 := hS2.2.1
            have hk4 := hS2.2.2.1
            unfold maxLen at hk4
            obtain ⟨z1, z2, z3, z4, z5, z6, z7, _, hd⟩ := okC_parts HG.out.ok
            obtain ⟨f1, f2, f3, f4, f5, f6⟩ := HG.out.facts
            have hm0 := HG.out.m0
            have hm1 := HG.out.m1
            have HOKN : Hid (okC y0 f y2 y3 y4 l = true) := Lib.hid (by rw [hy0, hy2, hy3, hy4]; exact HG.out.next HBG.out)
            have HEQN : Hid (c + (y2 - m) = y0 + (y3 - u) + (y4 - s)) := Lib.hid (by have := hI2.eq; omega)
            have HUS := Lib.hid HG.out.us
            have HDD := Lib.hid hd
            have hw1 : IntKind.i64.wrap (y3 - x3) = U := by rw [hy3, show x3 + U - x3 = U by omega]; exact IntWalk.i64_in _ (by omega)
            have hw2 : IntKind.i64.wrap (y2 - x2) = made := by rw [hy2, show x2 + made - x2 = made by omega]; exact IntWalk.i64_in _ (by omega)
            have t3 : decide (y4 < x4) = false := by rw [decide_eq_false_iff_not]; omega
            have WF := Lib.hid (And.intro hw1 (And.intro hw2 t3))
            have HI2 := Lib.hid hI2
            have HDX := Lib.hid hD
            have HS2 := Lib.hid hS2
            obtain ⟨GK, hGK⟩ : ∃ GK, GK = gk := ⟨_, rfl⟩
            clear hI2 hD hS2 HG HBG hd hw1 hw2 t3 hy0 hy2 hy3 hy4 ST
            go_wp2_with (fail)
            go_loopg [12, 13] n (fun gg uv kv wr2 => ∃ k : Nat, k ≤ n ∧ n - k ≤ gg ∧ kv = .int .i64 k ∧ uv = .int .i64 (sumK l S k) ∧ wr2 = wc)
            case atStart => exact ⟨0, by omega, by omega, rfl, rfl, rfl⟩
            case round =>
              obtain ⟨k, hk, hgk, rfl, rfl, rfl⟩ := hrel
              by_cases hlt2 : k < n
              · obtain ⟨b5, off5, rfl, hbl5, g0, _, _⟩ := (HL.out.below HI2.out.bb.bl).2.2.2 k hlt2
                obtain ⟨b6, off6, rfl, hbl6, gs⟩ := HS2.out.2.2.2 k hlt2
                obtain ⟨q1, q2⟩ := sumK_bound HDD.out S k
                obtain ⟨q3, q4, _, _⟩ := HDD.out.at k
                have e1 : Hid (sumK l S (k + 1) = sumK l S k + (if sv S k then dr l k else 0)) := Lib.hid rfl
                obtain ⟨T, hT⟩ : ∃ T, T = sumK l S k := ⟨_, rfl⟩
                obtain ⟨Q, hQ⟩ : ∃ Q, Q = dr l k := ⟨_, rfl⟩
                rw [← hT] at q1 q2 e1 ⊢
                rw [← hQ] at q3 q4 e1 g0
                clear hT hQ
                cases ho : sv S k with
                | true =>
                  rw [ho] at gs e1
                  clear ho
                  go_wp2_with (fail)
                  go_roundg (gk - 1)
                  case measure => omega
                  case rel => exact ⟨k + 1, by omega, by omega, by simp, by rw [e1.out]; simp, rfl⟩
                | false =>
                  rw [ho] at gs e1
                  clear ho
                  go_wp2_with (fail)
                  go_roundg (gk - 1)
                  case measure => omega
                  case rel => exact ⟨k + 1, by omega, by omega, by simp, by rw [e1.out]; simp, rfl⟩
              · obtain rfl : k = n := by omega
                have e1 : sumK l S k = U := by rw [HUS.out, sumS, ← N1.out]
                rw [e1]
                clear e1
                obtain ⟨hw1, hw2, t3⟩ := WF.out
                have t1 : (U != U) = false := by simp
                have t2 : (made != made) = false := by simp
                obtain ⟨v0, v1, v2, v3, v4, vl, vf⟩ := HI2.out.bc.cells
                obtain ⟨e0, e1, e2, e3, e4, el, ef⟩ := HDX.out.cells
                have hcell := (HI2.out.bb.bl.cell (p := ⟨b, off + i, none⟩) HBL.out).trans HC0.out
                have hbl := Nat.lt_of_lt_of_le HBL.out HI2.out.bb.bl.size
                go_wp2_with (fail)
                go_quiet (fail)
                go_wp2_with (fail)
                go_roundg (GK - 1)
                case measure => omega
                case rel => exact ⟨i + 1, y0, y2, y3, y4, by omega, by omega, by simp, (HI2.out.set HOKN.out HEQN.out).step (below_drewN (Below.refl _ _) nq)⟩
    · obtain rfl : i = nm := by omega
      obtain ⟨v0, v1, v2, v3, v4, vl, vf⟩ := HI.out.bc.cells
      obtain ⟨e0, e1, e2, e3, e4, el, ef⟩ := HI.out.bb.cells
      obtain ⟨z1, z2, z3, z4, z5, z6, z7, _, _⟩ := okC_parts HI.out.ok
      have hE := HI.out.eq.symm
      have CBX := Lib.hid (CB.out _ _ _ _ _ HI.out.ok (HL.out.below HI.out.bb.bl))
      clear SA CA CB HX
      go_wp2_with (fail)
      refine CBX.out.mono ?_
      rintro e w9 ⟨rfl, b9⟩
      have B9 := Lib.hid (bl_step HI.out.bb.bl b9)
      clear b9
      go_wp2_with (fail)
      go_ret
      exact ⟨rfl, B9.out⟩
set_option maxRecDepth 100000 in
theorem PowerBalance_walk (a0_0 : Int) (a0_1 : Int) (a0_2 : Int) (a0_3 : Int) (a0_4 : Int) (a1 : Value) (a2 : Value) (w : World) (w0_0 : (Lit.int .i64 a0_0).wf = true) (w0_1 : (Lit.int .i64 a0_1).wf = true) (w0_2 : (Lit.int .i64 a0_2).wf = true) (w0_3 : (Lit.int .i64 a0_3).wf = true) (w0_4 : (Lit.int .i64 a0_4).wf = true) (w1 : Kit.SlIn [.inl .i64] w a1) (w2 : Kit.SlIn [.inl .i64, .inl .i64, .inr false] w a2) :
    Calls Try.prog 6 #[.agg #[.int .i64 a0_0, .int .i64 a0_1, .int .i64 a0_2, .int .i64 a0_3, .int .i64 a0_4], a1, a2] w fun e w' => e = .returned (.bool true) ∧ Below w.heap.size w w' := by
  obtain ⟨a, n, c, l, rfl, hL, _, hz⟩ := slIn_lds w2
  obtain ⟨am, nm, cm, X, rfl, hm1, hm2, hX⟩ := slIn_i64 w1
  have CA := Lib.hid (fun W h => check_all a0_0 a0_1 a0_2 a0_3 a0_4 l a n c W h)
  by_cases hnm : nm ≤ 200
  · cases hk : okC a0_0 a0_1 a0_2 a0_3 a0_4 l with
    | true => exact balance_in a0_0 a0_1 a0_2 a0_3 a0_4 a am n c nm cm X l w hL hk hnm hm1 hm2 hX
    | false =>
      rw [chkE_no hk] at CA
      unfold batV at CA
      have HL := Lib.hid hL
      have P0 := Lib.hid (BX.new (Below.refl w.heap.size w) a0_0 a0_1 a0_2 a0_3 a0_4)
      clear hL hz w1 w2 w0_0 w0_1 w0_2 w0_3 w0_4 hX hk
      go_enter Try.func6, Try.ntmps6
      go_wp2_with (fail)
      refine (shown_any _).mono ?_
      rintro e W1 ⟨rfl, b1⟩
      have P1 := Lib.hid (P0.out.step b1)
      clear b1 P0
      obtain ⟨c0, c1, c2, c3, c4, cl, cf⟩ := P1.out.cells
      go_wp2_with (fail)
      refine (CA.out _ (HL.out.below P1.out.bl)).mono ?_
      rintro e W2 ⟨rfl, b2⟩
      have P2 := Lib.hid (P1.out.step b2)
      clear b2 P1 c0 c1 c2 c3 c4 cl cf
      go_wp2_with (fail)
      go_ret
      exact ⟨rfl, P2.out.bl⟩
  · have P0 := Lib.hid (BX.new (Below.refl w.heap.size w) a0_0 a0_1 a0_2 a0_3 a0_4)
    have hd : decide (200 < nm) = true := by simp; omega
    have hd2 : decide ((200 : Int) < (nm : Int)) = true := by simp; omega
    clear hL hz w1 w2 w0_0 w0_1 w0_2 w0_3 w0_4 hX CA
    go_enter Try.func6, Try.ntmps6
    go_wp2_with (fail)
    refine (shown_any _).mono ?_
    rintro e W1 ⟨rfl, b1⟩
    have P1 := Lib.hid (P0.out.step b1)
    clear b1 P0
    go_wp2_with (fail)
    go_ret
    exact ⟨rfl, P1.out.bl⟩
end Go.Proofs.Ytbdobcmblbojfaa
