/-
  The walks of the kit's LendInts and KeptInts. Conditions: slices of at most 1000 elements.
-/
import Derived.Test.YtjeaccpocpfkgaaArgs
import Derived.Laws.AppendOwnNone
namespace Go.Proofs.Ytjeaccpocpfkgaa
open Go.RowKit Kit
set_option linter.unusedVariables false
theorem info3 : (Try.prog.info? 3).map (fun i => (i.zero, i.size, i.bytes)) = some (some (.int .i64 0), 1, 8) := by kernel_rfl
theorem Nums.src {k : IntKind} {w : World} {ad : Addr} {n c : Nat} {X : List Int} (h : Nums k w (some ad) n c X) : ∀ j u, (X.map (Value.int k))[j]? = some u → w.cell? (ad.add j) = some u := by
  intro j u hu
  rw [List.getElem?_map] at hu
  cases hx : X[j]? with
  | none => rw [hx] at hu; cases hu
  | some x =>
    rw [hx] at hu
    obtain ⟨b, off, he, hl, hc⟩ := h.2.2.2 j x hx
    simp only [Option.some.injEq] at he
    subst he
    rw [Addr.add_lit, hc]
    exact hu
/-- A slice that was lent: nil, or a row of its own with one cell more. -/
def Lent (base : Nat) (W : World) (a : Option Addr) (v : Value) (n : Nat) (X : List Int) : Prop :=
  (a = none ∧ n = 0 ∧ v = .slice none 0 0) ∨
  (a ≠ none ∧ ∃ g cap, v = .slice (some ⟨g, 0, none⟩) n cap ∧ W.ownsRow base 3 1 (.slice (some ⟨g, 0, none⟩) (n + 1) cap) (n + 1) (X.map (Value.int .i64) ++ [.int .i64 (-77177)]))
theorem Lent.calm {base : Nat} {W W' : World} {a : Option Addr} {v : Value} {n : Nat} {X : List Int} (h : Lent base W a v n X) (hb : Below W.heap.size W W') : Lent base W' a v n X := by
  rcases h with h | ⟨h1, g, cap, h2, h3⟩
  · exact .inl h
  · exact .inr ⟨h1, g, cap, h2, own_calm h3 hb⟩
theorem own_shorter {k : IntKind} {w : World} {base : Nat} {e : TypeId} {g cap n : Nat} {X : List Int} {y : Value} (h : w.ownsRow base e 1 (.slice (some ⟨g, 0, none⟩) (n + 1) cap) (n + 1) (X.map (Value.int k) ++ [y])) (hn : n = X.length) : Nums k w (some ⟨g, 0, none⟩) n cap X := by
  obtain ⟨cur, hg, h1, h2, h3, hs, ht⟩ := own_block h
  refine ⟨hn, by omega, by omega, fun i x hx => ⟨g, 0, rfl, (Array.getElem?_eq_some_iff.1 hg).1, ?_⟩⟩
  rw [Nat.zero_add]
  refine own_cell h ?_
  rw [List.getElem?_append_left (by have := (List.getElem?_eq_some_iff.1 hx).1; simpa using this), List.getElem?_map, hx]
  rfl
theorem Lent.nums {base : Nat} {W : World} {a : Option Addr} {v : Value} {n : Nat} {X : List Int} (h : Lent base W a v n X) (hn : n = X.length) : ∃ a' c', v = .slice a' n c' ∧ Nums .i64 W a' n c' X := by
  rcases h with ⟨h1, h2, h3⟩ | ⟨h1, g, cap, h2, h3⟩
  · subst h2
    exact ⟨none, 0, h3, hn, Nat.le_refl _, by simp [maxLen], by rw [List.length_eq_zero_iff.1 hn.symm]; simp⟩
  · exact ⟨_, _, h2, own_shorter h3 hn⟩
set_option maxRecDepth 100000 in
theorem lend_any (X : List Int) (a : Option Addr) (n c : Nat) (w : World) (hX : Nums .i64 w a n c X) (hn : n ≤ 1000) (hz : a = none → n = 0 ∧ c = 0) :
    Calls Try.prog 22 #[.slice a n c] w fun e w' => ∃ v, e = .returned v ∧ Lent w.heap.size w' a v n X ∧ Below w.heap.size w w' := by
  have hnil : ∀ W, (binOp .eql 41 (.slice a n c) (.slice none 0 0)).run Try.prog W = .ok (.bool a.isNone) W := fun W => Lib.run_eql_slice_nil W 41 3 a n c 0 0 Try.underlying41
  cases a with
  | none =>
    obtain ⟨rfl, rfl⟩ := hz rfl
    clear hX
    go_enter Try.func22, Try.ntmps22
    go_wp2_with (fail)
    go_ret
    exact ⟨_, rfl, .inl ⟨rfl, rfl, rfl⟩, Below.refl _ _⟩
  | some ad =>
    obtain ⟨i0, hi, hz0, hz1, hz2⟩ := info_parts info3
    have N1 := Lib.hid hX.1
    have HX := Lib.hid hX
    have hcap := hX.2.1
    have hcap2 := hX.2.2.1
    unfold maxLen at hcap2
    clear hX hz
    go_enter Try.func22, Try.ntmps22
    go_wp2_with (first
      | (at_make; refine wpList_make_own _ rfl _ _ 41 rfl w.heap.size 3 i0 (.int .i64 0) 1 Try.underlying41 hi hz0 hz1 _ _ _ (n + 1) rfl rfl (by simp) (by rw [hz2]; omega) (by unfold maxLen; omega) (Nat.le_refl _) ?_; intro w1 hown1 hg1; have HX1 := Lib.hid (HX.out.below ((Below.refl _ _).grown hg1 (Nat.le_refl _) (fun k e => by cases e))); replace hg1 := Lib.hid hg1; replace hown1 := Lib.hid hown1)
      | (at_builtin; refine wpList_append_fits _ rfl _ _ 41 rfl w.heap.size 3 i0 1 Try.underlying41 hi hz1 w.heap.size 0 (n + 1) [] rfl hown1.out ad n c (X.map (Value.int .i64)) rfl (by rw [List.length_map, N1.out, Nat.mul_one]) HX1.out.src (ints_oneCell _ _) (by omega) ?_; intro w2 hown2 hg2; replace hg2 := Lib.hid hg2; rw [Nat.zero_add] at hown2 ⊢; rw [List.nil_append] at hown2; replace hown2 := Lib.hid hown2)
      | (at_builtin; refine wpList_append_fits _ rfl _ _ 41 rfl w.heap.size 3 i0 1 Try.underlying41 hi hz1 w.heap.size n (n + 1) _ rfl (hown2.out.alloc _) ⟨w2.heap.size, 0, none⟩ 1 1 [_] rfl rfl (cells_new w2 [_] 3) (by simp [Value.oneCell']) (Nat.le_refl _) ?_; intro w3 hown3 hg3; replace hg3 := Lib.hid hg3; replace hown3 := Lib.hid hown3))
    go_ret
    have q1 : Below w.heap.size w w1 := (Below.refl _ _).grown hg1.out (Nat.le_refl _) (fun k e => by cases e)
    have q2 : Below w.heap.size w w2 := q1.grown hg2.out q1.size (fun k e => by cases e; exact Nat.le_refl _)
    have q3 : Below w.heap.size w w3 := (bl_alloc q2 _).grown hg3.out (bl_alloc q2 _).size (fun k e => by cases e; exact Nat.le_refl _)
    exact ⟨_, rfl, .inr ⟨by simp, w.heap.size, n + 1, rfl, hown3.out⟩, q3⟩
set_option maxRecDepth 100000 in
theorem kept_any (base : Nat) (X : List Int) (a : Option Addr) (v : Value) (n c : Nat) (w : World) (hL : Lent base w a v n X) (hX : Nums .i64 w a n c X) (hn : n ≤ 1000) :
    Calls Try.prog 28 #[v, .slice a n c] w fun e w' => e = .returned (.bool true) ∧ Below w.heap.size w w' := by
  obtain ⟨a', c', hv, hN⟩ := hL.nums hX.1
  have hnil : ∀ W, (binOp .eql 41 (.slice a n c) (.slice none 0 0)).run Try.prog W = .ok (.bool a.isNone) W := fun W => Lib.run_eql_slice_nil W 41 3 a n c 0 0 Try.underlying41
  have SA := Lib.hid (sameints_any X X a' a n n c' c w hN hX (by omega) (by omega))
  rw [decide_eq_true rfl] at SA
  rcases hL with ⟨rfl, rfl, rfl⟩ | ⟨ha, g, cap, hv2, ho⟩
  · simp only [Value.slice.injEq] at hv
    obtain ⟨rfl, _, rfl⟩ := hv
    clear hX hN
    go_enter Try.func28, Try.ntmps28
    go_wp2_with (fail)
    refine SA.out.mono ?_
    rintro e _ ⟨rfl, nq, rfl⟩
    have B3 := Lib.hid (below_drewN (Below.refl w.heap.size w) nq)
    go_wp2_with (fail)
    go_ret
    exact ⟨rfl, B3.out⟩
  · subst hv2
    simp only [Value.slice.injEq] at hv
    obtain ⟨rfl, _, rfl⟩ := hv
    obtain ⟨ad, rfl⟩ := Option.ne_none_iff_exists'.1 ha
    have hcell : w.cell? ⟨g, n, none⟩ = some (.int .i64 (-77177)) := own_cell ho (by rw [List.getElem?_append_right (by simp [hX.1])]; simp [hX.1])
    obtain ⟨cur, hg, h1, h2, h3, hs, ht⟩ := own_block ho
    unfold maxLen at h3
    have hle := hX.2.1
    clear hX hN ha ho hg hs ht
    go_enter Try.func28, Try.ntmps28
    go_wp2_with (fail)
    refine SA.out.mono ?_
    rintro e _ ⟨rfl, nq, rfl⟩
    have B3 := Lib.hid (below_drewN (Below.refl w.heap.size w) nq)
    obtain ⟨w3, hw3⟩ : ∃ w3, w3 = w.drewN nq := ⟨_, rfl⟩
    have hcell3 : w3.cell? ⟨g, n, none⟩ = some (.int .i64 (-77177)) := by rw [hw3]; exact hcell
    rw [← hw3] at B3 ⊢
    clear hw3 hcell
    go_wp2_with (fail)
    go_ret
    exact ⟨rfl, B3.out⟩
/-- 'append' onto the call's own row, whatever is appended: nil or not. -/
theorem wpList_append_own_any {P : Program} (w : World) {ops : Array Oper} {rest : List Oper} {o : Oper} {a : Act} {Q : Exit → Act → World → Prop} (hgd : o.guard = none) (s x : Operand) (t : TypeId)
    (ho : o.op = .call { callee := .builtin .append, args := #[s, x], argTypes := #[t, t] })
    (base : Nat) (e : TypeId) (i : TypeInfo) (z : Value) (size bytes : Nat) (ht : P.underlying t = some (.slice e)) (hi : P.info? e = some i) (hz : i.zero = some z)
    (hsize : i.size = size) (hby : i.bytes = bytes) (hzs : z.cells.size = size) (hsz : 0 < size)
    (v : Value) (n : Nat) (xs : List Value) (hs : a.eval s = v) (hown : w.ownsRow base e size v n xs)
    (ao : Option Addr) (m c : Nat) (news : List Value) (hx : a.eval x = .slice ao m c) (hl : news.length = m * size) (hnone : ao = none → m = 0 ∧ c = 0) (hnews : ∀ ad, ao = some ad → ∀ j u, news[j]? = some u → w.cell? (ad.add j) = some u) (h1 : ∀ u ∈ news, u.oneCell' = true)
    (h63 : n + m ≤ maxLen) (hbytes : (n + m) * bytes ≤ 140737488355328) (hbase : base ≤ w.heap.size)
    (h : ∀ v' w', w'.ownsRow base e size v' (n + m) (xs ++ news) → w.grownBy w' v.ownBlock → wpList P ops Q rest (a.put o.dst v') w') : wpList P ops Q (o :: rest) a w := by
  cases ao with
  | some ad => exact wpList_append_own w hgd s x t ho base e i z size bytes ht hi hz hsize hby hzs hsz v n xs hs hown ad m c news hx hl (hnews ad rfl) h1 h63 hbytes hbase (fun v' w' h1 h2 _ => h v' w' h1 h2)
  | none =>
    obtain ⟨rfl, rfl⟩ := hnone rfl
    have hnews : news = [] := List.eq_nil_of_length_eq_zero (by simpa using hl)
    subst hnews
    exact wpList_append_own_none hgd s x t ho base e i size ht hi v n xs hs hown hx (h v w (by simpa using hown) (World.grownBy.refl _ _))
def upL (X : List Int) (d : ByteArray) : List Int := if upE X d = 0 then unK X d X.length else []
theorem upL_len (X : List Int) (d : ByteArray) : (upL X d).length ≤ X.length := by
  unfold upL; split
  · rw [unK_len]; exact Nat.le_refl _
  · simp
theorem up_all {X : List Int} {d : ByteArray} {w w' : World} {e : Ending} (h : UpPost X d w e w') : ∃ a c, e = .returned (.tuple #[.slice a (upL X d).length c, .int .i64 (upE X d)]) ∧ Nums .u64 w' a (upL X d).length c (upL X d) ∧ Below w.heap.size w w' := by
  by_cases h0 : upE X d = 0
  · obtain ⟨a, c, he, hN, hb⟩ := up_cases h h0
    have hL : upL X d = unK X d X.length := by unfold upL; rw [if_pos h0]
    rw [hL, unK_len, h0]
    exact ⟨a, c, he, hN, hb⟩
  · have hL : upL X d = [] := by unfold upL; rw [if_neg h0]
    rw [hL]
    exact ⟨none, 0, h.1 h0, ⟨rfl, Nat.le_refl _, by simp [maxLen], by simp⟩, h.2.2⟩
end Go.Proofs.Ytjeaccpocpfkgaa
