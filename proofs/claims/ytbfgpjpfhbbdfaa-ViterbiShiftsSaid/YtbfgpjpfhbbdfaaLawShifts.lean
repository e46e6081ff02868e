/-
  The walk of the law ViterbiShifts. Conditions: none beyond arguments that can be read.
-/
import Derived.Test.YtbfgpjpfhbbdfaaLawp
import Derived.Test.YtbfgpjpfhbbdfaaRecv
import Derived.Test.YtbfgpjpfhbbdfaaAwk
namespace Go.Proofs.Ytbfgpjpfhbbdfaa
open Go.RowKit Kit
set_option linter.unusedVariables false
theorem P_double {X D : List Int} (h : ∀ i, pv D i = 2 * pv X i) (T : Nat) : ∀ i s, P D T i s = (P X T i s).map fun c => (2 * c.1, c.2)
  | 0, s => by simp only [P]; split <;> simp
  | i + 1, t => by
    simp only [P]
    rw [P_double h T i, P_double h T i]
    have hc : ∀ p s, cand D T i (Option.map (fun c => (2 * c.1, c.2)) p) s (t / 32) = (cand X T i p s (t / 32)).map fun c : Int × Nat => (2 * c.1, c.2) := fun p s => by
      unfold cand
      split
      · rfl
      · cases p with
        | none => rfl
        | some c =>
          simp only [Option.map_some, eW, h, Option.some.injEq, Prod.mk.injEq, and_true]
          generalize o1 s (t / 32) = a; generalize o2 s (t / 32) = b; generalize pv X (2 * i) = x; generalize pv X (2 * i + 1) = y
          rw [Int.mul_add, Int.mul_add, Int.mul_left_comm, Int.mul_left_comm (b : Int)]
    rw [hc, hc]
    generalize cand X T i _ _ _ = p
    generalize cand X T i _ _ _ = q
    cases p with
    | none => rfl
    | some p =>
      cases q with
      | none => rfl
      | some q =>
        simp only [pick, Option.map_some]
        have e : (2 * p.1 < 2 * q.1 ∨ 2 * p.1 = 2 * q.1 ∧ q.2 < p.2) ↔ (p.1 < q.1 ∨ p.1 = q.1 ∧ q.2 < p.2) := by omega
        by_cases hh : p.1 < q.1 ∨ p.1 = q.1 ∧ q.2 < p.2
        · rw [if_pos hh, if_pos (e.2 hh)]; rfl
        · rw [if_neg hh, if_neg (fun x => hh (e.1 x))]; rfl
theorem pv_set {X : List Int} {k i : Nat} {v : Int} (hk : k < X.length) : pv (X.set k v) i = if i = k then v else pv X i := by
  unfold pv
  simp only [List.getD_eq_getElem?_getD, List.getElem?_set]
  by_cases e : k = i
  · subst e; simp [hk]
  · rw [if_neg e, if_neg (fun h => e h.symm)]
structure ShI (w : World) (g cap g2 n k : Nat) (L D : List Int) (wr : World) : Prop where
  ll : L.length = n
  ld : D.length = n
  sl : softL L = true
  done : ∀ j, j < k → (-4 ≤ pv L j ∧ pv L j ≤ 3) ∧ pv D j = 2 * pv L j
  r1 : wr.ownsRow w.heap.size 3 1 (.slice (some ⟨g, 0, none⟩) n cap) n (L.map (Value.int .i64))
  r2 : wr.ownsRow w.heap.size 3 1 (.slice (some ⟨g2, 0, none⟩) n n) n (D.map (Value.int .i64))
  ne : g ≠ g2
  below : Below w.heap.size w wr
theorem ShI.step {w wr : World} {g cap g2 n k : Nat} {L D : List Int} (h : ShI w g cap g2 n k L D wr) (hk : k < n) (q : Int) (h1 : -4 ≤ q) (h2 : q ≤ 3) :
    ShI w g cap g2 n (k + 1) (L.set k q) (D.set k (2 * q)) ((wr.setCell ⟨g, k, none⟩ (.int .i64 q)).setCell ⟨g2, k, none⟩ (.int .i64 (2 * q))) where
  ll := by simp [h.ll]
  ld := by simp [h.ld]
  sl := softL_set h.sl k q (by omega) (by omega)
  done j hj := by
    rw [pv_set (by rw [h.ll]; exact hk), pv_set (by rw [h.ld]; exact hk)]
    by_cases e : j = k
    · rw [if_pos e, if_pos e]; exact ⟨⟨h1, h2⟩, rfl⟩
    · rw [if_neg e, if_neg e]; exact h.done j (by omega)
  r1 := by
    rw [List.map_set]
    exact own_mod (own_set h.r1 (by omega) _) (mod_at (Mod.refl _ _) _) (fun b hb => by simp only [Value.ownBlock, Option.some.injEq] at hb; have := h.ne; omega)
  r2 := by
    rw [List.map_set]
    exact own_set (own_mod h.r2 (mod_at (Mod.refl _ _) _) (fun b hb => by simp only [Value.ownBlock, Option.some.injEq] at hb; have := h.ne; omega)) (by omega) _
  ne := h.ne
  below := bl_set (bl_set h.below (own_lt h.r1).1 _) (own_lt h.r2).1 _
theorem own_new (w : World) (base : Nat) (X : List Int) (hb : base ≤ w.heap.size) (hX : X.length ≤ 100000) : (w.alloc (.cells (X.map (Value.int .i64)).toArray 3)).ownsRow base 3 1 (.slice (some ⟨w.heap.size, 0, none⟩) X.length X.length) X.length (X.map (Value.int .i64)) :=
  ⟨by simp, .inr ⟨w.heap.size, X.length, _, rfl, hb, hp_new w _, Nat.le_refl _, by unfold maxLen; omega, by simp, by simp [List.take_of_length_le]⟩⟩
theorem own_alloc {w : World} {base : Nat} {e : TypeId} {size n : Nat} {v : Value} {xs : List Value} (h : w.ownsRow base e size v n xs) (o : Obj) : (w.alloc o).ownsRow base e size v n xs := own_calm h (bl_alloc (Below.refl _ _) o)
theorem soft_four {D L : List Int} (n : Nat) (hl : D.length = n) (h : ∀ j, j < n → (-4 ≤ pv L j ∧ pv L j ≤ 3) ∧ pv D j = 2 * pv L j) : softL D = true := by
  refine softL_yes fun i hi => ?_
  obtain ⟨h1, h2⟩ := h i (by omega)
  rw [h2]; unfold sOk; simp; omega
theorem dbl_all {D L : List Int} (n : Nat) (hl : D.length = n) (hl' : L.length = n) (h : ∀ j, j < n → (-4 ≤ pv L j ∧ pv L j ≤ 3) ∧ pv D j = 2 * pv L j) (i : Nat) : pv D i = 2 * pv L i := by
  rcases Nat.lt_or_ge i n with hi | hi
  · exact (h i hi).2
  · unfold pv; rw [List.getD_eq_getElem?_getD, List.getD_eq_getElem?_getD, List.getElem?_eq_none (by omega), List.getElem?_eq_none (by omega)]; rfl
set_option maxRecDepth 100000 in
set_option maxHeartbeats 1600000 in
theorem ViterbiShifts_walk (a0 : ByteArray) (a1 : Value) (w : World) (w0 : a0.size ≤ maxLen) (w1 : Kit.SlIn [.inl .i8] w a1) :
    Calls Try.prog 8 #[.string a0, a1] w fun e w' => e = .returned (.bool true) ∧ Below w.heap.size w w' := by
  obtain ⟨a, m, c, rfl, hN⟩ := slIn_n8 w1
  have AW := Lib.hid awake_any
  clear w0 w1
  by_cases h1 : 200 < a0.size
  · have d1 : decide ((200 : Int) < (a0.size : Int)) = true := by simp; omega
    clear h1 hN
    go_enter Try.func8, Try.ntmps8
    go_wp2_with (fail)
    refine (AW.out _).mono ?_
    rintro e w3 ⟨rfl, hb⟩
    have HB := Lib.hid hb
    clear hb
    go_wp2_with (fail)
    go_ret
    exact ⟨rfl, HB.out⟩
  have d1 : decide ((200 : Int) < (a0.size : Int)) = false := by simp; omega
  by_cases h2 : 5000 < m
  · have d2 : decide ((5000 : Int) < (m : Int)) = true := by simp; omega
    clear h1 h2 hN
    go_enter Try.func8, Try.ntmps8
    go_wp2_with (fail)
    refine (AW.out _).mono ?_
    rintro e w3 ⟨rfl, hb⟩
    have HB := Lib.hid hb
    clear hb
    go_wp2_with (fail)
    go_ret
    exact ⟨rfl, HB.out⟩
  have d2 : decide ((5000 : Int) < (m : Int)) = false := by simp; omega
  obtain ⟨n, hn⟩ : ∃ n, n = 16 * a0.size + 12 := ⟨_, rfl⟩
  have RA := Lib.hid (received_any a0 (by omega) a m c w hN n hn)
  have hn2 : n ≤ 4000 := by omega
  have HN := Lib.hid hn
  have HA : a0.size ≤ 200 := by omega
  clear h1 h2 hN hn
  have mk : ∀ w : World, (Instr.makeSlice 22 (.int .i64 (n : Int)) (.int .i64 (n : Int))).run Try.prog w = .ok (.slice (some ⟨w.heap.size, 0, none⟩) n n) (w.alloc (.cells ((List.replicate n (0 : Int)).map (Value.int .i64)).toArray 3)) := fun w => make22 w n (by omega)
  go_enter Try.func8, Try.ntmps8
  go_wp2_with (fail)
  refine RA.out.mono ?_
  rintro e w2 ⟨v, L0, rfl, hS⟩
  obtain ⟨g, cap, rfl, hc1, hc2⟩ : ∃ g cap, v = .slice (some ⟨g, 0, none⟩) n cap ∧ n ≤ cap ∧ cap ≤ maxLen := by
    rcases hS.2.2.1.2 with ⟨_, h0⟩ | ⟨g, cap, cur, rfl, _, _, h1, h2, _⟩
    · have := HN.out; omega
    · exact ⟨g, cap, rfl, h1, h2⟩
  unfold maxLen at hc2
  obtain ⟨o, ho⟩ : ∃ o, Obj.cells ((List.replicate n (0 : Int)).map (Value.int .i64)).toArray 3 = o := ⟨_, rfl⟩
  have H0 : Hid (ShI w g cap w2.heap.size n 0 L0 (List.replicate n 0) (w2.alloc o)) := Lib.hid ⟨hS.1, by simp, hS.2.1, fun j hj => by omega, own_alloc hS.2.2.1 o, by rw [← ho]; have := own_new w2 w.heap.size (List.replicate n 0) hS.2.2.2.size (by simp; omega); simpa using this, by have := (own_lt hS.2.2.1).2; omega, bl_alloc hS.2.2.2 o⟩
  have hgl : g < w2.heap.size := (own_lt hS.2.2.1).2
  rw [ho] at mk
  clear hS RA ho
  go_wp2_with (fail)
  obtain ⟨g2, hg2⟩ : ∃ g2, w2.heap.size = g2 := ⟨_, rfl⟩
  obtain ⟨w3, hw3⟩ : ∃ w3, w2.alloc o = w3 := ⟨_, rfl⟩
  rw [hw3] at H0 ⊢
  rw [hg2] at H0 hgl ⊢
  clear hw3 hg2 mk
  go_loopw [7] (fun i wr => ∃ k : Nat, ∃ L D, k ≤ n ∧ i = .int .i64 k ∧ ShI w g cap g2 n k L D wr) (fun i _ => n - (intOf i).toNat)
  case atStart => exact ⟨0, _, _, by omega, rfl, H0.out⟩
  case round =>
    clear H0
    obtain ⟨k, L, D, hk, rfl, hS⟩ := hrel
    by_cases hlt : k < n
    · have ck : wr.cell? ⟨g, k, none⟩ = some (.int .i64 (pv L k)) := own_cell hS.r1 (by rw [List.getElem?_map, pv_get (by rw [hS.ll]; exact hlt)]; rfl)
      have fk : wr.frozen? ⟨g, k, none⟩ = false := own_free hS.r1 k
      have ck2 : wr.cell? ⟨g2, k, none⟩ = some (.int .i64 (pv D k)) := own_cell hS.r2 (by rw [List.getElem?_map, pv_get (by rw [hS.ld]; exact hlt)]; rfl)
      have fk2 : wr.frozen? ⟨g2, k, none⟩ = false := own_free hS.r2 k
      have hp := soft_at hS.sl (i := k) (by rw [hS.ll]; exact hlt)
      have NX := Lib.hid (fun q h1 h2 => hS.step hlt q h1 h2)
      generalize pv L k = x at *
      generalize pv D k = y at *
      obtain ⟨q, hq⟩ : ∃ q, x.tdiv 2 = q := ⟨_, rfl⟩
      have hq1 : -4 ≤ q ∧ q ≤ 3 := by
        rw [← hq]
        rcases (by omega : x < 0 ∨ 0 ≤ x) with h | h
        · have : x.tdiv 2 = -((-x) / 2) := by
            rw [← Int.neg_neg x, Int.neg_tdiv, Int.tdiv_eq_ediv_of_nonneg (by omega)]; simp
          omega
        · rw [Int.tdiv_eq_ediv_of_nonneg h]; omega
      have W1 : wrap64 q = q := IntWalk.wrap64_in q (by omega)
      have W2 : IntKind.i64.wrap q = q := IntWalk.i64_in q (by omega)
      have W3 : wrap64 (2 * q) = 2 * q := IntWalk.wrap64_in _ (by omega)
      have W4 : IntKind.i64.wrap (2 * q) = 2 * q := IntWalk.i64_in _ (by omega)
      have d3 : decide ((3 : Int) < q) = false := by simp; omega
      have dk : decide ((k : Int) < (n : Int)) = true := by simp; omega
      have hne := hS.ne
      clear hS
      go_wp2_with (fail)
      exact ⟨⟨k + 1, _, _, by omega, by go_num, NX.out q hq1.1 hq1.2⟩, by simp [intOf]; omega⟩
    · have e : k = n := by omega
      subst e
      obtain ⟨vv, M, hP⟩ := dec_ex L a0.size
      have hD := P_double (dbl_all k hS.ld hS.ll hS.done) (8 * a0.size) (8 * a0.size + 6) 0
      rw [hP] at hD
      obtain ⟨n1a, n1c, he1, N1⟩ := own_ns hS.r1
      obtain ⟨n2a, n2c, he2, N2⟩ := own_ns hS.r2
      simp only [Value.slice.injEq, true_and] at he1 he2
      obtain ⟨rfl, rfl⟩ := he1
      obtain ⟨rfl, rfl⟩ := he2
      have D1 := Lib.hid (dec_ok L _ k _ a0.size wr N1 (by omega) HN.out hS.sl vv M hP)
      have D2 := Lib.hid (fun w5 (hb : Below wr.heap.size wr w5) => dec_ok D _ k _ a0.size w5 (N2.below hb) (by omega) HN.out (soft_four k hS.ld hS.done) (2 * vv) M (by rw [hD]; rfl))
      have hvb := P_bound hS.sl (8 * a0.size) (8 * a0.size + 6) 0 (vv, M) (by rw [hS.ll, HN.out]; omega) hP
      simp only at hvb
      have W5 : IntKind.i64.wrap (2 * vv) = 2 * vv := IntWalk.i64_in _ (by omega)
      have W6 : wrap64 (2 * vv) = 2 * vv := IntWalk.wrap64_in _ (by omega)
      have HB := Lib.hid hS.below
      clear hP hD N1 N2 hS hvb
      generalize msg a0.size M = dm at *
      go_wp2_with (fail)
      refine D1.out.mono ?_
      rintro e w5 ⟨rfl, b5⟩
      have B5 := Lib.hid b5
      clear b5 D1
      go_wp2_with (fail)
      refine (D2.out w5 B5.out).mono ?_
      rintro e w6 ⟨rfl, b6⟩
      have B6 := Lib.hid (bl_step (bl_step HB.out B5.out) b6)
      clear b6 D2
      go_wp2_with (fail)
      refine (AW.out _).mono ?_
      rintro e w7 ⟨rfl, b7⟩
      have B7 := Lib.hid (bl_step B6.out b7)
      clear b7
      go_wp2_with (fail)
      go_ret
      exact ⟨rfl, B7.out⟩
end Go.Proofs.Ytbfgpjpfhbbdfaa
