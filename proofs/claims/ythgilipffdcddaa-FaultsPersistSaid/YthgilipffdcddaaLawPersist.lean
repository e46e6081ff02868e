/-
  The walk of the law FaultsPersist. Conditions: none.
-/
import Derived.Test.YthgilipffdcddaaShown
namespace Go.Proofs.Ythgilipffdcddaa
open Go.RowKit Kit
set_option linter.unusedVariables false
/-- A slice of truth values, as a list. -/
def BS (w : World) (v : Value) (X : List Bool) : Prop :=
  (∃ b off c, v = .slice (some ⟨b, off, none⟩) X.length c ∧ ∀ i x, X[i]? = some x → w.cell? ⟨b, off + i, none⟩ = some (.bool x)) ∨ (X = [] ∧ ∃ a c, v = .slice a 0 c)
theorem BS.below {w w' : World} {v : Value} {P : List Bool} (h : BS w v P) (hb : Below w.heap.size w w') : BS w' v P := by
  rcases h with ⟨b, off, c, rfl, hc⟩ | h
  · left
    refine ⟨b, off, c, rfl, fun i x hx => ?_⟩
    have h1 := hc i x hx
    have hlt := World.block_lt_of_cell? w _ h1
    rw [(bcell hb).1 b _ hlt]; exact h1
  · exact .inr h
theorem slIn_bs {w : World} {v : Value} (h : SlIn [.inr false] w v) : ∃ X, BS w v X ∧ X.length ≤ maxLen := by
  rcases h with rfl | ⟨a, rfl⟩ | ⟨b, off, len, cap, C, rfl, h1, h2, h3, h4, h5, h6⟩
  · exact ⟨[], .inr ⟨rfl, _, _, rfl⟩, by simp [maxLen]⟩
  · exact ⟨[], .inr ⟨rfl, _, _, rfl⟩, by simp [maxLen]⟩
  · have hx : ∀ i, i < cap → ∃ x, C i = [.bool x] := fun i hi => by
      obtain ⟨x, cs', he, h'⟩ := scAll_bool (h5 i hi)
      rw [scAll_nil h'] at he; exact ⟨x, he⟩
    refine ⟨(List.range len).map fun i => match C i with | [.bool x] => x | _ => false, .inl ⟨b, off, cap, by simp, fun i x hi => ?_⟩, by simp; omega⟩
    have hlt : i < len := by
      rcases Nat.lt_or_ge i len with h | h
      · exact h
      · rw [List.getElem?_eq_none (by simp; omega)] at hi; cases hi
    obtain ⟨y, hy⟩ := hx i (by omega)
    simp [hlt, hy] at hi
    subst hi
    have := h6 i 0 (by omega) (by simp)
    simp [hy] at this
    exact this
def eP (n c : Int) (d : Bool) : E := ⟨1, -3, 3, n, 1, 7, true, c, d⟩
def PerR (w : World) (n : Int) (base f : Nat) (v : Value) (k : Nat) (r : Int) (d : Bool) (wr : World) : Prop :=
  FO wr base f v [eP n (mn n r) d] ∧ 0 ≤ r ∧ r ≤ k ∧ (d = false → r < n) ∧ Below w.heap.size w wr
/-- A violated tick. -/
theorem per_yes {n r val : Int} {d : Bool} (h1 : 1 ≤ n) (hr : 0 ≤ r) (hd : d = false → r < n) (hv : val < -3 ∨ 3 < val) :
    trips (eP n (mn n r) d) [100, val] = (decide (r + 1 = n) && !d) ∧ tickE (eP n (mn n r) d) [100, val] = eP n (mn n (r + 1)) (d || (decide (r + 1 = n) && !d)) := by
  have hvi : viol (eP n (mn n r) d) [100, val] = true := by
    show (decide (val < -3) || decide (3 < val)) = true
    simp; omega
  cases d with
  | false =>
    have := hd rfl
    have e : mn n r = r := by unfold mn; omega
    refine ⟨?_, ?_⟩
    · unfold trips; rw [hvi]; simp [eP, e]; omega
    · unfold tickE; rw [if_neg (by simp [eP]), if_neg (by rw [hvi]; simp)]
      simp only [eP, e, Bool.false_or, Bool.not_false, Bool.and_true]
      congr 1
      rw [Bool.eq_iff_iff]; simp; omega
  | true =>
    refine ⟨?_, ?_⟩
    · unfold trips; simp [eP]
    · unfold tickE; rw [if_neg (by simp [eP]), if_neg (by rw [hvi]; simp)]
      simp only [eP, Bool.true_or]
      congr 1
      unfold mn; omega
theorem per_no {n r : Int} {d : Bool} (h1 : 1 ≤ n) : trips (eP n (mn n r) d) [100, 3] = false ∧ tickE (eP n (mn n r) d) [100, 3] = eP n (mn n 0) d := by
  have hvi : viol (eP n (mn n r) d) [100, 3] = false := by simp [viol, eP]
  refine ⟨by unfold trips; rw [hvi]; simp, ?_⟩
  unfold tickE; rw [if_neg (by simp [eP]), if_pos hvi]
  simp only [eP]
  congr 1
  unfold mn; omega
theorem tk_one (e : E) (P : List Int) : tk [e] P 1 = [tickE e P] := rfl
theorem rs_one (e : E) (P : List Int) : rsK [e] P 1 = if trips e P then [(0, e.tier, e.seq)] else [] := by
  unfold rsK; simp [List.range_succ, List.filterMap_cons]; split <;> simp_all
set_option maxRecDepth 100000 in
set_option maxHeartbeats 6400000 in
theorem persist_walk (a0 : Int) (v1 : Value) (X : List Bool) (w : World) (hX : BS w v1 X) (hl : X.length ≤ maxLen) : Calls Try.prog 3 #[.int .i64 a0, v1] w fun e w' => e = .returned (.bool true) ∧ Below w.heap.size w w' := by
  unfold maxLen at hl
  obtain ⟨xa, xc, rfl⟩ : ∃ a c, v1 = .slice a X.length c := by
    rcases hX with ⟨b, off, c, rfl, _⟩ | ⟨rfl, a, c, rfl⟩
    · exact ⟨_, _, rfl⟩
    · exact ⟨_, _, rfl⟩
  obtain ⟨N, hN⟩ : ∃ N, N = X.length := ⟨_, rfl⟩
  rw [← hN] at hl ⊢
  have HN := Lib.hid hN; have HX := Lib.hid hX
  clear hN hX
  by_cases h600 : (600 : Int) < (N : Int)
  · go_enter Try.func3, Try.ntmps3
    go_wp2_with (fail)
    refine (shown_any _).mono ?_
    rintro e w1 ⟨rfl, hb1⟩
    have B1 := Lib.hid hb1; clear hb1
    go_wp2_with (fail)
    go_ret
    exact ⟨rfl, B1.out⟩
  · obtain ⟨p1, p2⟩ := pick_bd a0
    go_enter Try.func3, Try.ntmps3
    go_wp2_with (fail)
    refine (shown_any _).mono ?_
    rintro e w1 ⟨rfl, hb1⟩
    have B1 := Lib.hid hb1; clear hb1
    have hs1 := B1.out.size
    go_wp2_with (fail)
    refine (pick_any _ _).mono ?_
    rintro e _ ⟨rfl, rfl⟩
    obtain ⟨pk, hpk⟩ : ∃ pk, pk = pick a0 := ⟨_, rfl⟩
    rw [← hpk] at p1 p2 ⊢
    clear hpk
    go_wp2_with (fail)
    obtain ⟨n, hn⟩ : ∃ n, 1 + pk = n := ⟨_, rfl⟩
    rw [hn]
    have n1 : 1 ≤ n := by omega
    have n2 : n ≤ 255 := by omega
    clear hn p1 p2
    refine (new_good (L := [eP n 0 false]) (ms_lit (e := eP n 0 false) ⟨rfl, rfl⟩ (hp_new w1 _) rfl) (by simp) (by simp [vE, eP, validB]; omega)).mono ?_
    rintro e w2 ⟨v, rfl, F2, hb2⟩
    simp only [World.size_alloc] at F2
    obtain ⟨f, hf⟩ : ∃ f, f = w1.heap.size + 1 := ⟨_, rfl⟩
    have B2 := Lib.hid (bl_step (bl_alloc B1.out _) hb2)
    have hfb : w.heap.size ≤ f := by omega
    simp only [World.size_alloc]
    rw [← hf] at F2 ⊢
    have R0 : Hid (PerR w n f f v 0 0 false w2) := Lib.hid ⟨by rw [show mn n 0 = 0 by unfold mn; omega]; exact F2, by omega, by omega, fun _ => by omega, B2.out⟩
    clear F2 hb2 B1 hf
    go_wp2_with (fail)
    go_loopw [8, 9, 10] (fun r d i wr => ∃ (k : Nat) (rr : Int) (dd : Bool), k ≤ N ∧ i = .int .i64 k ∧ r = .int .i64 rr ∧ d = .bool dd ∧ PerR w n f f v k rr dd wr) (fun _ _ i _ => N - (intOf i).toNat)
    case atStart => exact ⟨0, 0, false, by omega, rfl, rfl, rfl, R0.out⟩
    case round =>
      clear R0 B2
      obtain ⟨k, rr, dd, hk, rfl, rfl, rfl, F, hr0, hrk, hdr, hB⟩ := hrel
      have HB := Lib.hid hB; clear hB
      have hsr := HB.out.size
      have HF := Lib.hid F; clear F
      have HD := Lib.hid hdr; clear hdr
      by_cases hlt : k < N
      · obtain ⟨x, hx⟩ : ∃ x, X[k]? = some x := ⟨_, List.getElem?_eq_getElem (by have := HN.out; omega)⟩
        obtain ⟨b, off, hxa, hcx⟩ : ∃ b off, xa = some ⟨b, off, none⟩ ∧ wr.cell? ⟨b, off + k, none⟩ = some (.bool x) := by
          rcases HX.out.below HB.out with ⟨b, off, c, he, hc⟩ | ⟨rfl, _⟩
          · simp only [Value.slice.injEq] at he
            exact ⟨b, off, he.1, hc k x hx⟩
          · simp at hx
        subst hxa
        have h600' : k ≤ 600 := by omega
        clear hx
        cases x with
        | false =>
          have hz : ((0 : Int) == n) = false := by simp; omega
          go_wp2_with (fail)
          cases dd with
          | false =>
            have fa := HF.out.below (bl_alloc (Below.refl wr.heap.size wr) (.cells #[.int .i64 100, .int .i64 3] 2))
            refine (mtick_any (P := [100, 3]) fa (ps_lit (hp_new wr _) rfl rfl) (HF.out.far _ _ _ _ (Nat.le_refl _))).mono ?_
            rintro e w3 hT
            have b3 := MTick.below (B := w.heap.size) fa hfb (by simp; omega) hT
            obtain ⟨out, rfl, F3, ho, -⟩ := hT
            obtain ⟨t1, t2⟩ := per_no (n := n) (r := rr) (d := false) n1
            rw [show [eP n (mn n rr) false].length = 1 from rfl] at F3 ho
            rw [tk_one, t2] at F3
            rw [rs_one, t1] at ho
            replace ho : w3.ownsRow _ 38 3 out 0 [] := ho
            obtain ⟨oa, oc, rfl⟩ := slice_of ho
            have B3 := Lib.hid ((HB.out.alloc hsr _).trans b3)
            have hs3 := B3.out.size
            replace F3 := Lib.hid F3
            clear fa b3 ho t1 t2
            go_wp2_with (fail)
            refine (mtripped_any 1 F3.out).mono ?_
            rintro e w4 ⟨rfl, hb4⟩
            rw [show [eP n (mn n 0) false].any (isTr · 1) = false from rfl]
            have F4 := Lib.hid (F3.out.below hb4)
            have B4 := Lib.hid (bl_step B3.out hb4)
            clear hb4 F3 B3 hs3
            go_wp2_with (fail)
            go_roundw
            case rel => exact ⟨k + 1, 0, false, by omega, by go_num, rfl, rfl, F4.out, by omega, by omega, fun _ => by omega, B4.out⟩
            case measure => simp [intOf]; omega
          | true =>
            have fa := HF.out.below (bl_alloc (Below.refl wr.heap.size wr) (.cells #[.int .i64 100, .int .i64 3] 2))
            refine (mtick_any (P := [100, 3]) fa (ps_lit (hp_new wr _) rfl rfl) (HF.out.far _ _ _ _ (Nat.le_refl _))).mono ?_
            rintro e w3 hT
            have b3 := MTick.below (B := w.heap.size) fa hfb (by simp; omega) hT
            obtain ⟨out, rfl, F3, ho, -⟩ := hT
            obtain ⟨t1, t2⟩ := per_no (n := n) (r := rr) (d := true) n1
            rw [show [eP n (mn n rr) true].length = 1 from rfl] at F3 ho
            rw [tk_one, t2] at F3
            rw [rs_one, t1] at ho
            replace ho : w3.ownsRow _ 38 3 out 0 [] := ho
            obtain ⟨oa, oc, rfl⟩ := slice_of ho
            have B3 := Lib.hid ((HB.out.alloc hsr _).trans b3)
            have hs3 := B3.out.size
            replace F3 := Lib.hid F3
            clear fa b3 ho t1 t2
            go_wp2_with (fail)
            refine (mtripped_any 1 F3.out).mono ?_
            rintro e w4 ⟨rfl, hb4⟩
            rw [show [eP n (mn n 0) true].any (isTr · 1) = true from rfl]
            have F4 := Lib.hid (F3.out.below hb4)
            have B4 := Lib.hid (bl_step B3.out hb4)
            clear hb4 F3 B3 hs3
            go_wp2_with (fail)
            go_roundw
            case rel => exact ⟨k + 1, 0, true, by omega, by go_num, rfl, rfl, F4.out, by omega, by omega, (fun h => by cases h), B4.out⟩
            case measure => simp [intOf]; omega
        | true =>
          obtain ⟨val, hval⟩ : ∃ val, 4 - 8 * ((k : Int) % 2) = val := ⟨_, rfl⟩
          have hvv : val < -3 ∨ 3 < val := by omega
          have HV := Lib.hid hval; clear hval
          have HVV := Lib.hid hvv; clear hvv
          cases dd with
          | true =>
            have hq2 : ((rr + 1 : Int) == n) = true ∨ ((rr + 1 : Int) == n) = false := by cases ((rr + 1 : Int) == n) <;> simp
            rcases hq2 with hq2 | hq2
            all_goals
              go_wp2_with (fail)
              rw [HV.out]
              have fa := HF.out.below (bl_alloc (Below.refl wr.heap.size wr) (.cells #[.int .i64 100, .int .i64 val] 2))
              refine (mtick_any (P := [100, val]) fa (ps_lit (hp_new wr _) rfl rfl) (HF.out.far _ _ _ _ (Nat.le_refl _))).mono ?_
              rintro e w3 hT
              have b3 := MTick.below (B := w.heap.size) fa hfb (by simp; omega) hT
              obtain ⟨out, rfl, F3, ho, -⟩ := hT
              obtain ⟨t1, t2⟩ := per_yes (n := n) (r := rr) (d := true) n1 hr0 (fun h => by cases h) HVV.out
              rw [show [eP n (mn n rr) true].length = 1 from rfl] at F3 ho
              rw [tk_one, t2] at F3
              rw [rs_one, t1, Bool.not_true, Bool.and_false] at ho
              replace ho : w3.ownsRow _ 38 3 out 0 [] := ho
              obtain ⟨oa, oc, rfl⟩ := slice_of ho
              have B3 := Lib.hid ((HB.out.alloc hsr _).trans b3)
              have hs3 := B3.out.size
              replace F3 := Lib.hid F3
              clear fa b3 ho t1 t2
              go_wp2_with (fail)
              refine (mtripped_any 1 F3.out).mono ?_
              rintro e w4 ⟨rfl, hb4⟩
              rw [show [eP n (mn n (rr + 1)) (true || (decide (rr + 1 = n) && !true))].any (isTr · 1) = true from rfl]
              have F4 := Lib.hid (F3.out.below hb4)
              have B4 := Lib.hid (bl_step B3.out hb4)
              clear hb4 F3 B3 hs3
              go_wp2_with (fail)
              go_roundw
              case rel => exact ⟨k + 1, rr + 1, true, by omega, by go_num, rfl, rfl, F4.out, by omega, by omega, (fun h => by cases h), B4.out⟩
              case measure => simp [intOf]; omega
          | false =>
            have hlt2 := HD.out rfl
            rcases Decidable.em (rr + 1 = n) with he | he
            · have hq : ((rr + 1 : Int) == n) = true := by simpa using he
              have HE := Lib.hid he; clear he
              go_wp2_with (fail)
              rw [HV.out]
              have fa := HF.out.below (bl_alloc (Below.refl wr.heap.size wr) (.cells #[.int .i64 100, .int .i64 val] 2))
              refine (mtick_any (P := [100, val]) fa (ps_lit (hp_new wr _) rfl rfl) (HF.out.far _ _ _ _ (Nat.le_refl _))).mono ?_
              rintro e w3 hT
              have b3 := MTick.below (B := w.heap.size) fa hfb (by simp; omega) hT
              obtain ⟨out, rfl, F3, ho, -⟩ := hT
              obtain ⟨t1, t2⟩ := per_yes (n := n) (r := rr) (d := false) n1 hr0 (fun _ => hlt2) HVV.out
              rw [show [eP n (mn n rr) false].length = 1 from rfl] at F3 ho
              rw [tk_one, t2, show (false || (decide (rr + 1 = n) && !false)) = true by simp [HE.out]] at F3
              rw [rs_one, t1, show (decide (rr + 1 = n) && !false) = true by simp [HE.out]] at ho
              replace ho : w3.ownsRow _ 38 3 out (0 + 1) [.int .i64 0, .int .i64 1, .int .i64 7] := ho
              obtain ⟨g, cap, rfl⟩ := ownsRow_succ ho
              have k0 := own_cell ho (j := 0) rfl
              have k1 := own_cell ho (j := 1) rfl
              have k2 := own_cell ho (j := 2) rfl
              have gl := (own_lt ho).2
              have B3 := Lib.hid ((HB.out.alloc hsr _).trans b3)
              have hs3 := B3.out.size
              replace F3 := Lib.hid F3
              clear fa b3 ho t1 t2
              go_wp2_with (fail)
              refine (mtripped_any 1 F3.out).mono ?_
              rintro e w4 ⟨rfl, hb4⟩
              rw [show [eP n (mn n (rr + 1)) true].any (isTr · 1) = true from rfl]
              have F4 := Lib.hid (F3.out.below hb4)
              have B4 := Lib.hid (bl_step B3.out hb4)
              have l0 := ((bcell hb4).1 g 0 gl).trans k0
              have l1 := ((bcell hb4).1 g 1 gl).trans k1
              have l2 := ((bcell hb4).1 g 2 gl).trans k2
              clear hb4 F3 B3 hs3
              go_wp2_with (fail)
              go_roundw
              case rel => exact ⟨k + 1, rr + 1, true, by omega, by go_num, rfl, rfl, F4.out, by omega, by omega, (fun h => by cases h), B4.out⟩
              case measure => simp [intOf]; omega
            · have hq : ((rr + 1 : Int) == n) = false := by simpa using he
              have HE := Lib.hid he; clear he
              go_wp2_with (fail)
              rw [HV.out]
              have fa := HF.out.below (bl_alloc (Below.refl wr.heap.size wr) (.cells #[.int .i64 100, .int .i64 val] 2))
              refine (mtick_any (P := [100, val]) fa (ps_lit (hp_new wr _) rfl rfl) (HF.out.far _ _ _ _ (Nat.le_refl _))).mono ?_
              rintro e w3 hT
              have b3 := MTick.below (B := w.heap.size) fa hfb (by simp; omega) hT
              obtain ⟨out, rfl, F3, ho, -⟩ := hT
              obtain ⟨t1, t2⟩ := per_yes (n := n) (r := rr) (d := false) n1 hr0 (fun _ => hlt2) HVV.out
              rw [show [eP n (mn n rr) false].length = 1 from rfl] at F3 ho
              rw [tk_one, t2, show (false || (decide (rr + 1 = n) && !false)) = false by simp [HE.out]] at F3
              rw [rs_one, t1, show (decide (rr + 1 = n) && !false) = false by simp [HE.out]] at ho
              replace ho : w3.ownsRow _ 38 3 out 0 [] := ho
              obtain ⟨oa, oc, rfl⟩ := slice_of ho
              have B3 := Lib.hid ((HB.out.alloc hsr _).trans b3)
              have hs3 := B3.out.size
              replace F3 := Lib.hid F3
              clear fa b3 ho t1 t2
              go_wp2_with (fail)
              refine (mtripped_any 1 F3.out).mono ?_
              rintro e w4 ⟨rfl, hb4⟩
              rw [show [eP n (mn n (rr + 1)) false].any (isTr · 1) = false from rfl]
              have F4 := Lib.hid (F3.out.below hb4)
              have B4 := Lib.hid (bl_step B3.out hb4)
              clear hb4 F3 B3 hs3
              go_wp2_with (fail)
              go_roundw
              case rel => exact ⟨k + 1, rr + 1, false, by omega, by go_num, rfl, rfl, F4.out, by omega, by omega, fun _ => by have := HE.out; omega, B4.out⟩
              case measure => simp [intOf]; omega
      · go_wp2_with (fail)
        go_ret
        exact ⟨rfl, HB.out⟩
theorem FaultsPersist_walk (a0 : Int) (a1 : Value) (w : World) (w0 : (Lit.int .i64 a0).wf = true) (w1 : Kit.SlIn [.inr false] w a1) :
    Calls Try.prog 3 #[.int .i64 a0, a1] w fun e w' => e = .returned (.bool true) ∧ Below w.heap.size w w' := by
  obtain ⟨X, hX, hl⟩ := slIn_bs w1
  exact persist_walk a0 a1 X w hX hl
end Go.Proofs.Ythgilipffdcddaa
