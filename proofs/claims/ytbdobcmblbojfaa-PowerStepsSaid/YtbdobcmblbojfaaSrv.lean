/-
  The walk of the reference's Served. Conditions: at most 16 loads, all valid, an energy that is not negative.
-/
import Derived.Test.YtbdobcmblbojfaaStpc
import Derived.Deep.LoopGhost
namespace Go.Proofs.Ytbdobcmblbojfaa
open Go.RowKit Kit Go.Shelf
set_option linter.unusedVariables false
set_option maxHeartbeats 1600000 in
theorem refsum_bls (l : List Ld) (S : List Bool) (a a' : Option Addr) (n c c' : Nat) (w : World) (hL : Lds w a n c l) (hn : n ≤ 16) (hd : okD l) (hS : Bls w a' n c' S) :
    Calls Try.prog 25 #[.slice a n c, .slice a' n c'] w fun e w' => e = .returned (.int .i64 (sumS l S)) ∧ w = w' := by
  have N1 := Lib.hid hL.1; have HL := Lib.hid hL; have HD := Lib.hid hd; have HS := Lib.hid hS
  have hcap := hL.2.1
  have hcap2 := hL.2.2.1
  have hc3 := hS.2.1
  have hc4 := hS.2.2.1
  unfold maxLen at hcap2 hc4
  clear hL hd hS
  go_enter Try.func25, Try.ntmps25
  go_wp2_with (fail)
  go_loopw [5, 6] (fun s i wr => ∃ k : Nat, k ≤ n ∧ i = .int .i64 k ∧ s = .int .i64 (sumK l S k) ∧ wr = w) (fun _ i _ => n - (intOf i).toNat)
  case atStart => exact ⟨0, by omega, rfl, rfl, rfl⟩
  case round =>
    obtain ⟨k, hk, rfl, rfl, rfl⟩ := hrel
    by_cases hlt : k < n
    · obtain ⟨b, off, rfl, hbl, c0, c1, c2⟩ := HL.out.2.2.2 k hlt
      obtain ⟨b', off', rfl, hbl', cs⟩ := HS.out.2.2.2 k hlt
      obtain ⟨b1, b2⟩ := sumK_bound HD.out S k
      obtain ⟨d1, d2, _, _⟩ := HD.out.at k
      have e1 : sumK l S (k + 1) = sumK l S k + (if sv S k then dr l k else 0) := rfl
      obtain ⟨T, hT⟩ : ∃ T, T = sumK l S k := ⟨_, rfl⟩
      obtain ⟨D, hD⟩ : ∃ D, D = dr l k := ⟨_, rfl⟩
      rw [← hT] at b1 b2 e1 ⊢
      rw [← hD] at d1 d2 e1 c0
      have E1 := Lib.hid e1
      clear hT hD e1 c1 c2
      cases ho : sv S k with
      | true =>
        rw [ho] at cs E1
        clear ho
        go_wp2_with (fail)
        go_roundw
        case rel => exact ⟨k + 1, by omega, by simp, by rw [E1.out]; simp, trivial⟩
        case measure => simp [intOf]; omega
      | false =>
        rw [ho] at cs E1
        clear ho
        go_wp2_with (fail)
        go_roundw
        case rel => exact ⟨k + 1, by omega, by simp, by rw [E1.out]; simp, trivial⟩
        case measure => simp [intOf]; omega
    · obtain rfl : k = n := by omega
      have e1 : sumK l S k = sumS l S := by rw [sumS, ← N1.out]
      rw [e1]
      clear e1
      go_wp2_with (fail)
      go_ret
      exact ⟨rfl, rfl⟩
theorem take_onL (l : List Ld) (k : Nat) (hk : k < l.length) : bls ((onL l).take (k + 1)) = bls ((onL l).take k) ++ [.bool (isOn l k)] := by
  unfold bls onL isOn
  rw [List.take_add_one, List.map_append]
  congr 1
  rw [List.getElem?_map, List.getElem?_eq_getElem hk, List.getD_eq_getElem?_getD, List.getElem?_eq_getElem hk]
  rfl
theorem shed_worst2 {l : List Ld} {e : Int} {S : List Bool} {x : Nat} (hx : sv S x = true) (hmin : ∀ i, i < l.length → sv S i = true → i = x ∨ bef l x i) (hs : e < sumS l S) :
    ∀ o : List Nat, o.Pairwise (bef l) → (∀ i ∈ o, i < l.length) → (∀ i, i < l.length → sv S i = true → i ∈ o) → x < l.length → ∃ r, r.length < o.length ∧ shedL l e o S = shedL l e r (S.set x false) ∧ r.Pairwise (bef l) ∧ (∀ i ∈ r, i < l.length) ∧ ∀ i, i < l.length → sv (S.set x false) i = true → i ∈ r
  | [], _, _, h, hxl => by have := h x hxl hx; cases this
  | i :: r, hp, hr, h, hxl => by
    rw [shedL, if_neg (by omega)]
    cases hsi : sv S i with
    | false =>
      rw [set_off hsi]
      refine (fun ⟨r', h1, h2⟩ => ⟨r', by simp only [List.length_cons]; omega, h2⟩) (shed_worst2 hx hmin hs r (List.pairwise_cons.1 hp).2 (fun j hj => hr j (by simp [hj])) (fun j hj hsj => by
        rcases List.mem_cons.1 (h j hj hsj) with e | e
        · subst e; rw [hsi] at hsj; cases hsj
        · exact e) hxl)
    | true =>
      have hil := hr i (by simp)
      have : i = x := by
        rcases hmin i hil hsi with e | e
        · exact e
        · rcases List.mem_cons.1 (h x hxl hx) with e' | e'
          · exact e'.symm
          · exact absurd (bef_trans e ((List.pairwise_cons.1 hp).1 x e')) (bef_irrefl l x)
      subst this
      exact ⟨r, by simp, rfl, (List.pairwise_cons.1 hp).2, fun j hj => hr j (by simp [hj]), fun j hj hsj => by
        rw [sv_set] at hsj
        split at hsj
        · cases hsj
        · rename_i hne
          rcases List.mem_cons.1 (h j hj hsj) with e | e
          · exact absurd e hne
          · exact e⟩
/-- What holds at the head of the reference's outer loop. -/
def SrI (l : List Ld) (w : World) (e : Int) (SF : List Bool) (n g cap : Nat) (gg : Nat) (S : List Bool) (wr : World) : Prop :=
  wr.ownsRow w.heap.size 4 1 (.slice (some ⟨g, 0, none⟩) n cap) n (bls S) ∧ S.length = n ∧ Below w.heap.size w wr ∧
  ∃ r : List Nat, r.length ≤ gg ∧ shedL l e r S = SF ∧ r.Pairwise (bef l) ∧ (∀ i ∈ r, i < l.length) ∧ ∀ i, i < l.length → sv S i = true → i ∈ r
/-- The first of those that are served, among the first places; -1: none. -/
def Wor (l : List Ld) (S : List Bool) (k : Nat) (x : Int) : Prop :=
  (x = -1 ∧ ∀ j, j < k → sv S j = false) ∨ ∃ y : Nat, x = (y : Int) ∧ y < k ∧ sv S y = true ∧ ∀ j, j < k → sv S j = true → j = y ∨ bef l y j
theorem Wor.keep {l : List Ld} {S : List Bool} {k : Nat} {x : Int} (h : Wor l S k x) (hs : sv S k = false) : Wor l S (k + 1) x := by
  have key : ∀ j, j < k + 1 → sv S j = true → j < k := fun j hj h' => by
    rcases Nat.lt_succ_iff_lt_or_eq.1 hj with h'' | rfl
    · exact h''
    · rw [hs] at h'; cases h'
  rcases h with ⟨h1, h2⟩ | ⟨y, h1, h2, h3, h4⟩
  · exact .inl ⟨h1, fun j hj => by
      cases h' : sv S j with
      | false => rfl
      | true => have := h2 j (key j hj h'); rw [h'] at this; cases this⟩
  · exact .inr ⟨y, h1, by omega, h3, fun j hj h' => h4 j (key j hj h') h'⟩
theorem Wor.stay {l : List Ld} {S : List Bool} {k y : Nat} (hy : y < k) (hs : sv S y = true) (h4 : ∀ j, j < k → sv S j = true → j = y ∨ bef l y j) (hb : bef l y k) : Wor l S (k + 1) (y : Int) :=
  .inr ⟨y, rfl, by omega, hs, fun j hj h' => by
    rcases Nat.lt_succ_iff_lt_or_eq.1 hj with h'' | rfl
    · exact h4 j h'' h'
    · exact .inr hb⟩
theorem Wor.take {l : List Ld} {S : List Bool} {k : Nat} (hs : sv S k = true) (h4 : ∀ j, j < k → sv S j = true → bef l k j) : Wor l S (k + 1) (k : Int) :=
  .inr ⟨k, rfl, by omega, hs, fun j hj h' => by
    rcases Nat.lt_succ_iff_lt_or_eq.1 hj with h'' | rfl
    · exact .inr (h4 j h'' h')
    · exact .inl rfl⟩
set_option maxRecDepth 100000 in
set_option maxHeartbeats 6400000 in
theorem served_any (l : List Ld) (e : Int) (o : List Nat) (a : Option Addr) (n c : Nat) (w : World) (hL : Lds w a n c l) (hn : n ≤ 16) (hd : okD l) (he : 0 ≤ e) (ho : Ord l o) :
    Calls Try.prog 24 #[.slice a n c, .int .i64 e] w fun en w' => ∃ v, en = .returned v ∧ w'.ownsRow w.heap.size 4 1 v n (bls (shedL l e o (onL l))) ∧ Below w.heap.size w w' := by
  obtain ⟨i0, hi, hz0, hz1, hz2⟩ := info_parts info4
  have N1 := Lib.hid hL.1; have HL := Lib.hid hL; have HD := Lib.hid hd; have HO := Lib.hid ho
  have hcap := hL.2.1
  have hcap2 := hL.2.2.1
  unfold maxLen at hcap2
  obtain ⟨SF, hSF⟩ : ∃ SF, Hid (SF = shedL l e o (onL l)) := ⟨_, Lib.hid rfl⟩
  rw [← hSF.out]
  have RS := Lib.hid (fun S W a' c' h h' => refsum_bls l S a a' n c c' W h hn hd h')
  clear hL hd ho
  go_enter Try.func24, Try.ntmps24
  go_wp2_with (fail)
  have S0 : Hid ((w.alloc (.cells #[] 4)).ownsRow w.heap.size 4 1 (.slice (some ⟨w.heap.size, 0, none⟩) 0 0) 0 (bls ((onL l).take 0)) ∧ Below w.heap.size w (w.alloc (.cells #[] 4))) := Lib.hid
    ⟨World.ownsRow_made w #[] 0 (Nat.le_refl _) (by simp [maxLen]) rfl, bl_alloc (Below.refl _ _) _⟩
  go_loopw [5, 6] (fun v i wr => ∃ k : Nat, k ≤ n ∧ i = .int .i64 k ∧ wr.ownsRow w.heap.size 4 1 v k (bls ((onL l).take k)) ∧ Below w.heap.size w wr ∧ v ≠ .slice none 0 0) (fun _ i _ => n - (intOf i).toNat)
  case atStart => exact ⟨0, by omega, rfl, S0.out.1, S0.out.2, by intro h; cases h⟩
  case round =>
    clear S0
    obtain ⟨k, hk, rfl, hO1, hB1, hne⟩ := hrel
    have HO1 := Lib.hid hO1; have HB1 := Lib.hid hB1; have HNE := Lib.hid hne
    clear hO1 hB1 hne
    by_cases hlt : k < n
    · obtain ⟨b, off, rfl, hbl, c0, c1, c2⟩ := (HL.out.below HB1.out).2.2.2 k hlt
      clear c0 c1
      have hbs := HB1.out.size
      go_wp2_with (at_builtin; refine wpList_append_own _ rfl _ _ 27 rfl w.heap.size 4 i0 _ 1 1 Try.underlying27 hi hz0 hz1 hz2 rfl (by decide) _ _ _ rfl (HO1.out.alloc _) ⟨wr.heap.size, 0, none⟩ 1 1 [_] rfl rfl (cells_new wr [_] 4) (by simp [Value.oneCell']) (by unfold maxLen; omega) (by omega) (by simp; omega) ?_; intro v' w6 hown6 hg6 hiff; replace hg6 := Lib.hid hg6; replace hown6 := Lib.hid hown6; replace hiff := Lib.hid hiff)
      go_roundw
      case rel => exact ⟨k + 1, by omega, by simp, by rw [take_onL l k (by rw [← N1.out]; exact hlt)]; exact hown6.out, (bl_alloc HB1.out _).grown hg6.out (bl_alloc HB1.out _).size (fun j e => (HO1.out.lt j e).1), fun h => by have := hiff.out.1 h; exact HNE.out this.1⟩
      case measure => simp [intOf]; omega
    · obtain rfl : k = n := by omega
      have hO2 := HO1.out
      rw [List.take_of_length_le (by rw [onL_len, N1.out]; exact Nat.le_refl _)] at hO2
      obtain ⟨g, cap, rfl⟩ : ∃ g cap, u5 = .slice (some ⟨g, 0, none⟩) k cap := by
        rcases HO1.out.2 with ⟨h1, h2⟩ | ⟨g, cap, cur, h1, _⟩
        · subst h2; exact absurd h1 HNE.out
        · exact ⟨g, cap, h1⟩
      have S1 : Hid (SrI l w e SF k g cap o.length (onL l) wr) := Lib.hid ⟨hO2, by rw [onL_len, N1.out], HB1.out, o, Nat.le_refl _, hSF.out.symm, HO.out.sorted, fun i hi => (HO.out.mem i).1 hi, fun i hi _ => (HO.out.mem i).2 hi⟩
      clear hO2 HO1 HB1 HNE
      go_wp2_with (fail)
      go_loopg [7] o.length (fun gg _ wr => ∃ S, SrI l w e SF k g cap gg S wr)
      case atStart => exact ⟨_, S1.out⟩
      case round =>
        clear S1
        obtain ⟨S, hown, hlen, hbl, r, hr1, hr2, hr3, hr4, hr5⟩ := hrel
        obtain ⟨a2, c2, e2, hbs⟩ := own_bls hown
        simp only [Value.slice.injEq, true_and] at e2
        obtain ⟨rfl, rfl⟩ := e2
        have HOW := Lib.hid hown; have HBL := Lib.hid hbl; have HBS := Lib.hid hbs; have HLN := Lib.hid hlen
        have HR := Lib.hid (And.intro hr1 (And.intro hr2 (And.intro hr3 (And.intro hr4 hr5))))
        have hc3 := hbs.2.1
        have hc4 := hbs.2.2.1
        unfold maxLen at hc4
        clear hown hbl hbs hr1 hr2 hr3 hr4 hr5 hlen
        obtain ⟨U, hU⟩ : ∃ U, Hid (U = sumS l S) := ⟨_, Lib.hid rfl⟩
        have RSU := Lib.hid (RS.out S _ _ _ (HL.out.below HBL.out) HBS.out)
        rw [← hU.out] at RSU
        go_wp2_with (fail)
        refine RSU.out.mono ?_
        rintro en _ ⟨rfl, rfl⟩
        by_cases hle : U ≤ e
        · go_wp2_with (fail)
          go_ret
          refine ⟨_, rfl, ?_, HBL.out⟩
          have : SF = S := by rw [← HR.out.2.1, shed_done (by rw [← hU.out]; exact hle)]
          rw [this]; exact HOW.out
        · go_wp2_with (fail)
          go_loopw [7, 8] (fun x i w' => ∃ (j : Nat) (y : Int) (q : Nat), j ≤ k ∧ i = .int .i64 j ∧ x = .int .i64 y ∧ Wor l S j y ∧ w' = wr.drewN q) (fun _ i _ => k - (intOf i).toNat)
          case atStart => exact ⟨0, -1, 0, by omega, rfl, rfl, .inl ⟨rfl, fun j hj => by omega⟩, rfl⟩
          case round =>
            obtain ⟨j, y, q, hj, rfl, rfl, hW, rfl⟩ := hrel
            have HW := Lib.hid hW
            clear hW
            by_cases hlt3 : j < k
            · obtain ⟨b, off, rfl, hbb, c0, c1, c2⟩ := (HL.out.below HBL.out).2.2.2 j hlt3
              obtain ⟨b', off', e3, hgl, cs⟩ := HBS.out.2.2.2 j hlt3
              simp only [Option.some.injEq, Addr.mk.injEq, and_true] at e3
              obtain ⟨rfl, rfl⟩ := e3
              rw [Nat.zero_add] at cs
              clear c0 c2
              cases hsv : sv S j with
              | false =>
                rw [hsv] at cs
                have HSV := Lib.hid hsv
                clear hsv
                go_wp2_with (fail)
                go_quiet (fail)
                go_wp2_with (fail)
                go_roundw
                case rel => exact ⟨j + 1, y, _, by omega, by simp, rfl, HW.out.keep HSV.out, rfl⟩
                case measure => simp [intOf]; omega
              | true =>
                rw [hsv] at cs
                have HSV := Lib.hid hsv
                clear hsv
                rcases HW.out with ⟨rfl, hall⟩ | ⟨x, rfl, hx1, hx2, hx3⟩
                · have HALL := Lib.hid hall
                  clear hall
                  go_wp2_with (fail)
                  go_quiet (fail)
                  go_wp2_with (fail)
                  go_roundw
                  case rel => exact ⟨j + 1, j, _, by omega, by simp, rfl, Wor.take HSV.out (fun j' hj' h' => by rw [HALL.out j' hj'] at h'; cases h'), rfl⟩
                  case measure => simp [intOf]; omega
                · obtain ⟨b2, off2, e4, _, _, cx1, _⟩ := (HL.out.below HBL.out).2.2.2 x (by omega)
                  simp only [Option.some.injEq, Addr.mk.injEq, and_true] at e4
                  obtain ⟨rfl, rfl⟩ := e4
                  have hx0 : decide ((x : Int) < 0) = false := by rw [decide_eq_false_iff_not]; omega
                  obtain ⟨R1, hR1⟩ : ∃ R1, R1 = rk l j := ⟨_, rfl⟩
                  obtain ⟨R2, hR2⟩ : ∃ R2, R2 = rk l x := ⟨_, rfl⟩
                  rw [← hR1] at c1
                  rw [← hR2] at cx1
                  have HR1 := Lib.hid hR1; have HR2 := Lib.hid hR2
                  have HX := Lib.hid (And.intro hx2 hx3)
                  clear hR1 hR2 hx2 hx3
                  by_cases hrk : R1 ≤ R2
                  · have hd1 : decide (R1 ≤ R2) = true := by simpa using hrk
                    have hbf : Hid (bef l j x) := Lib.hid (by unfold bef; rw [← HR1.out, ← HR2.out]; omega)
                    clear hrk
                    go_wp2_with (fail)
                    go_quiet (fail)
                    go_wp2_with (fail)
                    go_roundw
                    case rel => exact ⟨j + 1, j, _, by omega, by simp, rfl, Wor.take HSV.out (fun j' hj' h' => by
                      rcases HX.out.2 j' hj' h' with rfl | h''
                      · exact hbf.out
                      · exact bef_trans hbf.out h''), rfl⟩
                    case measure => simp [intOf]; omega
                  · have hd1 : decide (R1 ≤ R2) = false := by rw [decide_eq_false_iff_not]; exact hrk
                    have hbf : Hid (bef l x j) := Lib.hid (by unfold bef; rw [← HR1.out, ← HR2.out]; omega)
                    clear hrk
                    go_wp2_with (fail)
                    go_quiet (fail)
                    go_wp2_with (fail)
                    go_roundw
                    case rel => exact ⟨j + 1, x, _, by omega, by simp, rfl, Wor.stay hx1 HX.out.1 HX.out.2 hbf.out, rfl⟩
                    case measure => simp [intOf]; omega
            · obtain rfl : j = k := by omega
              rcases HW.out with ⟨rfl, hall⟩ | ⟨x, rfl, hx1, hx2, hx3⟩
              · exfalso
                have : U = 0 := by rw [hU.out, sumS, ← N1.out]; exact sumK_none j hall
                omega
              · obtain ⟨r', hr0, hr1, hr2, hr3, hr4⟩ := shed_worst2 (l := l) (e := e) (S := S) (x := x) hx2 (fun i hi hs => hx3 i (by rw [N1.out]; exact hi) hs) (by rw [← hU.out]; omega) r HR.out.2.2.1 HR.out.2.2.2.1 HR.out.2.2.2.2 (by rw [← N1.out]; exact hx1)
                have HR' := Lib.hid (And.intro hr0 (And.intro hr1 (And.intro hr2 (And.intro hr3 hr4))))
                have hcx := HOW.out.cellAt x (by omega)
                rw [bls_get S j x HLN.out hx1] at hcx
                have hfx := own_free HOW.out x
                clear hr0 hr1 hr2 hr3 hr4 hx2 hx3
                go_wp2_with (fail)
                go_roundg (gk - 1)
                case measure => have := HR.out.1; have := HR'.out.1; omega
                case rel =>
                  have s1 := own_set (own_drewN HOW.out q) (j := x) (by omega) (.bool false)
                  rw [show (bls S).set x (.bool false) = bls (S.set x false) from by unfold bls; rw [List.map_set]] at s1
                  refine ⟨S.set x false, s1, by rw [List.length_set]; exact HLN.out, ?_, r', ?_, ?_, HR'.out.2.2⟩
                  · exact (below_drewN HBL.out q).setCell (p := ⟨g, x, none⟩) (own_lt HOW.out).1 _
                  · have := HR.out.1; have := HR'.out.1; omega
                  · rw [← HR'.out.2.1]; exact HR.out.2.1
end Go.Proofs.Ytbdobcmblbojfaa
