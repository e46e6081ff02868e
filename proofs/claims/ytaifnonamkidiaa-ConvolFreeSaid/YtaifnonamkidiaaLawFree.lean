/-
  The walk of the law ConvolFree. Conditions: none.
-/
import Derived.Test.YtaifnonamkidiaaAwk
namespace Go.Proofs.Ytaifnonamkidiaa
open Go.RowKit Kit
set_option linter.unusedVariables false
def mn (x y : Int) : Int := min x y
theorem run_min_mn (P : Program) (w : World) (ts : Array TypeId) (t : TypeId) (k k' : IntKind) (x y : Int) : (Builtin.min_ ts t #[.int k x, .int k' y]).run P w = .ok (.int k (mn x y)) w := by
  simp [Builtin.min_, Builtin.min2, mn]; omega
theorem mn_nat (a b : Nat) : mn a b = ((min a b : Nat) : Int) := by unfold mn; omega
def lc (l : List Nat) : Array Value := (l.map fun (n : Nat) => Value.int .i64 (n : Int)).toArray
theorem lc_size (l : List Nat) : (lc l).size = l.length := by simp [lc]
theorem lc_get (l : List Nat) (i : Nat) (h : i < l.length) : (lc l)[i]? = some (.int .i64 ((l.getD i 0 : Nat) : Int)) := by
  simp [lc, h]
theorem lc_set (l : List Nat) (i : Nat) (v : Nat) : (lc l).setIfInBounds i (.int .i64 (v : Int)) = lc (l.set i v) := by
  unfold lc
  rw [List.map_set]
  simp
def z64 : List Nat := List.replicate 64 0
def dif (s b : Nat) : Nat := (if o1 s b = 0 then 0 else 1) + (if o2 s b = 1 then 0 else 1)
/-- A step of the search: least, and back. -/
def fst (p : List Nat × Nat) (s b : Nat) : List Nat × Nat :=
  if nx s b = 0 then (p.1, min p.2 (p.1.getD s 0 + dif s b)) else (p.1.set (nx s b) (min (p.1.getD (nx s b) 0) (p.1.getD s 0 + dif s b)), p.2)
def fst2 (p : List Nat × Nat) (s : Nat) : List Nat × Nat := fst (fst p s 0) s 1
def fround (p : List Nat × Nat) (k : Nat) : List Nat × Nat := (List.range k).foldl (fun p i => fst2 p (i + 1)) p
theorem fround_succ (p : List Nat × Nat) (k : Nat) : fround p (k + 1) = fst2 (fround p k) (k + 1) := by simp [fround, List.range_succ]
def fall (p : List Nat × Nat) (k : Nat) : List Nat × Nat := (List.range k).foldl (fun p _ => fround p 63) p
theorem fall_succ (p : List Nat × Nat) (k : Nat) : fall p (k + 1) = fround (fall p k) 63 := by simp [fall, List.range_succ]
def f0 : List Nat × Nat := ((List.replicate 64 1000).set 32 2, 1000)
theorem f0_dif : dif 0 1 = 2 := by decide +kernel
def fsub (p : List Nat × Nat) (s k : Nat) : List Nat × Nat := (List.range k).foldl (fun p b => fst p s b) p
theorem fsub_succ (p : List Nat × Nat) (s k : Nat) : fsub p s (k + 1) = fst (fsub p s k) s k := by simp [fsub, List.range_succ]
theorem fsub_two (p : List Nat × Nat) (s : Nat) : fsub p s 2 = fst2 p s := rfl
/-- What every step keeps: 64 entries, none above 1000. -/
def fok (p : List Nat × Nat) : Prop := p.1.length = 64 ∧ (∀ i, p.1.getD i 0 ≤ 1000) ∧ p.2 ≤ 1000
theorem dif_le (s b : Nat) : dif s b ≤ 2 := by unfold dif; split <;> split <;> omega
theorem fok_fst (p : List Nat × Nat) (s b : Nat) (h : fok p) : fok (fst p s b) := by
  obtain ⟨h1, h2, h3⟩ := h
  unfold fst
  split
  · exact ⟨h1, h2, by simp only; omega⟩
  · refine ⟨by simp [h1], fun i => ?_, h3⟩
    simp only [List.getD_eq_getElem?_getD, List.getElem?_set]
    have := h2 i
    have h2' := h2 (nx s b)
    simp only [List.getD_eq_getElem?_getD] at this h2'
    split
    · split
      · simp only [Option.getD_some]; omega
      · simp
    · exact this
theorem fok_fround (p : List Nat × Nat) (k : Nat) (h : fok p) : fok (fround p k) := by
  induction k with
  | zero => exact h
  | succ k ih => rw [fround_succ]; exact fok_fst _ _ _ (fok_fst _ _ _ ih)
theorem fok_fall (p : List Nat × Nat) (k : Nat) (h : fok p) : fok (fall p k) := by
  induction k with
  | zero => exact h
  | succ k ih => rw [fall_succ]; exact fok_fround _ _ ih
theorem fok_fsub (p : List Nat × Nat) (s k : Nat) (h : fok p) : fok (fsub p s k) := by
  induction k with
  | zero => exact h
  | succ k ih => rw [fsub_succ]; exact fok_fst _ _ _ ih
theorem fok_f0 : fok f0 := by
  refine ⟨by simp [f0], fun i => ?_, by simp [f0]⟩
  unfold f0
  simp only [List.getD_eq_getElem?_getD, List.getElem?_set, List.getElem?_replicate]
  (repeat' split) <;> simp
def fine : List Nat := [1000, 8, 7, 7, 7, 5, 6, 6, 5, 7, 4, 8, 4, 6, 5, 7, 3, 7, 6, 6, 4, 4, 7, 7, 4, 6, 5, 7, 5, 7, 6, 6, 2, 8, 5, 7, 5, 5, 4, 6, 3, 7, 4, 8, 6, 6, 7, 7, 3, 5, 6, 4, 4, 6, 7, 7, 4, 4, 5, 7, 5, 5, 6, 6]
theorem fall_6 : fall f0 6 = (fine, 10) := by decide +kernel
theorem fine_stays : fround (fine, 10) 63 = (fine, 10) := by decide +kernel
theorem fall_more (k : Nat) : fall f0 (6 + k) = (fine, 10) := by
  induction k with
  | zero => exact fall_6
  | succ k ih => rw [show 6 + (k + 1) = (6 + k) + 1 from rfl, fall_succ, ih, fine_stays]
theorem fall_64 : (fall f0 64).2 = 10 := by rw [show 64 = 6 + 58 from rfl, fall_more]
theorem dif_I (s b : Nat) : difI (o1 s b) (o2 s b) = (dif s b : Int) := by
  unfold difI dif; simp only [Int.natCast_eq_zero]
  have e : ((o2 s b : Nat) : Int) = 1 ↔ o2 s b = 1 := by omega
  simp only [e]
  split <;> split <;> rfl
theorem zero36 (w : World) : Sem.run Try.prog (zeroValue 36) w = .ok (.agg (lc z64)) w := by kernel_rfl
/-- The list after k rounds of the first loop. -/
def ini (k : Nat) : List Nat := List.replicate k 1000 ++ List.replicate (64 - k) 0
theorem ini_succ (k : Nat) (h : k < 64) : (ini k).set k 1000 = ini (k + 1) := by
  unfold ini
  rw [List.set_append_right _ _ (by simp), show 64 - k = (64 - (k + 1)) + 1 by omega, List.replicate_succ, List.replicate_succ']
  simp
theorem ini_64 : ini 64 = List.replicate 64 1000 := by simp [ini]
theorem ini_len (k : Nat) (h : k ≤ 64) : (ini k).length = 64 := by simp [ini]; omega
def FR (w : World) (l : List Nat) (wr : World) : Prop := wr.heap[w.heap.size]? = some (.cells (lc l) 36) ∧ l.length = 64 ∧ Below w.heap.size w wr
theorem FR.cell {w : World} {l : List Nat} {wr : World} (h : FR w l wr) (i : Nat) (hi : i < 64) : wr.cell? ⟨w.heap.size, i, none⟩ = some (.int .i64 ((l.getD i 0 : Nat) : Int)) := cell_of h.1 (lc_get l i (by rw [h.2.1]; exact hi))
theorem FR.free {w : World} {l : List Nat} {wr : World} (h : FR w l wr) (i : Nat) : wr.frozen? ⟨w.heap.size, i, none⟩ = false := free_of h.1
theorem FR.set {w : World} {l l' : List Nat} {wr : World} (h : FR w l wr) (i : Nat) (v : Nat) (e : l.set i v = l') : FR w l' (wr.setCell ⟨w.heap.size, i, none⟩ (.int .i64 (v : Int))) := by
  subst e
  exact ⟨by rw [hp_set h.1, lc_set], by simp [h.2.1], bl_set h.2.2 (Nat.le_refl _) _⟩
theorem step_at' (s b : Nat) (hs : s < 64) (hb : b < 2) (si bi : Int) (h1 : si = s) (h2 : bi = b) (w : World) (x y z : Nat) (hx : nx s b = x) (hy : o1 s b = y) (hz : o2 s b = z) :
    Calls Try.prog 9 #[.int .i64 si, .int .i64 bi] w fun e w' => e = .returned (.tuple #[.int .i64 x, .int .i64 y, .int .i64 z]) ∧ w = w' := by
  subst hx hy hz; exact step_at s b hs hb si bi h1 h2 w
theorem differ_d (s b d : Nat) (h : difI (o1 s b) (o2 s b) = (d : Int)) (w : World) : Calls Try.prog 18 #[.int .i64 (o1 s b), .int .i64 (o2 s b)] w fun e w' => e = .returned (.int .i64 (d : Int)) ∧ w = w' := by
  rw [← h]; exact differ_any _ _ w
theorem FR.drewN {w : World} {l : List Nat} {wr : World} (h : FR w l wr) (n : Nat) : FR w l (wr.drewN n) := ⟨h.1, h.2.1, below_drewN h.2.2 n⟩
theorem FR.mn {w : World} {l : List Nat} {wr : World} (h : FR w l wr) (x u v d : Nat) : FR w (l.set x (min u (v + d))) (wr.setCell ⟨w.heap.size, x, none⟩ (.int .i64 (mn (u : Int) ((v : Int) + (d : Int))))) := by
  have := h.set x (min u (v + d)) rfl
  rwa [← mn_nat, Int.natCast_add] at this
set_option maxHeartbeats 3200000 in
theorem ConvolFree_walk  (w : World)  :
    Calls Try.prog 8 #[] w fun e w' => e = .returned (.bool true) ∧ Below w.heap.size w w' := by
  have hz := zero36
  go_enter Try.func8, Try.ntmps8
  go_wp2_with (refine wpList_store_row rfl 36 _ _ rfl w.heap.size (lc z64) rfl rfl 36 _ (hp_new w (.cells (lc z64) 36)) (by rw [lc_size]; kernel_rfl) rfl (by kernel_rfl) ?_)
  obtain ⟨w1, hw1⟩ : ∃ w1, (w.alloc (.cells (lc z64) 36)).setRow w.heap.size (lc z64) = w1 := ⟨_, rfl⟩
  have R1 : Hid (FR w (ini 0) w1) := Lib.hid (by rw [← hw1]; exact ⟨setRow_heap _ _ _ _ _ _ (hp_new w (.cells (lc z64) 36)), rfl, below_setRow (bl_alloc (Below.refl _ _) _) (Nat.le_refl _) _⟩)
  rw [hw1]
  clear hw1 hz
  go_wp2_with (fail)
  go_loopw [2] (fun i wr => ∃ k : Nat, k ≤ 64 ∧ i = .int .i64 k ∧ FR w (ini k) wr) (fun i _ => 64 - (intOf i).toNat)
  case atStart => exact ⟨0, by omega, rfl, R1.out⟩
  case round =>
    clear R1
    obtain ⟨k, hk, rfl, hR⟩ := hrel
    have HR := Lib.hid hR; clear hR
    by_cases hlt : k < 64
    · have c := HR.out.cell k hlt
      have f := HR.out.free k
      go_wp2_with (fail)
      refine ⟨⟨k + 1, by omega, by go_num, HR.out.set k 1000 (ini_succ k hlt)⟩, by simp [intOf]; omega⟩
    · have he : k = 64 := by omega
      subst he
      go_wp2_with (fail)
      refine (step01 _).mono ?_
      rintro e _ ⟨rfl, rfl⟩
      go_wp2_with (fail)
      refine (differ_any _ _ _).mono ?_
      rintro e _ ⟨rfl, rfl⟩
      have c := HR.out.cell 32 (by omega)
      have f := HR.out.free 32
      rw [show difI 1 0 = 2 by decide]
      go_wp2_with (fail)
      have R2 : Hid (FR w (fall f0 0).1 (wr.setCell ⟨w.heap.size, 32, none⟩ (.int .i64 2))) := Lib.hid (HR.out.set 32 2 rfl)
      obtain ⟨w2, hw2⟩ : ∃ w2, wr.setCell ⟨w.heap.size, 32, none⟩ (.int .i64 2) = w2 := ⟨_, rfl⟩
      rw [hw2] at R2 ⊢
      clear hw2 HR c f
      go_loopw [6, 7] (fun b i wr => ∃ k : Nat, k ≤ 64 ∧ i = .int .i64 k ∧ b = .int .i64 (fall f0 k).2 ∧ FR w (fall f0 k).1 wr) (fun _ i _ => 64 - (intOf i).toNat)
      case atStart => exact ⟨0, by omega, rfl, rfl, R2.out⟩
      case round =>
        clear R2
        obtain ⟨r, hr, rfl, rfl, hR⟩ := hrel
        have HR := Lib.hid hR; clear hR
        by_cases hlt2 : r < 64
        · obtain ⟨p, hp⟩ : ∃ p, Hid (p = fall f0 r) := ⟨_, Lib.hid rfl⟩
          have KP : Hid (fok p) := Lib.hid (by rw [hp.out]; exact fok_fall _ _ fok_f0)
          rw [← hp.out] at HR ⊢
          obtain ⟨wo, hwo⟩ : ∃ wo : World, wo = wr := ⟨_, rfl⟩
          subst hwo
          have dr : decide ((r : Int) < 64) = true := by simp; omega
          go_wp2_with (fail)
          go_loopw [6, 8] (fun b i wr => ∃ k : Nat, k ≤ 63 ∧ i = .int .i64 (k + 1) ∧ b = .int .i64 (fround p k).2 ∧ FR w (fround p k).1 wr) (fun _ i _ => 64 - (intOf i).toNat)
          case atStart => exact ⟨0, by omega, rfl, rfl, HR.out⟩
          case round =>
            clear HR
            obtain ⟨k, hk, rfl, rfl, hR⟩ := hrel
            have HR := Lib.hid hR; clear hR
            by_cases hlt3 : k < 63
            · obtain ⟨q, hq⟩ : ∃ q, Hid (q = fround p k) := ⟨_, Lib.hid rfl⟩
              have KQ : Hid (fok q) := Lib.hid (by rw [hq.out]; exact fok_fround _ _ KP.out)
              rw [← hq.out] at HR ⊢
              obtain ⟨s, hs⟩ : ∃ s, s = k + 1 := ⟨_, rfl⟩
              have es : ((k : Int) + 1) = (s : Int) := by omega
              rw [es]
              have ES := Lib.hid es
              have HS := Lib.hid hs
              have hs64 : s < 64 := by omega
              have hs1 : 1 ≤ s := by omega
              clear es hs
              obtain ⟨wo, hwo⟩ : ∃ wo : World, wo = wr := ⟨_, rfl⟩
              subst hwo
              have ds : decide ((s : Int) < 64) = true := by simp; omega
              go_wp2_with (fail)
              go_loopw [6, 9] (fun b i wr => ∃ k : Nat, k ≤ 2 ∧ i = .int .i64 k ∧ b = .int .i64 (fsub q s k).2 ∧ FR w (fsub q s k).1 wr) (fun _ i _ => 2 - (intOf i).toNat)
              case atStart => exact ⟨0, by omega, rfl, rfl, HR.out⟩
              case round =>
                clear HR
                obtain ⟨b, hb, rfl, rfl, hR⟩ := hrel
                have HR := Lib.hid hR; clear hR
                by_cases hlt4 : b < 2
                · obtain ⟨t, ht⟩ : ∃ t, Hid (t = fsub q s b) := ⟨_, Lib.hid rfl⟩
                  have KT : fok t := by rw [ht.out]; exact fok_fsub _ _ _ KQ.out
                  rw [← ht.out] at HR ⊢
                  obtain ⟨x, hx⟩ : ∃ x, nx s b = x := ⟨_, rfl⟩
                  have hx64 : x < 64 := by rw [← hx]; unfold nx; omega
                  obtain ⟨d, hd⟩ : ∃ d, dif s b = d := ⟨_, rfl⟩
                  have hd2 : d ≤ 2 := by rw [← hd]; exact dif_le s b
                  obtain ⟨v, hv⟩ : ∃ v, t.1.getD s 0 = v := ⟨_, rfl⟩
                  have hv2 : v ≤ 1000 := by rw [← hv]; exact KT.2.1 s
                  obtain ⟨u, hu⟩ : ∃ v, t.1.getD x 0 = v := ⟨_, rfl⟩
                  obtain ⟨y, hy⟩ : ∃ y, t.2 = y := ⟨_, rfl⟩
                  have c1 := HR.out.cell s hs64
                  have c2 := HR.out.cell x hx64
                  have f2 := HR.out.free x
                  rw [hv] at c1
                  rw [hu] at c2
                  rw [hy]
                  have eD : difI (o1 s b) (o2 s b) = (d : Int) := by rw [dif_I, hd]
                  have gmn := fun w x y => run_min_mn Try.prog w #[3, 3] 3 .i64 .i64 x y
                  have hst : Hid (fsub q s (b + 1) = if x = 0 then (t.1, min y (v + d)) else (t.1.set x (min u (v + d)), y)) := Lib.hid (by
                    rw [fsub_succ, ← ht.out]; unfold fst; rw [hx, hd, hv, hu, hy])
                  have HX := Lib.hid hx; have HD := Lib.hid hd; have HV := Lib.hid hv; have HU := Lib.hid hu; have HY := Lib.hid hy; have ED := Lib.hid eD
                  have hc := Lib.hid c1; have hc2 := Lib.hid c2; have hf2 := Lib.hid f2
                  have hx0 : x = 0 ∨ 0 < x := by omega
                  clear hx hd hv hu hy KT eD c1 c2 f2
                  rcases hx0 with h0 | h0
                  · subst h0
                    go_wp2_with (fail)
                    refine (step_at' s b hs64 hlt4 _ _ rfl rfl _ 0 _ _ HX.out rfl rfl).mono ?_
                    rintro e _ ⟨rfl, rfl⟩
                    have c1 := hc.out
                    go_wp2_with (fail)
                    go_quiet ((go_at_call 18; first | exact quiet_left (differ_d _ _ _ ED.out _) | exact quiet_add_left (differ_d _ _ _ ED.out _)))
                    go_wp2_with (fail)
                    go_roundw
                    case rel => exact ⟨b + 1, by omega, by go_num, by rw [hst.out]; show _ = Value.int _ ((min y (v + d) : Nat) : Int); rw [← mn_nat]; simp, by rw [hst.out]; exact HR.out.drewN _⟩
                    case measure => simp [intOf]; omega
                  · have g1 : ((x : Int) == 0) = false := by simp; omega
                    have g2 : ¬ (x : Int) < 0 := by omega
                    have g3 : ¬ (63 : Int) < (x : Int) := by omega
                    go_wp2_with (fail)
                    refine (step_at' s b hs64 hlt4 _ _ rfl rfl _ x _ _ HX.out rfl rfl).mono ?_
                    rintro e _ ⟨rfl, rfl⟩
                    have c1 := hc.out
                    go_wp2_with (fail)
                    go_quiet ((go_at_call 18; first | exact quiet_left (differ_d _ _ _ ED.out _) | exact quiet_add_left (differ_d _ _ _ ED.out _)))
                    clear c1
                    have c2 := hc2.out
                    have f2 := hf2.out
                    go_wp2_with (fail)
                    go_roundw
                    case rel => exact ⟨b + 1, by omega, by go_num, by rw [hst.out, if_neg (by omega)], by rw [hst.out, if_neg (by omega)]; exact (HR.out.drewN _).mn x u v d⟩
                    case measure => simp [intOf]; omega
                · have he : b = 2 := by omega
                  subst he
                  go_wp2_with (fail)
                  refine ⟨⟨k + 1, by omega, by rw [← ES.out]; go_num, ?_, ?_⟩, by simp [intOf]; omega⟩
                  · rw [fround_succ, ← hq.out, ← HS.out, ← fsub_two]
                  · rw [fround_succ, ← hq.out, ← HS.out, ← fsub_two]; exact HR.out
            · have he : k = 63 := by omega
              subst he
              go_wp2_with (fail)
              refine ⟨⟨r + 1, by omega, by go_num, ?_, ?_⟩, by simp [intOf]; omega⟩
              · rw [fall_succ, ← hp.out]
              · rw [fall_succ, ← hp.out]; exact HR.out
        · have he : r = 64 := by omega
          subst he
          rw [fall_64]
          go_wp2_with (fail)
          refine (awake_any _).mono ?_
          rintro e w3 ⟨rfl, hb3⟩
          have HB3 := Lib.hid hb3; clear hb3
          go_wp2_with (fail)
          go_ret
          exact ⟨rfl, bl_step HR.out.2.2 HB3.out⟩
end Go.Proofs.Ytaifnonamkidiaa
