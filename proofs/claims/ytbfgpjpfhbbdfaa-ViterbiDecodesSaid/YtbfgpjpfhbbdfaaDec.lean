/-
  The walk of Decode at soft values in the right number. Conditions: those.
-/
import Derived.Test.YtbfgpjpfhbbdfaaDecb
import Derived.BigRegion
import Derived.Deep.LoopGhost
namespace Go.Proofs.Ytbfgpjpfhbbdfaa
open Go.RowKit Kit
set_option linter.unusedVariables false
set_option maxRecDepth 100000 in
set_option maxHeartbeats 1600000 in
theorem dec_ok (X : List Int) (a : Option Addr) (n c k : Nat) (w : World) (hX : NS w a n c X) (hk : k ≤ 1100) (hn : n = 16 * k + 12) (hs : softL X = true) (vv : Int) (M : Nat) (hP : P X (8 * k) (8 * k + 6) 0 = some (vv, M)) :
    Calls Try.prog 11 #[.slice a n c, .int .i64 k] w fun e w' => e = .returned (.tuple #[.string (msg k M), .int .i64 vv, .int .i64 0]) ∧ Below w.heap.size w w' := by
  have HPP := Lib.hid hP
  clear hP
  have SY := Lib.hid (symbols_any k)
  have SA := Lib.hid (fun W (h : NS W a n c X) => soft_any X a n c W h)
  have EA := Lib.hid (edges_any)
  rw [hs] at SA
  have HX := Lib.hid hX
  have e0 : symN k = (n : Int) := by unfold symN; rw [if_pos (by omega)]; omega
  rw [e0] at SY
  have g0 : ¬ (k : Int) < 0 := by omega
  have g1 : ¬ (1100 : Int) < (k : Int) := by omega
  have g2 : ((n : Int) != (n : Int)) = false := by simp
  have HN := Lib.hid hn
  have hz := zero52
  have hz58 := zero58
  clear e0 hn hX
  go_enter Try.func11, Try.ntmps11
  go_wp2_with (fail)
  refine (SY.out _).mono ?_
  rintro e _ ⟨rfl, rfl⟩
  go_wp2_with (fail)
  refine (SA.out _ HX.out).mono ?_
  rintro e _ ⟨rfl, rfl⟩
  go_wp2_with (fail)
  refine (EA.out _).mono ?_
  rintro e w1 ⟨rfl, b1⟩
  have HX1 := Lib.hid (HX.out.below b1)
  have hg1 := b1.size
  have B1 := Lib.hid b1
  clear b1 HX SY SA EA g0 g1 g2
  go_wp2_with (refine wpList_store_row rfl 52 _ _ rfl w1.heap.size (afn 384 (ecell 128)) rfl rfl 52 _ (hp_new w1 (.cells (afn 384 (ecell 0)) 52)) (by rw [afn_size]; kernel_rfl) (by rw [afn_size, afn_size]) (by kernel_rfl) ?_)
  obtain ⟨w2, hw2⟩ : ∃ w2, (((w1.alloc (.cells (afn 384 (ecell 0)) 52)).setRow w1.heap.size (afn 384 (ecell 128))).alloc (.cells (afn 128 fun x => 0) 58)).alloc (.cells (afn 128 fun x => 0) 58) = w2 := ⟨_, rfl⟩
  have H0 : Hid (IN w1 w1.heap.size 0 w2) := Lib.hid (by
    have hse : ((w1.alloc (.cells (afn 384 (ecell 0)) 52)).setRow w1.heap.size (afn 384 (ecell 128))).heap.size = w1.heap.size + 1 := by simp [World.setRow]
    have e : inC 0 = fun _ => 0 := by funext j; simp [inC]
    rw [← hw2, IN, e]
    refine ⟨hp_old (hp_old (setRow_heap _ _ _ _ _ _ (hp_new w1 (.cells (afn 384 (ecell 0)) 52))) _) _, hp_old ?_ _, ?_, by simp [World.setRow], bl_alloc (bl_alloc (below_setRow (bl_alloc (Below.refl _ _) _) (Nat.le_refl _) _) _) _, Nat.le_refl _⟩
    · have := hp_new ((w1.alloc (.cells (afn 384 (ecell 0)) 52)).setRow w1.heap.size (afn 384 (ecell 128))) (.cells (afn 128 fun x => 0) 58)
      rw [hse] at this; exact this
    · have := hp_new (((w1.alloc (.cells (afn 384 (ecell 0)) 52)).setRow w1.heap.size (afn 384 (ecell 128))).alloc (.cells (afn 128 fun x => 0) 58)) (.cells (afn 128 fun x => 0) 58)
      rw [show (((w1.alloc (.cells (afn 384 (ecell 0)) 52)).setRow w1.heap.size (afn 384 (ecell 128))).alloc (.cells (afn 128 fun x => 0) 58)).heap.size = w1.heap.size + 1 + 1 by simp [World.setRow]] at this
      exact this)
  rw [hw2]
  clear hw2 hz hz58
  obtain ⟨E, hE⟩ : ∃ E, E = w1.heap.size := ⟨_, rfl⟩
  rw [← hE] at H0 ⊢
  have HE := Lib.hid hE
  clear hE
  go_loopw [42] (fun i wr => ∃ s : Nat, s ≤ 64 ∧ i = .int .i64 s ∧ IN w1 E s wr) (fun i _ => 64 - (intOf i).toNat)
  case atStart => exact ⟨0, by omega, rfl, H0.out⟩
  case round =>
    clear H0
    obtain ⟨s, hs64, rfl, hI⟩ := hrel
    have HI := Lib.hid hI
    have hsz := hI.2.2.2.1
    have C : ∀ i, i < 128 → wr.cell? ⟨E + 1, i, none⟩ = some (.int .i64 (inC s i)) := fun i hi => cell_of hI.2.1 (afn_get _ _ _ hi)
    have f1 := fun i => free_of (i := i) hI.2.1
    by_cases hlt : s < 64
    · have d0 := C (s * 2) (by omega)
      have d1 := C (s * 2 + 1) (by omega)
      generalize inC s (s * 2) = v0 at d0
      generalize inC s (s * 2 + 1) = v1 at d1
      clear hI C
      go_wp2_with (fail)
      refine ⟨⟨s + 1, by omega, by go_num, HI.out.set hlt⟩, by simp [intOf]; omega⟩
    · have he : s = 64 := by omega
      subst he
      have d0 := C 0 (by omega)
      generalize inC 64 0 = v0 at d0
      obtain ⟨N, hN⟩ : ∃ N, N = 8 * k + 6 := ⟨_, rfl⟩
      have hmk : ∀ w : World, (Instr.makeSlice 59 (.int .i64 (8 * (k : Int) + 6)) (.int .i64 (8 * (k : Int) + 6))).run Try.prog w = .ok (.slice (some ⟨w.heap.size, 0, none⟩) N N) (w.alloc (.cells (afn (64 * N) fun _ => 0) 61)) := fun w => by
        have := make59 w N (by omega)
        rw [show ((N : Nat) : Int) = 8 * (k : Int) + 6 by omega] at this
        exact this
      have HNN := Lib.hid hN
      have M0 := Lib.hid (hI.mem N)
      clear hI C hN HI
      go_wp2_with (fail)
      obtain ⟨w3, hw3⟩ : ∃ w3, (wr.setCell ⟨E + 1, 0, none⟩ (.int .i64 0)).alloc (.cells (afn (64 * N) fun x => 0) 61) = w3 := ⟨_, rfl⟩
      rw [hw3] at M0
      rw [hw3]
      clear hw3 hsz hmk f1 d0
      go_loopw [58] (fun i wr => ∃ m : Nat, m ≤ N ∧ i = .int .i64 m ∧ ∃ A R nw wy, Inv X (8 * k) m A R ∧ TBack X (8 * k) wy m ∧ Mem w1 E N (svC A R) nw wy wr) (fun i _ => N - (intOf i).toNat)
      case atStart => exact ⟨0, by omega, rfl, _, _, _, _, Inv.start _ _, fun j hj => by omega, M0.out⟩
      case round =>
        clear M0
        obtain ⟨m, hm, rfl, A, R, nw, wy, hI, hT, hM⟩ := hrel
        have HI := Lib.hid hI; have HT := Lib.hid hT; have HM := Lib.hid hM
        clear hI hT hM
        by_cases hlt : m < N
        · obtain ⟨wo, hwo⟩ : ∃ wo : World, wo = wr := ⟨_, rfl⟩
          subst hwo
          have dm : decide ((m : Int) < (N : Int)) = true := by simp; omega
          go_wp2_with (fail)
          go_loopw [64] (fun i wr => ∃ t : Nat, t ≤ 64 ∧ i = .int .i64 t ∧ Mem w1 E N (svC A R) (nwF X (8 * k) m A R nw t) (wyF X (8 * k) m A R wy t) wr) (fun i _ => 64 - (intOf i).toNat)
          case atStart => exact ⟨0, by omega, rfl, (HM.out.congrN (fun j hj => by simp [nwF])).congrY (fun j hj => by unfold wyF; rw [if_neg (by omega)])⟩
          case round =>
            clear HM
            obtain ⟨t, ht, rfl, hM⟩ := hrel
            have HM := Lib.hid hM
            have hsz : E + 1 + 1 + 1 < wr.heap.size := lt_of_obj hM.hY
            have hs2 : E + 1 + 1 < wr.heap.size := by omega
            have hs1 : E + 1 < wr.heap.size := by omega
            have hs0 : E < wr.heap.size := by omega
            obtain ⟨C1, C2, C3, C4⟩ := hM.cell
            have HC1 := Lib.hid C1; have HC2 := Lib.hid C2; have HC3 := Lib.hid C3; have HC4 := Lib.hid C4
            clear hM C1 C2 C3 C4
            by_cases hlt2 : t < 64
            · have dt : decide ((t : Int) < 64) = true := by simp; omega
              have d0 := HC1.out (t * 6) (by omega)
              have d1 := HC1.out (t * 6 + 1) (by omega)
              have d2 := HC1.out (t * 6 + 2) (by omega)
              have d3 := HC1.out (t * 6 + 3) (by omega)
              have d4 := HC1.out (t * 6 + 4) (by omega)
              have d5 := HC1.out (t * 6 + 5) (by omega)
              obtain ⟨p0, hp0⟩ : ∃ p0, p0 = 2 * (t % 32) := ⟨_, rfl⟩
              obtain ⟨p1, hp1⟩ : ∃ p1, p1 = 2 * (t % 32) + 1 := ⟨_, rfl⟩
              obtain ⟨k0, k1, k2, k3, k4, k5⟩ := ecell_at t p0 p1 hlt2 hp0 hp1
              rw [k0] at d0; rw [k1] at d1; rw [k2] at d2; rw [k3] at d3; rw [k4] at d4; rw [k5] at d5
              have hp064 : p0 < 64 := by omega
              have hp164 : p1 < 64 := by omega
              have HP0 := Lib.hid hp0; have HP1 := Lib.hid hp1
              clear k0 k1 k2 k3 k4 k5 hp0 hp1
              have b0 := o1_lt p0 (t / 32)
              have b1 := o2_lt p0 (t / 32)
              have b2 := o1_lt p1 (t / 32)
              have b3 := o2_lt p1 (t / 32)
              obtain ⟨f0, hf0⟩ : ∃ f, f = o1 p0 (t / 32) := ⟨_, rfl⟩
              obtain ⟨g0, hg0⟩ : ∃ f, f = o2 p0 (t / 32) := ⟨_, rfl⟩
              obtain ⟨f1, hf1⟩ : ∃ f, f = o1 p1 (t / 32) := ⟨_, rfl⟩
              obtain ⟨g1, hg1'⟩ : ∃ f, f = o2 p1 (t / 32) := ⟨_, rfl⟩
              rw [← hf0] at d1 b0; rw [← hg0] at d2 b1; rw [← hf1] at d4 b2; rw [← hg1'] at d5 b3
              have EF0 := Lib.hid hf0; have EG0 := Lib.hid hg0; have EF1 := Lib.hid hf1; have EG1 := Lib.hid hg1'
              clear hf0 hg0 hf1 hg1'
              go_wp2_with (fail)
              obtain ⟨Bb, hBb⟩ : ∃ Bb, wr.heap.size = Bb := ⟨_, rfl⟩
              obtain ⟨wb, hwb⟩ : ∃ wb, wr.alloc (Obj.cells #[Value.int IntKind.i64 (-2199023255552), Value.int IntKind.i64 0] 57) = wb := ⟨_, rfl⟩
              have HB0 : Hid (wb.heap[Bb]? = some (.cells #[.int .i64 (bstJ X (8 * k) m A R t 0).1, .int .i64 (bstJ X (8 * k) m A R t 0).2] 57)) := Lib.hid (by rw [← hwb, ← hBb]; exact hp_new _ _)
              have HM0 : Hid (Mem w1 E N (svC A R) (nwF X (8 * k) m A R nw t) (wyJ X (8 * k) m A R wy t 0) wb) := Lib.hid (by rw [← hwb]; exact (HM.out.alloc _).congrY (fun j hj => by unfold wyJ; rw [if_neg (by omega)]))
              rw [hwb]
              rw [hBb] at hsz hs2 hs1 hs0 ⊢
              clear hwb hBb HM HC1 HC2 HC3 HC4 d0 d1 d2 d3 d4 d5
              go_loopw [71] (fun i wr => ∃ j : Nat, j ≤ 2 ∧ i = .int .i64 j ∧ wr.heap[Bb]? = some (.cells #[.int .i64 (bstJ X (8 * k) m A R t j).1, .int .i64 (bstJ X (8 * k) m A R t j).2] 57) ∧ Mem w1 E N (svC A R) (nwF X (8 * k) m A R nw t) (wyJ X (8 * k) m A R wy t j) wr) (fun i _ => 2 - (intOf i).toNat)
              case atStart => exact ⟨0, by omega, rfl, HB0.out, HM0.out⟩
              case round =>
                clear HB0 HM0
                obtain ⟨j, hj, rfl, hB, hM⟩ := hrel
                obtain ⟨bs, hbs⟩ : ∃ bs, bs = (bstJ X (8 * k) m A R t j).1 := ⟨_, rfl⟩
                obtain ⟨br, hbr⟩ : ∃ br, br = (bstJ X (8 * k) m A R t j).2 := ⟨_, rfl⟩
                rw [← hbs, ← hbr] at hB
                have HBS := Lib.hid hbs; have HBR := Lib.hid hbr
                clear hbs hbr
                have HB := Lib.hid hB; have HM := Lib.hid hM
                have hsb : Bb < wr.heap.size := lt_of_obj hB
                have hs3 : E + 1 + 1 + 1 < wr.heap.size := by omega
                have hs2' : E + 1 + 1 < wr.heap.size := by omega
                have hs1' : E + 1 < wr.heap.size := by omega
                have hs0' : E < wr.heap.size := by omega
                obtain ⟨_, C2, C3, C4⟩ := hM.cell
                have y0 : wr.cell? ⟨Bb, 0, none⟩ = some (.int .i64 bs) := cell_of (i := 0) hB rfl
                have y1 : wr.cell? ⟨Bb, 1, none⟩ = some (.int .i64 br) := cell_of (i := 1) hB rfl
                have f4 := fun i => free_of (i := i) hM.hY
                have f5 := fun i => free_of (i := i) hB
                have c4 := C4 (m * 64 + t) (by omega)
                generalize wyJ X (8 * k) m A R wy t j (m * 64 + t) = vy at c4
                have HC2 := Lib.hid C2
                clear C2 C3 C4
                obtain ⟨u, hu⟩ : ∃ u, u = 2 * m := ⟨_, rfl⟩
                obtain ⟨u1, hu1⟩ : ∃ u1, u1 = 2 * m + 1 := ⟨_, rfl⟩
                have hun : u < n := by rw [HN.out]; have := HNN.out; omega
                have hun1 : u1 < n := by rw [HN.out]; have := HNN.out; omega
                have X5 : IntKind.i64.wrap (2 * (m : Int)) = (u : Int) := by rw [IntWalk.i64_in _ (by have := HNN.out; omega)]; omega
                have X6 : IntKind.i64.wrap ((u : Int) + 1) = (u1 : Int) := by rw [IntWalk.i64_in _ (by have := HNN.out; omega)]; omega
                have X5' : wrap64 (2 * (m : Int)) = (u : Int) := by rw [IntWalk.wrap64_in _ (by have := HNN.out; omega)]; omega
                have X6' : wrap64 ((u : Int) + 1) = (u1 : Int) := by rw [IntWalk.wrap64_in _ (by have := HNN.out; omega)]; omega
                obtain ⟨b, off, rfl, hbl, lv0⟩ := HX1.out.2.2.2 u hun
                obtain ⟨b', off', hb', _, lv1⟩ := HX1.out.2.2.2 u1 hun1
                have HU := Lib.hid hu; have HU1 := Lib.hid hu1
                clear hu hu1
                simp only [Option.some.injEq, Addr.mk.injEq, and_true] at hb'
                obtain ⟨rfl, rfl⟩ := hb'
                have hbl' : b < wr.heap.size := Nat.lt_of_lt_of_le hbl hM.below.size
                have bv0 := soft_at hs (i := u) (by rw [← HX1.out.1]; exact hun)
                have bv1 := soft_at hs (i := u1) (by rw [← HX1.out.1]; exact hun1)
                have EWD : Hid (∀ p q, eW X m p q = (o1 p q : Int) * pv X u + (o2 p q : Int) * pv X u1) := Lib.hid (by rw [HU.out, HU1.out]; exact fun _ _ => rfl)
                generalize pv X u = v0 at *
                generalize pv X u1 = v1 at *
                have BA : Hid (∀ p, p < 64 → lst - 16 * (m : Int) ≤ A p ∧ A p ≤ 16 * (m : Int)) := Lib.hid (HI.out.bound hs (by rw [← HX1.out.1, HN.out]; have := HNN.out; omega))
                have LV0 := Lib.hid lv0; have LV1 := Lib.hid lv1
                clear lv0 lv1 hM hB
                have hj3 : j = 0 ∨ j = 1 ∨ j = 2 := by omega
                rcases hj3 with rfl | rfl | rfl
                · skip
                  have w0 := HC2.out (p0 * 2) (by omega)
                  have w1' := HC2.out (p0 * 2 + 1) (by omega)
                  rw [svC_at.1] at w0
                  rw [svC_at.2] at w1'
                  obtain ⟨ba1, ba2⟩ := BA.out p0 hp064
                  obtain ⟨sA, hsA⟩ : ∃ sA, sA = A p0 := ⟨_, rfl⟩
                  rw [← hsA] at w0 ba1 ba2
                  have HSA := Lib.hid hsA
                  clear hsA
                  unfold lst at ba1
                  obtain ⟨W1, W2, W3, W4⟩ := wraps sA v0 v1 f0 g0 m (by have := HNN.out; omega) b0 b1 bv0 bv1 ba1 ba2
                  have IX := fun w => (index51 w (.int .i64 p0) (.int .i64 f0) (.int .i64 g0) (.int .i64 p1) (.int .i64 f1) (.int .i64 g1)).1
                  clear HC2
                  go_wp2_with (fail)
                  clear IX w0 w1' y0 y1 f4 f5 c4
                  obtain ⟨S, hS⟩ : ∃ S, wr.heap.size = S := ⟨_, rfl⟩
                  obtain ⟨wq, hwq⟩ : ∃ wq, (wr.alloc (.cells #[.int .i64 p0, .int .i64 f0, .int .i64 g0] 50)).alloc (.cells #[.int .i64 sA, .int .i64 (R p0)] 57) = wq := ⟨_, rfl⟩
                  rw [hwq]
                  have Q1 : Hid (wq.heap[S]? = some (.cells #[.int .i64 p0, .int .i64 f0, .int .i64 g0] 50)) := Lib.hid (by rw [← hwq, ← hS]; exact hp_old (hp_new _ _) _)
                  have Q2 : Hid (wq.heap[S + 1]? = some (.cells #[.int .i64 sA, .int .i64 (R p0)] 57)) := Lib.hid (by rw [← hwq, ← hS]; have := hp_new (wr.alloc (.cells #[.int .i64 p0, .int .i64 f0, .int .i64 g0] 50)) (.cells #[.int .i64 sA, .int .i64 (R p0)] 57); simpa using this)
                  have Q3 : Hid (wq.heap[Bb]? = some (.cells #[.int .i64 bs, .int .i64 br] 57)) := Lib.hid (by rw [← hwq]; exact hp_old (hp_old HB.out _) _)
                  have Q4 : Hid (Mem w1 E N (svC A R) (nwF X (8 * k) m A R nw t) (wyJ X (8 * k) m A R wy t 0) wq) := Lib.hid (by rw [← hwq]; exact (HM.out.alloc _).alloc _)
                  rw [hS] at hsb hs3 hs2' hs1' hs0' hbl' ⊢
                  clear hwq hS HB HM
                  have q0 : wq.cell? ⟨S, 0, none⟩ = some (.int .i64 p0) := cell_of Q1.out rfl
                  have q1 : wq.cell? ⟨S, 1, none⟩ = some (.int .i64 f0) := cell_of Q1.out rfl
                  have q2 : wq.cell? ⟨S, 2, none⟩ = some (.int .i64 g0) := cell_of Q1.out rfl
                  have q3 : wq.cell? ⟨S + 1, 0, none⟩ = some (.int .i64 sA) := cell_of Q2.out rfl
                  have q3b : wq.cell? ⟨S + 1, 1, none⟩ = some (.int .i64 (R p0)) := cell_of Q2.out rfl
                  have q4 : ∀ i, wq.frozen? ⟨S + 1, i, none⟩ = false := fun i => free_of Q2.out
                  have q5 := (Q4.out.below.cell (p := ⟨b, off + u, none⟩) hbl).trans LV0.out
                  have q6 := (Q4.out.below.cell (p := ⟨b, off + u1, none⟩) hbl).trans LV1.out
                  have q7 : wq.cell? ⟨Bb, 0, none⟩ = some (.int .i64 bs) := cell_of Q3.out rfl
                  have q8 : wq.cell? ⟨Bb, 1, none⟩ = some (.int .i64 br) := cell_of Q3.out rfl
                  have EE : Hid (eW X m p0 (t / 32) = (f0 : Int) * v0 + (g0 : Int) * v1) := Lib.hid (by rw [EWD.out, EF0.out, EG0.out])
                  have EB := wsum v0 v1 f0 g0 b0 b1 bv0 bv1
                  refine region_still_tail 22 (by kernel_rfl) (by kernel_rfl) ?_
                  simp only [List.take_succ_cons, List.take_zero, List.drop_succ_cons, List.drop_zero]
                  (repeat still_step)
                  refine wpStill_nil ?_
                  clear q0 q1 q2 q5 q6 W1 W2 W3 W4
                  generalize hev : (f0 : Int) * v0 + (g0 : Int) * v1 = ev at *
                  have HEV := Lib.hid hev
                  clear hev
                  rcases tail3 (8 * k) m t with ⟨hT, h32⟩ | ⟨hT, h32⟩ | hT
                  · have d8 : decide (8 * (k : Int) ≤ (m : Int)) = true := by simp; omega
                    have d32 : decide ((32 : Int) ≤ (t : Int)) = true := by simp; omega
                    have YS : Hid (((-1099511627776) : Int) = yS X (8 * k) m A t p0) := Lib.hid (by unfold yS; rw [if_pos ⟨hT, h32⟩]; rfl)
                    have WT : Hid (worse (bs, br) ((-1099511627776), (R p0 : Int)) = true) := Lib.hid (by unfold worse; have := HBS.out; have := HNN.out; unfold bstJ lst at *; simp only at *; simp; omega)
                    clear hT h32
                    go_wp2_with (fail)
                    obtain ⟨wp, hwp⟩ : ∃ wp, ((wq.setCell ⟨S + 1, 0, none⟩ (.int .i64 (sA + ev))).setCell ⟨S + 1, 0, none⟩ (.int .i64 (-1099511627776))).drew = wp := ⟨_, rfl⟩
                    rw [hwp]
                    have P1 : Hid (wp.heap[S]? = some (.cells #[.int .i64 p0, .int .i64 f0, .int .i64 g0] 50)) := Lib.hid (by rw [← hwp]; exact hp_drew (hp_set_ne (hp_set_ne Q1.out (by omega) _) (by omega) _))
                    have P2 : Hid (wp.heap[S + 1]? = some (.cells #[.int .i64 (-1099511627776), .int .i64 (R p0)] 57)) := Lib.hid (by rw [← hwp]; have := hp_drew (hp_set (i := 0) (hp_set (i := 0) Q2.out (Value.int .i64 (sA + ev))) (Value.int .i64 (-1099511627776))); simpa using this)
                    have P3 : Hid (wp.heap[Bb]? = some (.cells #[.int .i64 bs, .int .i64 br] 57)) := Lib.hid (by rw [← hwp]; exact hp_drew (hp_set_ne (hp_set_ne Q3.out (by omega) _) (by omega) _))
                    have P4 : Hid (Mem w1 E N (svC A R) (nwF X (8 * k) m A R nw t) (wyJ X (8 * k) m A R wy t 0) wp) := Lib.hid (by rw [← hwp]; exact ((Q4.out.set (S + 1) 0 (by omega) _).set (S + 1) 0 (by omega) _).drewN 1)
                    clear hwp Q1 Q2 Q3 Q4 q3 q3b q4 q7 q8 d8 d32
                    refine (before_any _ _ _ _ _).mono ?_
                    rintro e w5 ⟨rfl, bel⟩
                    rw [WT.out]
                    have V1 := Lib.hid (below_keeps bel P1.out (lt_of_obj P1.out))
                    have V2 := Lib.hid (below_keeps bel P2.out (lt_of_obj P2.out))
                    have V3 := Lib.hid (below_keeps bel P3.out (lt_of_obj P3.out))
                    have V4 := Lib.hid (P4.out.step bel)
                    clear bel P1 P2 P3 P4
                    have z0 : w5.cell? ⟨S, 0, none⟩ = some (.int .i64 p0) := cell_of V1.out rfl
                    have z1 : w5.cell? ⟨S + 1, 0, none⟩ = some (.int .i64 (-1099511627776)) := cell_of V2.out rfl
                    have z2 : w5.cell? ⟨S + 1, 1, none⟩ = some (.int .i64 (R p0)) := cell_of V2.out rfl
                    have z3 : w5.cell? ⟨Bb, 0, none⟩ = some (.int .i64 bs) := cell_of V3.out rfl
                    have z4 : w5.cell? ⟨Bb, 1, none⟩ = some (.int .i64 br) := cell_of V3.out rfl
                    have z5 : ∀ i, w5.frozen? ⟨Bb, i, none⟩ = false := fun i => free_of V3.out
                    have z6 := V4.out.cell.2.2.2 (m * 64 + t) (by omega)
                    generalize wyJ X (8 * k) m A R wy t 0 (m * 64 + t) = vy at z6
                    have z7 : ∀ i, w5.frozen? ⟨E + 1 + 1 + 1, i, none⟩ = false := fun i => free_of V4.out.hY
                    go_wp2_with (fail)
                    go_region
                    all_goals (go_wp2_with (fail))
                    have C := take_it V4.out V3.out hsz ((-1099511627776)) (R p0 : Int) (m * 64 + t) (p0 : Int)
                    refine ⟨⟨1, by omega, rfl, ?_, C.2.congrY (fun q hq => wyJ_one X (8 * k) m A R wy t p0 q HP0.out)⟩, by simp [intOf]⟩
                    rw [C.1, bst_one X (8 * k) m A R t p0 _ HP0.out YS.out]
                  · have d8 : decide (8 * (k : Int) ≤ (m : Int)) = true := by simp; omega
                    have d32 : decide ((32 : Int) ≤ (t : Int)) = false := by simp; omega
                    have YS : Hid (((sA + ev) : Int) = yS X (8 * k) m A t p0) := Lib.hid (by unfold yS; rw [if_neg (by omega), EE.out, HSA.out])
                    have WT : Hid (worse (bs, br) ((sA + ev), (R p0 : Int)) = true) := Lib.hid (by unfold worse; have := HBS.out; have := HNN.out; unfold bstJ lst at *; simp only at *; simp; omega)
                    clear hT h32
                    go_wp2_with (fail)
                    obtain ⟨wp, hwp⟩ : ∃ wp, (wq.setCell ⟨S + 1, 0, none⟩ (.int .i64 (sA + ev))).drew = wp := ⟨_, rfl⟩
                    rw [hwp]
                    have P1 : Hid (wp.heap[S]? = some (.cells #[.int .i64 p0, .int .i64 f0, .int .i64 g0] 50)) := Lib.hid (by rw [← hwp]; exact hp_drew (hp_set_ne Q1.out (by omega) _))
                    have P2 : Hid (wp.heap[S + 1]? = some (.cells #[.int .i64 (sA + ev), .int .i64 (R p0)] 57)) := Lib.hid (by rw [← hwp]; have := hp_drew (hp_set (i := 0) Q2.out (Value.int .i64 (sA + ev))); simpa using this)
                    have P3 : Hid (wp.heap[Bb]? = some (.cells #[.int .i64 bs, .int .i64 br] 57)) := Lib.hid (by rw [← hwp]; exact hp_drew (hp_set_ne Q3.out (by omega) _))
                    have P4 : Hid (Mem w1 E N (svC A R) (nwF X (8 * k) m A R nw t) (wyJ X (8 * k) m A R wy t 0) wp) := Lib.hid (by rw [← hwp]; exact (Q4.out.set (S + 1) 0 (by omega) _).drewN 1)
                    clear hwp Q1 Q2 Q3 Q4 q3 q3b q4 q7 q8 d8 d32
                    refine (before_any _ _ _ _ _).mono ?_
                    rintro e w5 ⟨rfl, bel⟩
                    rw [WT.out]
                    have V1 := Lib.hid (below_keeps bel P1.out (lt_of_obj P1.out))
                    have V2 := Lib.hid (below_keeps bel P2.out (lt_of_obj P2.out))
                    have V3 := Lib.hid (below_keeps bel P3.out (lt_of_obj P3.out))
                    have V4 := Lib.hid (P4.out.step bel)
                    clear bel P1 P2 P3 P4
                    have z0 : w5.cell? ⟨S, 0, none⟩ = some (.int .i64 p0) := cell_of V1.out rfl
                    have z1 : w5.cell? ⟨S + 1, 0, none⟩ = some (.int .i64 (sA + ev)) := cell_of V2.out rfl
                    have z2 : w5.cell? ⟨S + 1, 1, none⟩ = some (.int .i64 (R p0)) := cell_of V2.out rfl
                    have z3 : w5.cell? ⟨Bb, 0, none⟩ = some (.int .i64 bs) := cell_of V3.out rfl
                    have z4 : w5.cell? ⟨Bb, 1, none⟩ = some (.int .i64 br) := cell_of V3.out rfl
                    have z5 : ∀ i, w5.frozen? ⟨Bb, i, none⟩ = false := fun i => free_of V3.out
                    have z6 := V4.out.cell.2.2.2 (m * 64 + t) (by omega)
                    generalize wyJ X (8 * k) m A R wy t 0 (m * 64 + t) = vy at z6
                    have z7 : ∀ i, w5.frozen? ⟨E + 1 + 1 + 1, i, none⟩ = false := fun i => free_of V4.out.hY
                    go_wp2_with (fail)
                    go_region
                    all_goals (go_wp2_with (fail))
                    have C := take_it V4.out V3.out hsz ((sA + ev)) (R p0 : Int) (m * 64 + t) (p0 : Int)
                    refine ⟨⟨1, by omega, rfl, ?_, C.2.congrY (fun q hq => wyJ_one X (8 * k) m A R wy t p0 q HP0.out)⟩, by simp [intOf]⟩
                    rw [C.1, bst_one X (8 * k) m A R t p0 _ HP0.out YS.out]
                  · have d8 : decide (8 * (k : Int) ≤ (m : Int)) = false := by simp; omega
                    have YS : Hid (((sA + ev) : Int) = yS X (8 * k) m A t p0) := Lib.hid (by unfold yS; rw [if_neg (by omega), EE.out, HSA.out])
                    have WT : Hid (worse (bs, br) ((sA + ev), (R p0 : Int)) = true) := Lib.hid (by unfold worse; have := HBS.out; have := HNN.out; unfold bstJ lst at *; simp only at *; simp; omega)
                    clear hT
                    go_wp2_with (fail)
                    obtain ⟨wp, hwp⟩ : ∃ wp, (wq.setCell ⟨S + 1, 0, none⟩ (.int .i64 (sA + ev))).drew = wp := ⟨_, rfl⟩
                    rw [hwp]
                    have P1 : Hid (wp.heap[S]? = some (.cells #[.int .i64 p0, .int .i64 f0, .int .i64 g0] 50)) := Lib.hid (by rw [← hwp]; exact hp_drew (hp_set_ne Q1.out (by omega) _))
                    have P2 : Hid (wp.heap[S + 1]? = some (.cells #[.int .i64 (sA + ev), .int .i64 (R p0)] 57)) := Lib.hid (by rw [← hwp]; have := hp_drew (hp_set (i := 0) Q2.out (Value.int .i64 (sA + ev))); simpa using this)
                    have P3 : Hid (wp.heap[Bb]? = some (.cells #[.int .i64 bs, .int .i64 br] 57)) := Lib.hid (by rw [← hwp]; exact hp_drew (hp_set_ne Q3.out (by omega) _))
                    have P4 : Hid (Mem w1 E N (svC A R) (nwF X (8 * k) m A R nw t) (wyJ X (8 * k) m A R wy t 0) wp) := Lib.hid (by rw [← hwp]; exact (Q4.out.set (S + 1) 0 (by omega) _).drewN 1)
                    clear hwp Q1 Q2 Q3 Q4 q3 q3b q4 q7 q8 d8
                    refine (before_any _ _ _ _ _).mono ?_
                    rintro e w5 ⟨rfl, bel⟩
                    rw [WT.out]
                    have V1 := Lib.hid (below_keeps bel P1.out (lt_of_obj P1.out))
                    have V2 := Lib.hid (below_keeps bel P2.out (lt_of_obj P2.out))
                    have V3 := Lib.hid (below_keeps bel P3.out (lt_of_obj P3.out))
                    have V4 := Lib.hid (P4.out.step bel)
                    clear bel P1 P2 P3 P4
                    have z0 : w5.cell? ⟨S, 0, none⟩ = some (.int .i64 p0) := cell_of V1.out rfl
                    have z1 : w5.cell? ⟨S + 1, 0, none⟩ = some (.int .i64 (sA + ev)) := cell_of V2.out rfl
                    have z2 : w5.cell? ⟨S + 1, 1, none⟩ = some (.int .i64 (R p0)) := cell_of V2.out rfl
                    have z3 : w5.cell? ⟨Bb, 0, none⟩ = some (.int .i64 bs) := cell_of V3.out rfl
                    have z4 : w5.cell? ⟨Bb, 1, none⟩ = some (.int .i64 br) := cell_of V3.out rfl
                    have z5 : ∀ i, w5.frozen? ⟨Bb, i, none⟩ = false := fun i => free_of V3.out
                    have z6 := V4.out.cell.2.2.2 (m * 64 + t) (by omega)
                    generalize wyJ X (8 * k) m A R wy t 0 (m * 64 + t) = vy at z6
                    have z7 : ∀ i, w5.frozen? ⟨E + 1 + 1 + 1, i, none⟩ = false := fun i => free_of V4.out.hY
                    go_wp2_with (fail)
                    go_region
                    all_goals (go_wp2_with (fail))
                    have C := take_it V4.out V3.out hsz ((sA + ev)) (R p0 : Int) (m * 64 + t) (p0 : Int)
                    refine ⟨⟨1, by omega, rfl, ?_, C.2.congrY (fun q hq => wyJ_one X (8 * k) m A R wy t p0 q HP0.out)⟩, by simp [intOf]⟩
                    rw [C.1, bst_one X (8 * k) m A R t p0 _ HP0.out YS.out]
                · skip
                  have w0 := HC2.out (p1 * 2) (by omega)
                  have w1' := HC2.out (p1 * 2 + 1) (by omega)
                  rw [svC_at.1] at w0
                  rw [svC_at.2] at w1'
                  obtain ⟨ba1, ba2⟩ := BA.out p1 hp164
                  obtain ⟨sA, hsA⟩ : ∃ sA, sA = A p1 := ⟨_, rfl⟩
                  rw [← hsA] at w0 ba1 ba2
                  have HSA := Lib.hid hsA
                  clear hsA
                  unfold lst at ba1
                  obtain ⟨W1, W2, W3, W4⟩ := wraps sA v0 v1 f1 g1 m (by have := HNN.out; omega) b2 b3 bv0 bv1 ba1 ba2
                  have IX := fun w => (index51 w (.int .i64 p0) (.int .i64 f0) (.int .i64 g0) (.int .i64 p1) (.int .i64 f1) (.int .i64 g1)).2
                  clear HC2
                  go_wp2_with (fail)
                  clear IX w0 w1' y0 y1 f4 f5 c4
                  obtain ⟨S, hS⟩ : ∃ S, wr.heap.size = S := ⟨_, rfl⟩
                  obtain ⟨wq, hwq⟩ : ∃ wq, (wr.alloc (.cells #[.int .i64 p1, .int .i64 f1, .int .i64 g1] 50)).alloc (.cells #[.int .i64 sA, .int .i64 (R p1)] 57) = wq := ⟨_, rfl⟩
                  rw [hwq]
                  have Q1 : Hid (wq.heap[S]? = some (.cells #[.int .i64 p1, .int .i64 f1, .int .i64 g1] 50)) := Lib.hid (by rw [← hwq, ← hS]; exact hp_old (hp_new _ _) _)
                  have Q2 : Hid (wq.heap[S + 1]? = some (.cells #[.int .i64 sA, .int .i64 (R p1)] 57)) := Lib.hid (by rw [← hwq, ← hS]; have := hp_new (wr.alloc (.cells #[.int .i64 p1, .int .i64 f1, .int .i64 g1] 50)) (.cells #[.int .i64 sA, .int .i64 (R p1)] 57); simpa using this)
                  have Q3 : Hid (wq.heap[Bb]? = some (.cells #[.int .i64 bs, .int .i64 br] 57)) := Lib.hid (by rw [← hwq]; exact hp_old (hp_old HB.out _) _)
                  have Q4 : Hid (Mem w1 E N (svC A R) (nwF X (8 * k) m A R nw t) (wyJ X (8 * k) m A R wy t 1) wq) := Lib.hid (by rw [← hwq]; exact (HM.out.alloc _).alloc _)
                  rw [hS] at hsb hs3 hs2' hs1' hs0' hbl' ⊢
                  clear hwq hS HB HM
                  have q0 : wq.cell? ⟨S, 0, none⟩ = some (.int .i64 p1) := cell_of Q1.out rfl
                  have q1 : wq.cell? ⟨S, 1, none⟩ = some (.int .i64 f1) := cell_of Q1.out rfl
                  have q2 : wq.cell? ⟨S, 2, none⟩ = some (.int .i64 g1) := cell_of Q1.out rfl
                  have q3 : wq.cell? ⟨S + 1, 0, none⟩ = some (.int .i64 sA) := cell_of Q2.out rfl
                  have q3b : wq.cell? ⟨S + 1, 1, none⟩ = some (.int .i64 (R p1)) := cell_of Q2.out rfl
                  have q4 : ∀ i, wq.frozen? ⟨S + 1, i, none⟩ = false := fun i => free_of Q2.out
                  have q5 := (Q4.out.below.cell (p := ⟨b, off + u, none⟩) hbl).trans LV0.out
                  have q6 := (Q4.out.below.cell (p := ⟨b, off + u1, none⟩) hbl).trans LV1.out
                  have q7 : wq.cell? ⟨Bb, 0, none⟩ = some (.int .i64 bs) := cell_of Q3.out rfl
                  have q8 : wq.cell? ⟨Bb, 1, none⟩ = some (.int .i64 br) := cell_of Q3.out rfl
                  have EE : Hid (eW X m p1 (t / 32) = (f1 : Int) * v0 + (g1 : Int) * v1) := Lib.hid (by rw [EWD.out, EF1.out, EG1.out])
                  have EB := wsum v0 v1 f1 g1 b2 b3 bv0 bv1
                  refine region_still_tail 22 (by kernel_rfl) (by kernel_rfl) ?_
                  simp only [List.take_succ_cons, List.take_zero, List.drop_succ_cons, List.drop_zero]
                  (repeat still_step)
                  refine wpStill_nil ?_
                  clear q0 q1 q2 q5 q6 W1 W2 W3 W4
                  generalize hev : (f1 : Int) * v0 + (g1 : Int) * v1 = ev at *
                  have HEV := Lib.hid hev
                  clear hev
                  rcases tail3 (8 * k) m t with ⟨hT, h32⟩ | ⟨hT, h32⟩ | hT
                  · have d8 : decide (8 * (k : Int) ≤ (m : Int)) = true := by simp; omega
                    have d32 : decide ((32 : Int) ≤ (t : Int)) = true := by simp; omega
                    have YS : Hid (((-1099511627776) : Int) = yS X (8 * k) m A t p1) := Lib.hid (by unfold yS; rw [if_pos ⟨hT, h32⟩]; rfl)
                    clear hT h32
                    go_wp2_with (fail)
                    obtain ⟨wp, hwp⟩ : ∃ wp, ((wq.setCell ⟨S + 1, 0, none⟩ (.int .i64 (sA + ev))).setCell ⟨S + 1, 0, none⟩ (.int .i64 (-1099511627776))).drew = wp := ⟨_, rfl⟩
                    rw [hwp]
                    have P1 : Hid (wp.heap[S]? = some (.cells #[.int .i64 p1, .int .i64 f1, .int .i64 g1] 50)) := Lib.hid (by rw [← hwp]; exact hp_drew (hp_set_ne (hp_set_ne Q1.out (by omega) _) (by omega) _))
                    have P2 : Hid (wp.heap[S + 1]? = some (.cells #[.int .i64 (-1099511627776), .int .i64 (R p1)] 57)) := Lib.hid (by rw [← hwp]; have := hp_drew (hp_set (i := 0) (hp_set (i := 0) Q2.out (Value.int .i64 (sA + ev))) (Value.int .i64 (-1099511627776))); simpa using this)
                    have P3 : Hid (wp.heap[Bb]? = some (.cells #[.int .i64 bs, .int .i64 br] 57)) := Lib.hid (by rw [← hwp]; exact hp_drew (hp_set_ne (hp_set_ne Q3.out (by omega) _) (by omega) _))
                    have P4 : Hid (Mem w1 E N (svC A R) (nwF X (8 * k) m A R nw t) (wyJ X (8 * k) m A R wy t 1) wp) := Lib.hid (by rw [← hwp]; exact ((Q4.out.set (S + 1) 0 (by omega) _).set (S + 1) 0 (by omega) _).drewN 1)
                    clear hwp Q1 Q2 Q3 Q4 q3 q3b q4 q7 q8 d8 d32
                    refine (before_any _ _ _ _ _).mono ?_
                    rintro e w5 ⟨rfl, bel⟩
                    have YS0 : Hid (bs = yS X (8 * k) m A t p0) := Lib.hid (by rw [HBS.out, HP0.out]; rfl)
                    have BR0 : Hid (br = (R p0 : Int)) := Lib.hid (by rw [HBR.out, HP0.out]; rfl)
                    rcases hW : worse (bs, br) ((-1099511627776), (R p1 : Int)) with _ | _
                    · have V1 := Lib.hid (below_keeps bel P1.out (lt_of_obj P1.out))
                      have V2 := Lib.hid (below_keeps bel P2.out (lt_of_obj P2.out))
                      have V3 := Lib.hid (below_keeps bel P3.out (lt_of_obj P3.out))
                      have V4 := Lib.hid (P4.out.step bel)
                      clear bel P1 P2 P3 P4
                      have z0 : w5.cell? ⟨S, 0, none⟩ = some (.int .i64 p1) := cell_of V1.out rfl
                      have z1 : w5.cell? ⟨S + 1, 0, none⟩ = some (.int .i64 (-1099511627776)) := cell_of V2.out rfl
                      have z2 : w5.cell? ⟨S + 1, 1, none⟩ = some (.int .i64 (R p1)) := cell_of V2.out rfl
                      have z3 : w5.cell? ⟨Bb, 0, none⟩ = some (.int .i64 bs) := cell_of V3.out rfl
                      have z4 : w5.cell? ⟨Bb, 1, none⟩ = some (.int .i64 br) := cell_of V3.out rfl
                      have z5 : ∀ i, w5.frozen? ⟨Bb, i, none⟩ = false := fun i => free_of V3.out
                      have z6 := V4.out.cell.2.2.2 (m * 64 + t) (by omega)
                      generalize wyJ X (8 * k) m A R wy t 1 (m * 64 + t) = vy at z6
                      have z7 : ∀ i, w5.frozen? ⟨E + 1 + 1 + 1, i, none⟩ = false := fun i => free_of V4.out.hY
                      go_wp2_with (fail)
                      have FR := frm_no HP0.out HP1.out YS0.out YS.out (by rw [← BR0.out]; exact hW)
                      refine ⟨⟨2, by omega, rfl, ?_, V4.out.congrY (fun q hq => wyJ_stay X (8 * k) m A R wy t q FR)⟩, by simp [intOf]⟩
                      rw [V3.out, bst_two X (8 * k) m A R t p0 _ (HP0.out.trans FR) YS0.out, BR0.out]
                    · have V1 := Lib.hid (below_keeps bel P1.out (lt_of_obj P1.out))
                      have V2 := Lib.hid (below_keeps bel P2.out (lt_of_obj P2.out))
                      have V3 := Lib.hid (below_keeps bel P3.out (lt_of_obj P3.out))
                      have V4 := Lib.hid (P4.out.step bel)
                      clear bel P1 P2 P3 P4
                      have z0 : w5.cell? ⟨S, 0, none⟩ = some (.int .i64 p1) := cell_of V1.out rfl
                      have z1 : w5.cell? ⟨S + 1, 0, none⟩ = some (.int .i64 (-1099511627776)) := cell_of V2.out rfl
                      have z2 : w5.cell? ⟨S + 1, 1, none⟩ = some (.int .i64 (R p1)) := cell_of V2.out rfl
                      have z3 : w5.cell? ⟨Bb, 0, none⟩ = some (.int .i64 bs) := cell_of V3.out rfl
                      have z4 : w5.cell? ⟨Bb, 1, none⟩ = some (.int .i64 br) := cell_of V3.out rfl
                      have z5 : ∀ i, w5.frozen? ⟨Bb, i, none⟩ = false := fun i => free_of V3.out
                      have z6 := V4.out.cell.2.2.2 (m * 64 + t) (by omega)
                      generalize wyJ X (8 * k) m A R wy t 1 (m * 64 + t) = vy at z6
                      have z7 : ∀ i, w5.frozen? ⟨E + 1 + 1 + 1, i, none⟩ = false := fun i => free_of V4.out.hY
                      go_wp2_with (fail)
                      go_region
                      all_goals (go_wp2_with (fail))
                      have C := take_it V4.out V3.out hsz ((-1099511627776)) (R p1 : Int) (m * 64 + t) (p1 : Int)
                      have FR := frm_yes HP0.out HP1.out YS0.out YS.out (by rw [← BR0.out]; exact hW)
                      refine ⟨⟨2, by omega, rfl, ?_, C.2.congrY (fun q hq => wyJ_two X (8 * k) m A R wy t p1 q FR)⟩, by simp [intOf]⟩
                      rw [C.1, bst_two X (8 * k) m A R t p1 _ FR YS.out]
                  · have d8 : decide (8 * (k : Int) ≤ (m : Int)) = true := by simp; omega
                    have d32 : decide ((32 : Int) ≤ (t : Int)) = false := by simp; omega
                    have YS : Hid (((sA + ev) : Int) = yS X (8 * k) m A t p1) := Lib.hid (by unfold yS; rw [if_neg (by omega), EE.out, HSA.out])
                    clear hT h32
                    go_wp2_with (fail)
                    obtain ⟨wp, hwp⟩ : ∃ wp, (wq.setCell ⟨S + 1, 0, none⟩ (.int .i64 (sA + ev))).drew = wp := ⟨_, rfl⟩
                    rw [hwp]
                    have P1 : Hid (wp.heap[S]? = some (.cells #[.int .i64 p1, .int .i64 f1, .int .i64 g1] 50)) := Lib.hid (by rw [← hwp]; exact hp_drew (hp_set_ne Q1.out (by omega) _))
                    have P2 : Hid (wp.heap[S + 1]? = some (.cells #[.int .i64 (sA + ev), .int .i64 (R p1)] 57)) := Lib.hid (by rw [← hwp]; have := hp_drew (hp_set (i := 0) Q2.out (Value.int .i64 (sA + ev))); simpa using this)
                    have P3 : Hid (wp.heap[Bb]? = some (.cells #[.int .i64 bs, .int .i64 br] 57)) := Lib.hid (by rw [← hwp]; exact hp_drew (hp_set_ne Q3.out (by omega) _))
                    have P4 : Hid (Mem w1 E N (svC A R) (nwF X (8 * k) m A R nw t) (wyJ X (8 * k) m A R wy t 1) wp) := Lib.hid (by rw [← hwp]; exact (Q4.out.set (S + 1) 0 (by omega) _).drewN 1)
                    clear hwp Q1 Q2 Q3 Q4 q3 q3b q4 q7 q8 d8 d32
                    refine (before_any _ _ _ _ _).mono ?_
                    rintro e w5 ⟨rfl, bel⟩
                    have YS0 : Hid (bs = yS X (8 * k) m A t p0) := Lib.hid (by rw [HBS.out, HP0.out]; rfl)
                    have BR0 : Hid (br = (R p0 : Int)) := Lib.hid (by rw [HBR.out, HP0.out]; rfl)
                    rcases hW : worse (bs, br) ((sA + ev), (R p1 : Int)) with _ | _
                    · have V1 := Lib.hid (below_keeps bel P1.out (lt_of_obj P1.out))
                      have V2 := Lib.hid (below_keeps bel P2.out (lt_of_obj P2.out))
                      have V3 := Lib.hid (below_keeps bel P3.out (lt_of_obj P3.out))
                      have V4 := Lib.hid (P4.out.step bel)
                      clear bel P1 P2 P3 P4
                      have z0 : w5.cell? ⟨S, 0, none⟩ = some (.int .i64 p1) := cell_of V1.out rfl
                      have z1 : w5.cell? ⟨S + 1, 0, none⟩ = some (.int .i64 (sA + ev)) := cell_of V2.out rfl
                      have z2 : w5.cell? ⟨S + 1, 1, none⟩ = some (.int .i64 (R p1)) := cell_of V2.out rfl
                      have z3 : w5.cell? ⟨Bb, 0, none⟩ = some (.int .i64 bs) := cell_of V3.out rfl
                      have z4 : w5.cell? ⟨Bb, 1, none⟩ = some (.int .i64 br) := cell_of V3.out rfl
                      have z5 : ∀ i, w5.frozen? ⟨Bb, i, none⟩ = false := fun i => free_of V3.out
                      have z6 := V4.out.cell.2.2.2 (m * 64 + t) (by omega)
                      generalize wyJ X (8 * k) m A R wy t 1 (m * 64 + t) = vy at z6
                      have z7 : ∀ i, w5.frozen? ⟨E + 1 + 1 + 1, i, none⟩ = false := fun i => free_of V4.out.hY
                      go_wp2_with (fail)
                      have FR := frm_no HP0.out HP1.out YS0.out YS.out (by rw [← BR0.out]; exact hW)
                      refine ⟨⟨2, by omega, rfl, ?_, V4.out.congrY (fun q hq => wyJ_stay X (8 * k) m A R wy t q FR)⟩, by simp [intOf]⟩
                      rw [V3.out, bst_two X (8 * k) m A R t p0 _ (HP0.out.trans FR) YS0.out, BR0.out]
                    · have V1 := Lib.hid (below_keeps bel P1.out (lt_of_obj P1.out))
                      have V2 := Lib.hid (below_keeps bel P2.out (lt_of_obj P2.out))
                      have V3 := Lib.hid (below_keeps bel P3.out (lt_of_obj P3.out))
                      have V4 := Lib.hid (P4.out.step bel)
                      clear bel P1 P2 P3 P4
                      have z0 : w5.cell? ⟨S, 0, none⟩ = some (.int .i64 p1) := cell_of V1.out rfl
                      have z1 : w5.cell? ⟨S + 1, 0, none⟩ = some (.int .i64 (sA + ev)) := cell_of V2.out rfl
                      have z2 : w5.cell? ⟨S + 1, 1, none⟩ = some (.int .i64 (R p1)) := cell_of V2.out rfl
                      have z3 : w5.cell? ⟨Bb, 0, none⟩ = some (.int .i64 bs) := cell_of V3.out rfl
                      have z4 : w5.cell? ⟨Bb, 1, none⟩ = some (.int .i64 br) := cell_of V3.out rfl
                      have z5 : ∀ i, w5.frozen? ⟨Bb, i, none⟩ = false := fun i => free_of V3.out
                      have z6 := V4.out.cell.2.2.2 (m * 64 + t) (by omega)
                      generalize wyJ X (8 * k) m A R wy t 1 (m * 64 + t) = vy at z6
                      have z7 : ∀ i, w5.frozen? ⟨E + 1 + 1 + 1, i, none⟩ = false := fun i => free_of V4.out.hY
                      go_wp2_with (fail)
                      go_region
                      all_goals (go_wp2_with (fail))
                      have C := take_it V4.out V3.out hsz ((sA + ev)) (R p1 : Int) (m * 64 + t) (p1 : Int)
                      have FR := frm_yes HP0.out HP1.out YS0.out YS.out (by rw [← BR0.out]; exact hW)
                      refine ⟨⟨2, by omega, rfl, ?_, C.2.congrY (fun q hq => wyJ_two X (8 * k) m A R wy t p1 q FR)⟩, by simp [intOf]⟩
                      rw [C.1, bst_two X (8 * k) m A R t p1 _ FR YS.out]
                  · have d8 : decide (8 * (k : Int) ≤ (m : Int)) = false := by simp; omega
                    have YS : Hid (((sA + ev) : Int) = yS X (8 * k) m A t p1) := Lib.hid (by unfold yS; rw [if_neg (by omega), EE.out, HSA.out])
                    clear hT
                    go_wp2_with (fail)
                    obtain ⟨wp, hwp⟩ : ∃ wp, (wq.setCell ⟨S + 1, 0, none⟩ (.int .i64 (sA + ev))).drew = wp := ⟨_, rfl⟩
                    rw [hwp]
                    have P1 : Hid (wp.heap[S]? = some (.cells #[.int .i64 p1, .int .i64 f1, .int .i64 g1] 50)) := Lib.hid (by rw [← hwp]; exact hp_drew (hp_set_ne Q1.out (by omega) _))
                    have P2 : Hid (wp.heap[S + 1]? = some (.cells #[.int .i64 (sA + ev), .int .i64 (R p1)] 57)) := Lib.hid (by rw [← hwp]; have := hp_drew (hp_set (i := 0) Q2.out (Value.int .i64 (sA + ev))); simpa using this)
                    have P3 : Hid (wp.heap[Bb]? = some (.cells #[.int .i64 bs, .int .i64 br] 57)) := Lib.hid (by rw [← hwp]; exact hp_drew (hp_set_ne Q3.out (by omega) _))
                    have P4 : Hid (Mem w1 E N (svC A R) (nwF X (8 * k) m A R nw t) (wyJ X (8 * k) m A R wy t 1) wp) := Lib.hid (by rw [← hwp]; exact (Q4.out.set (S + 1) 0 (by omega) _).drewN 1)
                    clear hwp Q1 Q2 Q3 Q4 q3 q3b q4 q7 q8 d8
                    refine (before_any _ _ _ _ _).mono ?_
                    rintro e w5 ⟨rfl, bel⟩
                    have YS0 : Hid (bs = yS X (8 * k) m A t p0) := Lib.hid (by rw [HBS.out, HP0.out]; rfl)
                    have BR0 : Hid (br = (R p0 : Int)) := Lib.hid (by rw [HBR.out, HP0.out]; rfl)
                    rcases hW : worse (bs, br) ((sA + ev), (R p1 : Int)) with _ | _
                    · have V1 := Lib.hid (below_keeps bel P1.out (lt_of_obj P1.out))
                      have V2 := Lib.hid (below_keeps bel P2.out (lt_of_obj P2.out))
                      have V3 := Lib.hid (below_keeps bel P3.out (lt_of_obj P3.out))
                      have V4 := Lib.hid (P4.out.step bel)
                      clear bel P1 P2 P3 P4
                      have z0 : w5.cell? ⟨S, 0, none⟩ = some (.int .i64 p1) := cell_of V1.out rfl
                      have z1 : w5.cell? ⟨S + 1, 0, none⟩ = some (.int .i64 (sA + ev)) := cell_of V2.out rfl
                      have z2 : w5.cell? ⟨S + 1, 1, none⟩ = some (.int .i64 (R p1)) := cell_of V2.out rfl
                      have z3 : w5.cell? ⟨Bb, 0, none⟩ = some (.int .i64 bs) := cell_of V3.out rfl
                      have z4 : w5.cell? ⟨Bb, 1, none⟩ = some (.int .i64 br) := cell_of V3.out rfl
                      have z5 : ∀ i, w5.frozen? ⟨Bb, i, none⟩ = false := fun i => free_of V3.out
                      have z6 := V4.out.cell.2.2.2 (m * 64 + t) (by omega)
                      generalize wyJ X (8 * k) m A R wy t 1 (m * 64 + t) = vy at z6
                      have z7 : ∀ i, w5.frozen? ⟨E + 1 + 1 + 1, i, none⟩ = false := fun i => free_of V4.out.hY
                      go_wp2_with (fail)
                      have FR := frm_no HP0.out HP1.out YS0.out YS.out (by rw [← BR0.out]; exact hW)
                      refine ⟨⟨2, by omega, rfl, ?_, V4.out.congrY (fun q hq => wyJ_stay X (8 * k) m A R wy t q FR)⟩, by simp [intOf]⟩
                      rw [V3.out, bst_two X (8 * k) m A R t p0 _ (HP0.out.trans FR) YS0.out, BR0.out]
                    · have V1 := Lib.hid (below_keeps bel P1.out (lt_of_obj P1.out))
                      have V2 := Lib.hid (below_keeps bel P2.out (lt_of_obj P2.out))
                      have V3 := Lib.hid (below_keeps bel P3.out (lt_of_obj P3.out))
                      have V4 := Lib.hid (P4.out.step bel)
                      clear bel P1 P2 P3 P4
                      have z0 : w5.cell? ⟨S, 0, none⟩ = some (.int .i64 p1) := cell_of V1.out rfl
                      have z1 : w5.cell? ⟨S + 1, 0, none⟩ = some (.int .i64 (sA + ev)) := cell_of V2.out rfl
                      have z2 : w5.cell? ⟨S + 1, 1, none⟩ = some (.int .i64 (R p1)) := cell_of V2.out rfl
                      have z3 : w5.cell? ⟨Bb, 0, none⟩ = some (.int .i64 bs) := cell_of V3.out rfl
                      have z4 : w5.cell? ⟨Bb, 1, none⟩ = some (.int .i64 br) := cell_of V3.out rfl
                      have z5 : ∀ i, w5.frozen? ⟨Bb, i, none⟩ = false := fun i => free_of V3.out
                      have z6 := V4.out.cell.2.2.2 (m * 64 + t) (by omega)
                      generalize wyJ X (8 * k) m A R wy t 1 (m * 64 + t) = vy at z6
                      have z7 : ∀ i, w5.frozen? ⟨E + 1 + 1 + 1, i, none⟩ = false := fun i => free_of V4.out.hY
                      go_wp2_with (fail)
                      go_region
                      all_goals (go_wp2_with (fail))
                      have C := take_it V4.out V3.out hsz ((sA + ev)) (R p1 : Int) (m * 64 + t) (p1 : Int)
                      have FR := frm_yes HP0.out HP1.out YS0.out YS.out (by rw [← BR0.out]; exact hW)
                      refine ⟨⟨2, by omega, rfl, ?_, C.2.congrY (fun q hq => wyJ_two X (8 * k) m A R wy t p1 q FR)⟩, by simp [intOf]⟩
                      rw [C.1, bst_two X (8 * k) m A R t p1 _ FR YS.out]
                · have z0 := (HM.out.cell).2.2.1 (t * 2) (by omega)
                  have z1 := (HM.out.cell).2.2.1 (t * 2 + 1) (by omega)
                  have z2 := fun i => free_of (i := i) HM.out.hN
                  generalize nwF X (8 * k) m A R nw t (t * 2) = n0 at z0
                  generalize nwF X (8 * k) m A R nw t (t * 2 + 1) = n1 at z1
                  have EB : Hid (bstJ X (8 * k) m A R t 2 = (bs, br)) := Lib.hid (by rw [HBS.out, HBR.out])
                  clear HC2 f4 f5 c4
                  go_wp2_with (fail)
                  refine ⟨⟨t + 1, by omega, by go_num, ?_⟩, by simp [intOf]; omega⟩
                  exact (((HM.out.setN _ _).setN _ _).congrN (fun j hj => nwF_step X (8 * k) m A R nw t j bs br EB.out)).congrY (fun q hq => wyF_step X (8 * k) m A R wy t q)
            · have he : t = 64 := by omega
              subst he
              have hF : ∀ s, s < 64 → frm X (8 * k) m A R s < 64 := fun s _ => frm_lt _ _ _ _ _ _
              have RA := Lib.hid (ranked_any R (frm X (8 * k) m A R) (nwF X (8 * k) m A R nw 64) (E + 1 + 1) (E + 1 + 1 + 1) (m * 64) (E + 1) wr hF HI.out.lt (fun s t hs ht e => frm_key HI.out s t hs ht e) HM.out.hN
                (fun s hs => by
                  rw [HC4.out (m * 64 + s) (by omega)]
                  unfold wyF
                  rw [if_pos (by omega), show m * 64 + s - m * 64 = s by omega])
                (fun j hj => by rw [HC2.out (j * 2 + 1) (by omega), svC_at.2]) (by omega) (by omega) (by omega) (by omega))
              clear HC1 HC2 HC3 HC4 hF
              go_wp2_with (fail)
              refine RA.out.mono ?_
              rintro e w6 ⟨rfl, hmd, o, hO, hb6⟩
              have HM6 := Lib.hid (HM.out.mod hmd hb6)
              have HO := Lib.hid hO
              clear hmd hO hb6 RA HM
              have hcp := fun ty => copy58 w6.drew (E + 1) (E + 1 + 1) ty _ _ (hp_drew HM6.out.hW) (hp_drew HM6.out.hN)
              obtain ⟨CC, hCC⟩ : ∃ CC, CC = afn 128 (rnkC (nwF X (8 * k) m A R nw 64) o 64) := ⟨_, rfl⟩
              rw [← hCC] at hcp
              have HCC := Lib.hid hCC
              clear hCC
              go_wp2_with (fail)
              go_region
              all_goals (go_wp2_with (fail))
              have hwm : wrap64 ((m : Int) + 1) = ((m + 1 : Nat) : Int) := by rw [IntWalk.wrap64_in _ (by have := HNN.out; omega)]; omega
              rw [hwm]
              have h := (HM6.out.drewN 1).setRow
              rw [HCC.out]
              have e := sv_next X (8 * k) m A R nw _ o HO.out
              have MM : Mem w1 E N (svC (fun t => yS X (8 * k) m A t (frm X (8 * k) m A R t)) (fun s => o.idxOf s)) (rnkC (nwF X (8 * k) m A R nw 64) o 64) (wyF X (8 * k) m A R wy 64) (w6.drew.setRow (E + 1) (afn 128 (rnkC (nwF X (8 * k) m A R nw 64) o 64))) := ⟨h.hE, by rw [← e]; exact h.hW, h.hN, h.hY, h.below, h.ge⟩
              exact ⟨⟨m + 1, by omega, rfl, _, _, _, _, inv_next HI.out hs (by rw [← HX1.out.1, HN.out]; have := HNN.out; omega) (by rw [← HX1.out.1, HN.out]; omega) o HO.out, back_step HT.out HI.out hs (by rw [← HX1.out.1, HN.out]; have := HNN.out; omega) (by rw [← HX1.out.1, HN.out]; omega), MM⟩, by simp [intOf]; omega⟩
        · have he : m = N := by omega
          subst he
          have hmk : ∀ w : World, (Instr.makeSlice 37 (.int .i64 (k : Int)) (.int .i64 (k : Int))).run Try.prog w = .ok (.slice (some ⟨w.heap.size, 0, none⟩) k k) (w.alloc (.cells (bfn k fun _ => 0) 5)) := fun w => make37 w k (by omega)
          have hsY : E + 1 + 1 + 1 < wr.heap.size := lt_of_obj HM.out.hY
          have BO : Hid ((wr.alloc (.cells (bfn k fun _ => 0) 5)).heap[wr.heap.size]? = some (.cells (bfn k (obv (fM k M) m)) 5)) := Lib.hid (by
            rw [show bfn k (obv (fM k M) m) = bfn k fun _ => 0 from bfn_congr fun j hj => obv_top _ _ _ (by have := HNN.out; omega)]
            exact hp_new _ _)
          have HM2 := Lib.hid (HM.out.alloc (.cells (bfn k fun _ => 0) 5))
          clear HM
          go_wp2_with (fail)
          obtain ⟨w4, hw4⟩ : ∃ w4, wr.alloc (.cells (bfn k fun _ => 0) 5) = w4 := ⟨_, rfl⟩
          obtain ⟨B, hB⟩ : ∃ B, wr.heap.size = B := ⟨_, rfl⟩
          rw [hw4] at BO HM2 ⊢
          rw [hB] at BO hsY ⊢
          clear hmk hw4 hB
          have HAL := Lib.hid (HI.out.some 0 (by omega))
          rw [show wrap64 ((m : Int) - 1) = (m : Int) - 1 from IntWalk.wrap64_in _ (by have := HNN.out; omega)]
          go_loopw [21, 22] (fun st i wr => ∃ q s : Nat, q ≤ m ∧ s < 64 ∧ i = .int .i64 ((q : Int) - 1) ∧ st = .int .i64 s ∧ (∃ v, P X (8 * k) q s = some (v, M / 2 ^ (8 * k + 6 - q))) ∧ wr.heap[B]? = some (.cells (bfn k (obv (fM k M) q)) 5) ∧ Mem w1 E m (svC A R) nw wy wr) (fun _ i _ => (intOf i + 1).toNat)
          case atStart => exact ⟨m, 0, by omega, by omega, rfl, rfl, ⟨vv, by rw [HNN.out, HPP.out]; simp⟩, BO.out, HM2.out⟩
          case round =>
            clear BO HM2
            obtain ⟨q, s, hq, hs64', rfl, rfl, hP, hBB, hM⟩ := hrel
            cases q with
            | zero =>
              have HBB := Lib.hid hBB; have HM := Lib.hid hM
              have e0 := (HAL.out (vv, M) (by rw [HNN.out]; exact HPP.out))
              simp only at e0
              have c0 := hM.cell.2.1 0 (by omega)
              rw [show svC A R 0 = A 0 from rfl, e0] at c0
              have hcv := bfn_str wr B k _ hBB
              have hcv' := bfn_str wr.drew B k _ (hp_drew hBB)
              rw [show strF (obv (fM k M) 0) k = msg k M from rfl] at hcv hcv'
              clear hP hBB hM e0
              go_wp2_with (fail)
              go_region
              all_goals (go_wp2_with (fail))
              go_ret3
              exact ⟨rfl, below_drewN (bl_step B1.out HM.out.below) 1⟩
            | succ x =>
              obtain ⟨v, hP⟩ := hP
              obtain ⟨p, y1, y2, y3, y4, y5⟩ := way_back HT.out (by omega) hs64' (by have := HNN.out; omega) hP
              have Y3 := Lib.hid y3; have Y5 := Lib.hid y5
              have ex : ((x + 1 : Nat) : Int) - 1 = (x : Int) := by omega
              rw [ex]
              have z0 := hM.cell.2.2.2 (x * 64 + s) (by omega)
              rw [y1] at z0
              have HBB := Lib.hid hBB; have HM := Lib.hid hM
              clear ex y1 y3 y5 hP
              have hxd : (x : Int) / 8 = ((x / 8 : Nat) : Int) := by omega
              have hxr : (x : Int) % 8 = ((x % 8 : Nat) : Int) := by omega
              obtain ⟨xd, hxd'⟩ : ∃ xd, xd = x / 8 := ⟨_, rfl⟩
              obtain ⟨xr, hxr'⟩ : ∃ xr, xr = x % 8 := ⟨_, rfl⟩
              rw [← hxd'] at hxd; rw [← hxr'] at hxr
              have HXD := Lib.hid hxd'; have HXR := Lib.hid hxr'
              have hr8 : xr < 8 := by omega
              clear hxd' hxr'
              by_cases hb : x < 8 * k ∧ 32 ≤ s
              · obtain ⟨hb1, hb2⟩ := hb
                have d8 : decide ((x : Int) < 8 * (k : Int)) = true := by simp; omega
                have d32 : decide ((32 : Int) ≤ (s : Int)) = true := by simp; omega
                have hdk : xd < k := by have := HXD.out; omega
                have o0 := cell_of hBB (bfn_get _ _ _ hdk)
                have o1 := fun i => free_of (i := i) hBB
                generalize hob : obv (fM k M) (x + 1) xd = ob at o0
                have HOB := Lib.hid hob
                clear hob hM hBB
                go_wp2_with (fail)
                go_region
                all_goals (go_wp2_with (fail))
                have hob : ob < 2 ^ (7 - xr) := by rw [← HOB.out, HXD.out, HXR.out]; exact (obv_near (fM k M) (fM_lt k M) x).1
                have hob2 : ob < 256 := by rw [← HOB.out]; exact obv_lt (fM k M) (fM_lt k M) _ _
                have hor : bits BinOp.or IntKind.u8 (ob : Int) ((128 : Int) / 2 ^ xr) = ((ob + 2 ^ (7 - xr) : Nat) : Int) := or_bit ⟨xr, hr8⟩ ⟨ob, hob2⟩ hob
                rw [hor]
                refine ⟨⟨x, p, by omega, y2, rfl, rfl, Y3.out, ?_, (HM.out.set B xd hsY _).drewN 1⟩, by simp [intOf]⟩
                have h := hp_drew (hp_set (i := xd) HBB.out (.int .u8 ((ob + 2 ^ (7 - xr) : Nat) : Int)))
                have e : (bfn k fun j => if j = xd then ob + 2 ^ (7 - xr) else obv (fM k M) (x + 1) j) = bfn k (obv (fM k M) x) := bfn_congr (fun j hj => by
                  have := byte_set k M x s j Y5.out ⟨hb1, hb2⟩ hs64'
                  rw [← HXD.out, HOB.out, ← HXR.out] at this
                  exact this)
                rw [bfn_set, e] at h
                exact h
              · rcases Nat.lt_or_ge x (8 * k) with hx8 | hx8
                · have d8 : decide ((x : Int) < 8 * (k : Int)) = true := by simp; omega
                  have d32 : decide ((32 : Int) ≤ (s : Int)) = false := by simp; omega
                  clear hM hBB
                  go_wp2_with (fail)
                  refine ⟨⟨x, p, by omega, y2, rfl, rfl, Y3.out, ?_, HM.out⟩, by simp [intOf]⟩
                  rw [HBB.out, bfn_congr (fun j hj => byte_keep k M x s j hj Y5.out hb hs64')]
                · have d8 : decide ((x : Int) < 8 * (k : Int)) = false := by simp; omega
                  clear hM hBB
                  go_wp2_with (fail)
                  rw [show wrap64 ((x : Int) - 1) = (x : Int) - 1 from IntWalk.wrap64_in _ (by have := HNN.out; omega)]
                  refine ⟨⟨x, p, by omega, y2, rfl, rfl, Y3.out, ?_, HM.out⟩, by simp [intOf]⟩
                  rw [HBB.out, bfn_congr (fun j hj => byte_keep k M x s j hj Y5.out hb hs64')]
end Go.Proofs.Ytbfgpjpfhbbdfaa
