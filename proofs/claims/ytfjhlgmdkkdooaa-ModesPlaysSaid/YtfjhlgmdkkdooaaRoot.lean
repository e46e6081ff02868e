/-
  The walk of the reference's Root. Conditions: a number below 2 to the power 130.
-/
import Derived.Test.YtfjhlgmdkkdooaaBign
namespace Go.Proofs.Ytfjhlgmdkkdooaa
open Go.RowKit Kit
set_option linter.unusedVariables false
theorem p66 : (2 : Nat) ^ 66 = 73786976294838206464 := by decide
theorem two_sm {k : Nat} (h : k < 66) : Sm (2 ^ k + 2 ^ k) := by
  have : 2 ^ k + 2 ^ k = 2 ^ (k + 1) := by rw [Nat.pow_succ]; omega
  rw [this]
  exact Nat.lt_of_le_of_lt (Nat.pow_le_pow_right (n := 2) (by decide) (show k + 1 ≤ 66 from h)) (by decide)
/-- What the search keeps. -/
structure RI (V lo hi : Nat) : Prop where
  low : lo * lo ≤ V
  high : V < hi * hi
  top : hi ≤ 73786976294838206464
theorem RI.lt {V lo hi : Nat} (h : RI V lo hi) : lo < hi := by
  rcases Nat.lt_or_ge lo hi with h' | h'
  · exact h'
  · have := Nat.mul_le_mul h' h'; have := h.low; have := h.high; omega
theorem RI.sm1 {V lo hi : Nat} (h : RI V lo hi) : Sm (lo + 1) ∧ Sm hi ∧ Sm (lo + hi) := by
  have h1 := h.lt; have h2 := h.top
  unfold Sm; omega
def mid (lo hi : Nat) : Nat := (lo + hi) / 2
theorem RI.mid_bd {V lo hi : Nat} (h : RI V lo hi) : mid lo hi < 340282366920938463463374607431768211456 ∧ Sm (mid lo hi * mid lo hi) := by
  have h1 := h.lt; have h2 := h.top
  have h3 : mid lo hi ≤ 73786976294838206464 := by unfold mid; omega
  refine ⟨by omega, ?_⟩
  have := Nat.mul_le_mul h3 h3
  unfold Sm; omega
theorem RI.up {V lo hi : Nat} (h : RI V lo hi) (hm : V < mid lo hi * mid lo hi) : RI V lo (mid lo hi) :=
  ⟨h.low, hm, by have h1 := h.lt; have h2 := h.top; unfold mid; omega⟩
theorem RI.down {V lo hi : Nat} (h : RI V lo hi) (hm : ¬ V < mid lo hi * mid lo hi) : RI V (mid lo hi) hi :=
  ⟨by omega, h.high, h.top⟩
theorem RI.mid_lt {V lo hi : Nat} (h : RI V lo hi) (hc : lo + 1 < hi) : lo < mid lo hi ∧ mid lo hi < hi := by
  unfold mid; omega
theorem RI.done {V lo hi : Nat} (h : RI V lo hi) (hc : ¬ lo + 1 < hi) : isRoot V lo := by
  have h1 := h.lt
  obtain rfl : hi = lo + 1 := by omega
  exact ⟨h.low, h.high⟩
/-- The number that a block holds. -/
def bv (w : World) (B : Nat) : Nat := match w.heap[B]? with | some (.cells c _ _) => pv (c.toList.map fun v => match v with | .int _ n => n.toNat | _ => 0) 17 | _ => 0
theorem bv_num {w : World} {B v : Nat} (h : BN w B v) (hv : Sm v) : bv w B = v := by
  have e : ((big (dig v)).toList.map fun x => match x with | .int _ n => n.toNat | _ => 0) = dig v := by
    unfold big
    rw [List.map_map]
    conv => rhs; rw [← List.map_id (dig v)]
    apply List.map_congr_left
    intro a _
    rfl
  unfold bv
  rw [show w.heap[B]? = _ from h]
  simp only
  rw [e]
  exact val_dig hv.lt
/-- The blocks of a search. -/
structure RW (w : World) (V : Nat) (o h lo one hi : Nat) (W : World) : Prop where
  a : BN W w.heap.size V
  z : BN W (w.heap.size + 1) 0
  l : BN W (w.heap.size + 2) lo
  bo : BN W o one
  bh : BN W h hi
  below : Below w.heap.size w W
  oo : w.heap.size + 2 < o
  ho : o < h
theorem RW.bl {w : World} {V o h lo one hi : Nat} {W W' : World} (r : RW w V o h lo one hi W) (hb : Below W.heap.size W W') : RW w V o h lo one hi W' :=
  ⟨r.a.below hb, r.z.below hb, r.l.below hb, r.bo.below hb, r.bh.below hb, bl_step r.below hb, r.oo, r.ho⟩
theorem RW.setH {w : World} {V o h lo one hi : Nat} {W : World} (r : RW w V o h lo one hi W) (v : Nat) : RW w V o h lo one v (W.setRow h (bg v)) :=
  ⟨r.a.putNe (by have := r.oo; have := r.ho; omega) v, r.z.putNe (by have := r.oo; have := r.ho; omega) v, r.l.putNe (by have := r.oo; have := r.ho; omega) v, r.bo.putNe (by have := r.ho; omega) v, r.bh.put v, bl_row r.below (by have := r.oo; have := r.ho; omega) _, r.oo, r.ho⟩
theorem RW.setL {w : World} {V o h lo one hi : Nat} {W : World} (r : RW w V o h lo one hi W) (v : Nat) : RW w V o h v one hi (W.setRow (w.heap.size + 2) (bg v)) :=
  ⟨r.a.putNe (by omega) v, r.z.putNe (by omega) v, r.l.put v, r.bo.putNe (by have := r.oo; omega) v, r.bh.putNe (by have := r.oo; have := r.ho; omega) v, bl_row r.below (by omega) _, r.oo, r.ho⟩
theorem num_ret' {w W : World} {fn : Func} {v V : Nat} {p : Tmp} {a : Act} {g : Nat} (h : fn.results = #[.cell p 63]) (hd : a.defers = []) (hp : a.tmps.getD p undef = .pointer (some ⟨g, 0, none⟩)) (hg : BN W g v) (hb : Below w.heap.size w W) (hr : isRoot V v) :
    bodyPost Try.prog fn (fun e w' => ∃ n, e = .returned (.agg (bg n)) ∧ isRoot V n ∧ Below w.heap.size w w') .ret a W :=
  bodyPost_ret (results_cell_row h _ _ g 63 (big (dig v)) (0, 0) _ hp hg und63 rfl (by rw [siz63, big_size (dig_ok v)])) hd ⟨v, rfl, hr, hb⟩
set_option maxRecDepth 100000 in
set_option maxHeartbeats 6400000 in
theorem root_n {V : Nat} (hV : V < 1361129467683753853853498429727072845824) (w : World) : Calls Try.prog 31 #[.agg (bg V)] w fun e w' => ∃ n, e = .returned (.agg (bg n)) ∧ isRoot V n ∧ Below w.heap.size w w' := by
  have SV : Hid (Sm V) := Lib.hid (Nat.lt_trans hV (by decide))
  have HV := Lib.hid hV
  clear hV
  go_enter Try.func31, Try.ntmps31
  go_wp2_with (fail)
  obtain ⟨W0, hW⟩ : ∃ W0, W0 = ((w.alloc (.cells (bg V) 63)).alloc (.cells #[.int .u64 0, .int .u64 0, .int .u64 0, .int .u64 0, .int .u64 0, .int .u64 0, .int .u64 0, .int .u64 0, .int .u64 0, .int .u64 0, .int .u64 0, .int .u64 0, .int .u64 0, .int .u64 0, .int .u64 0, .int .u64 0, .int .u64 0] 63)).alloc (.cells #[.int .u64 0, .int .u64 0, .int .u64 0, .int .u64 0, .int .u64 0, .int .u64 0, .int .u64 0, .int .u64 0, .int .u64 0, .int .u64 0, .int .u64 0, .int .u64 0, .int .u64 0, .int .u64 0, .int .u64 0, .int .u64 0, .int .u64 0] 63) := ⟨_, rfl⟩
  have PA : Hid (BN W0 w.heap.size V) := Lib.hid (by rw [hW]; exact ((BN.new w V).old _).old _)
  have PZ : Hid (BN W0 (w.heap.size + 1) 0) := Lib.hid (by rw [hW]; have := (BN.zero (w.alloc (.cells (bg V) 63))).old (.cells #[.int .u64 0, .int .u64 0, .int .u64 0, .int .u64 0, .int .u64 0, .int .u64 0, .int .u64 0, .int .u64 0, .int .u64 0, .int .u64 0, .int .u64 0, .int .u64 0, .int .u64 0, .int .u64 0, .int .u64 0, .int .u64 0, .int .u64 0] 63); simpa using this)
  have PL : Hid (BN W0 (w.heap.size + 2) 0) := Lib.hid (by rw [hW]; simpa using BN.zero ((w.alloc (.cells (bg V) 63)).alloc (.cells #[.int .u64 0, .int .u64 0, .int .u64 0, .int .u64 0, .int .u64 0, .int .u64 0, .int .u64 0, .int .u64 0, .int .u64 0, .int .u64 0, .int .u64 0, .int .u64 0, .int .u64 0, .int .u64 0, .int .u64 0, .int .u64 0, .int .u64 0] 63)))
  have BL : Hid (Below w.heap.size w W0) := Lib.hid (by rw [hW]; exact bl_alloc (bl_alloc (bl_alloc (Below.refl _ _) _) _) _)
  have hs0 : W0.heap.size = w.heap.size + 3 := by rw [hW]; simp
  have HS0 := Lib.hid hs0
  rw [← hW]
  clear hW hs0
  refine (abs_n 1 (by omega) _).mono ?_
  rintro e w1 ⟨rfl, hb1⟩
  have B1 := Lib.hid hb1; clear hb1
  have o1 : w.heap.size + 2 < w1.heap.size := by have := B1.out.size; have := HS0.out; omega
  rw [show Int.natAbs 1 = 1 from rfl]
  have PO := Lib.hid (BN.zero w1)
  go_wp2_with (first | refine num_store (o := ⟨none, .store 63 (.tmp 4) (.tmp 8), _, _, _, _⟩) rfl (.tmp 4) (.tmp 8) rfl w1.heap.size 1 0 rfl rfl PO.out ?_ | refine num_load (o := ⟨some 9, .load 63 (.tmp 4), _, _, _, _⟩) rfl (.tmp 4) rfl w1.heap.size 1 rfl (PO.out.put 1) ?_ | refine num_store (o := ⟨none, .store 63 (.tmp 5) (.tmp 9), _, _, _, _⟩) rfl (.tmp 5) (.tmp 9) rfl (w1.heap.size + 1) 1 0 rfl rfl (by have := BN.zero ((w1.alloc (.cells #[.int .u64 0, .int .u64 0, .int .u64 0, .int .u64 0, .int .u64 0, .int .u64 0, .int .u64 0, .int .u64 0, .int .u64 0, .int .u64 0, .int .u64 0, .int .u64 0, .int .u64 0, .int .u64 0, .int .u64 0, .int .u64 0, .int .u64 0] 63)).setRow w1.heap.size (bg 1)); simpa using this) ?_)
  obtain ⟨W3, hW3⟩ : ∃ W3, W3 = (((w1.alloc (.cells #[.int .u64 0, .int .u64 0, .int .u64 0, .int .u64 0, .int .u64 0, .int .u64 0, .int .u64 0, .int .u64 0, .int .u64 0, .int .u64 0, .int .u64 0, .int .u64 0, .int .u64 0, .int .u64 0, .int .u64 0, .int .u64 0, .int .u64 0] 63)).setRow w1.heap.size (bg 1)).alloc (.cells #[.int .u64 0, .int .u64 0, .int .u64 0, .int .u64 0, .int .u64 0, .int .u64 0, .int .u64 0, .int .u64 0, .int .u64 0, .int .u64 0, .int .u64 0, .int .u64 0, .int .u64 0, .int .u64 0, .int .u64 0, .int .u64 0, .int .u64 0] 63)).setRow (w1.heap.size + 1) (bg 1) := ⟨_, rfl⟩
  have R3 : Hid (RW w V w1.heap.size (w1.heap.size + 1) 0 1 1 W3) := Lib.hid (by
    have q1 := ((((PA.out.below B1.out).old (.cells #[.int .u64 0, .int .u64 0, .int .u64 0, .int .u64 0, .int .u64 0, .int .u64 0, .int .u64 0, .int .u64 0, .int .u64 0, .int .u64 0, .int .u64 0, .int .u64 0, .int .u64 0, .int .u64 0, .int .u64 0, .int .u64 0, .int .u64 0] 63)).putNe (k := w1.heap.size) (by omega) 1).old (.cells #[.int .u64 0, .int .u64 0, .int .u64 0, .int .u64 0, .int .u64 0, .int .u64 0, .int .u64 0, .int .u64 0, .int .u64 0, .int .u64 0, .int .u64 0, .int .u64 0, .int .u64 0, .int .u64 0, .int .u64 0, .int .u64 0, .int .u64 0] 63)).putNe (k := w1.heap.size + 1) (by omega) 1
    have q2 := ((((PZ.out.below B1.out).old (.cells #[.int .u64 0, .int .u64 0, .int .u64 0, .int .u64 0, .int .u64 0, .int .u64 0, .int .u64 0, .int .u64 0, .int .u64 0, .int .u64 0, .int .u64 0, .int .u64 0, .int .u64 0, .int .u64 0, .int .u64 0, .int .u64 0, .int .u64 0] 63)).putNe (k := w1.heap.size) (by omega) 1).old (.cells #[.int .u64 0, .int .u64 0, .int .u64 0, .int .u64 0, .int .u64 0, .int .u64 0, .int .u64 0, .int .u64 0, .int .u64 0, .int .u64 0, .int .u64 0, .int .u64 0, .int .u64 0, .int .u64 0, .int .u64 0, .int .u64 0, .int .u64 0] 63)).putNe (k := w1.heap.size + 1) (by omega) 1
    have q3 := ((((PL.out.below B1.out).old (.cells #[.int .u64 0, .int .u64 0, .int .u64 0, .int .u64 0, .int .u64 0, .int .u64 0, .int .u64 0, .int .u64 0, .int .u64 0, .int .u64 0, .int .u64 0, .int .u64 0, .int .u64 0, .int .u64 0, .int .u64 0, .int .u64 0, .int .u64 0] 63)).putNe (k := w1.heap.size) (by omega) 1).old (.cells #[.int .u64 0, .int .u64 0, .int .u64 0, .int .u64 0, .int .u64 0, .int .u64 0, .int .u64 0, .int .u64 0, .int .u64 0, .int .u64 0, .int .u64 0, .int .u64 0, .int .u64 0, .int .u64 0, .int .u64 0, .int .u64 0, .int .u64 0] 63)).putNe (k := w1.heap.size + 1) (by omega) 1
    have q4 := ((PO.out.put 1).old (.cells #[.int .u64 0, .int .u64 0, .int .u64 0, .int .u64 0, .int .u64 0, .int .u64 0, .int .u64 0, .int .u64 0, .int .u64 0, .int .u64 0, .int .u64 0, .int .u64 0, .int .u64 0, .int .u64 0, .int .u64 0, .int .u64 0, .int .u64 0] 63)).putNe (k := w1.heap.size + 1) (by omega) 1
    have q5 := (BN.zero ((w1.alloc (.cells #[.int .u64 0, .int .u64 0, .int .u64 0, .int .u64 0, .int .u64 0, .int .u64 0, .int .u64 0, .int .u64 0, .int .u64 0, .int .u64 0, .int .u64 0, .int .u64 0, .int .u64 0, .int .u64 0, .int .u64 0, .int .u64 0, .int .u64 0] 63)).setRow w1.heap.size (bg 1)))
    rw [size_setRow, World.size_alloc] at q5
    have q6 := q5.put 1
    rw [hW3]
    exact ⟨q1, q2, q3, q4, q6, bl_row (bl_alloc (bl_row (bl_alloc (bl_step BL.out B1.out) _) (by omega) _) _) (by omega) _, o1, by omega⟩)
  rw [← hW3]
  clear hW3
  obtain ⟨o, ho⟩ : ∃ o, o = w1.heap.size := ⟨_, rfl⟩
  rw [← ho] at R3 ⊢
  obtain ⟨h, hh⟩ : ∃ h, h = o + 1 := ⟨_, rfl⟩
  rw [← hh] at R3 ⊢
  clear PO PA PZ PL BL B1 HS0 ho hh o1
  go_loopw [6] (fun i wr => ∃ k : Nat, k ≤ 66 ∧ i = .int .i64 k ∧ RW w V o h 0 1 (2 ^ k) wr) (fun i _ => 66 - (intOf i).toNat)
  case atStart => exact ⟨0, by omega, rfl, R3.out⟩
  case round =>
    clear R3
    obtain ⟨k, hk, rfl, hR⟩ := hrel
    have HR := Lib.hid hR
    clear hR
    by_cases hlt : k < 66
    · have HS := Lib.hid (two_sm hlt)
      have HE : Hid (2 ^ k + 2 ^ k = 2 ^ (k + 1)) := Lib.hid (by rw [Nat.pow_succ]; omega)
      obtain ⟨H, hH⟩ : ∃ H, H = 2 ^ k := ⟨_, rfl⟩
      rw [← hH] at HR HS HE
      clear hH
      go_wp2_with (first | refine num_load (o := ⟨some 14, .load 63 (.tmp 5), _, _, _, _⟩) rfl (.tmp 5) rfl h H rfl HR.out.bh ?_ | refine num_load (o := ⟨some 15, .load 63 (.tmp 5), _, _, _, _⟩) rfl (.tmp 5) rfl h H rfl HR.out.bh ?_)
      refine (add_n HS.out _).mono ?_
      rintro e w4 ⟨rfl, hb4⟩
      have R4 := Lib.hid (HR.out.bl hb4)
      clear hb4
      rw [HE.out]
      go_wp2_with (refine num_store (o := ⟨none, .store 63 (.tmp 5) (.tmp 16), _, _, _, _⟩) rfl (.tmp 5) (.tmp 16) rfl h (2 ^ (k + 1)) H rfl rfl R4.out.bh ?_)
      go_roundw
      case rel => exact ⟨k + 1, by omega, by go_num, R4.out.setH _⟩
      case measure => simp [intOf]; omega
    · obtain rfl : k = 66 := by omega
      rw [show (((66 : Nat)) : Int) = 66 from rfl]
      obtain ⟨Q, hQ⟩ : ∃ Q : Nat, Q = 2 ^ 66 := ⟨_, rfl⟩
      have I0 : Hid (RI V 0 Q) := Lib.hid (by
        rw [hQ, p66]
        exact ⟨Nat.zero_le _, Nat.lt_trans HV.out (by decide), Nat.le_refl _⟩)
      rw [← hQ] at HR
      clear hQ
      go_wp2_with (fail)
      go_loopw [7] (fun x wr => ∃ lo hi : Nat, RI V lo hi ∧ RW w V o h lo 1 hi wr) (fun _ wr => bv wr h - bv wr (w.heap.size + 2))
      case atStart => exact ⟨0, Q, I0.out, HR.out⟩
      case round =>
        clear I0 HR
        obtain ⟨lo, hi, hI, hR⟩ := hrel
        have HI := Lib.hid hI; have HR := Lib.hid hR
        have MS : Hid (bv wr h - bv wr (w.heap.size + 2) = hi - lo) := Lib.hid (by
          rw [bv_num hR.bh hI.sm1.2.1, bv_num hR.l (by have := hI.sm1.1; unfold Sm at *; omega)])
        clear hI hR
        by_cases hc : lo + 1 < hi
        · have hd : decide (lo + 1 < hi) = true := by simpa using hc
          have HC := Lib.hid hc
          have HD := Lib.hid hd
          clear hc hd
          go_wp2_with (fail)
          refine region_calm (by kernel_rfl) (by kernel_rfl) ?_
          repeat (first | (refine BigFrame.wpQuiet_want rfl (fun K hK => ?_); (first | refine calm_num (o := ⟨some 17, .load 63 (.tmp 3), _, _, _, _⟩) (.tmp 3) rfl (w.heap.size + 2) lo rfl HR.out.l ?_ | refine calm_num (o := ⟨some 18, .load 63 (.tmp 4), _, _, _, _⟩) (.tmp 4) rfl o 1 rfl HR.out.bo ?_ | refine calm_num (o := ⟨some 20, .load 63 (.tmp 5), _, _, _, _⟩) (.tmp 5) rfl h hi rfl HR.out.bh ?_); refine hK _ ?_; clear hK K) | (quiet_step ((first | (go_at_call 27; exact calm_of (add_n HI.out.sm1.1 _)) | (go_at_call 36; exact calm_of (less_n HI.out.sm1.1 HI.out.sm1.2.1 _))))))
          refine wpQuiet_nil ?_
          intro w5 hw'
          have R5 := Lib.hid (HR.out.bl (below_of_ext hw'))
          have M5 : Hid (bv w5 h - bv w5 (w.heap.size + 2) = hi - lo) := Lib.hid (by
            rw [bv_num R5.out.bh HI.out.sm1.2.1, bv_num R5.out.l (by have := HI.out.sm1.1; unfold Sm at *; omega)])
          clear hw'
          rw [HD.out]
          go_wp2_with (first | refine num_load (o := ⟨some 22, .load 63 (.tmp 3), _, _, _, _⟩) rfl (.tmp 3) rfl (w.heap.size + 2) lo rfl R5.out.l ?_ | refine num_load (o := ⟨some 23, .load 63 (.tmp 5), _, _, _, _⟩) rfl (.tmp 5) rfl h hi rfl R5.out.bh ?_)
          refine (add_n HI.out.sm1.2.2 _).mono ?_
          rintro e w6 ⟨rfl, hb6⟩
          have R6 := Lib.hid (R5.out.bl hb6)
          clear hb6
          go_wp2_with (fail)
          refine (half_n HI.out.sm1.2.2 _).mono ?_
          rintro e w7 ⟨rfl, hb7⟩
          have R7 := Lib.hid (R6.out.bl hb7)
          have Z7 := Lib.hid (BN.zero w7)
          clear hb7
          rw [show (lo + hi) / 2 = mid lo hi from rfl]
          go_wp2_with (refine num_store (o := ⟨none, .store 63 (.tmp 7) (.tmp 25), _, _, _, _⟩) rfl (.tmp 7) (.tmp 25) rfl w7.heap.size (mid lo hi) 0 rfl rfl Z7.out ?_)
          obtain ⟨W8, hW8⟩ : ∃ W8, W8 = (w7.alloc (.cells #[.int .u64 0, .int .u64 0, .int .u64 0, .int .u64 0, .int .u64 0, .int .u64 0, .int .u64 0, .int .u64 0, .int .u64 0, .int .u64 0, .int .u64 0, .int .u64 0, .int .u64 0, .int .u64 0, .int .u64 0, .int .u64 0, .int .u64 0] 63)).setRow w7.heap.size (bg (mid lo hi)) := ⟨_, rfl⟩
          have R8 : Hid (RW w V o h lo 1 hi W8) := Lib.hid (by
            rw [hW8]; exact R7.out.bl (bl_row (bl_alloc (Below.refl _ _) _) (Nat.le_refl _) _))
          have Z8 : Hid (BN W8 w7.heap.size (mid lo hi)) := Lib.hid (by rw [hW8]; exact Z7.out.put _)
          rw [← hW8]
          obtain ⟨q, hq⟩ : ∃ q, q = w7.heap.size := ⟨_, rfl⟩
          rw [← hq] at Z8 ⊢
          clear hW8 hq Z7 R7 R6
          refine region_calm (by kernel_rfl) (by kernel_rfl) ?_
          repeat (first | (refine BigFrame.wpQuiet_want rfl (fun K hK => ?_); (first | refine calm_num (o := ⟨some 26, .load 63 (.tmp 1), _, _, _, _⟩) (.tmp 1) rfl w.heap.size V rfl R8.out.a ?_ | refine calm_num (o := ⟨some 27, .load 63 (.tmp 7), _, _, _, _⟩) (.tmp 7) rfl q (mid lo hi) rfl Z8.out ?_ | refine calm_num (o := ⟨some 28, .load 63 (.tmp 7), _, _, _, _⟩) (.tmp 7) rfl q (mid lo hi) rfl Z8.out ?_); refine hK _ ?_; clear hK K) | (quiet_step ((first | (go_at_call 28; exact calm_of (times_n HI.out.mid_bd.1 HI.out.mid_bd.1 _)) | (go_at_call 36; exact calm_of (less_n SV.out HI.out.mid_bd.2 _))))))
          refine wpQuiet_nil ?_
          intro w9 hw'
          have R9 := Lib.hid (R8.out.bl (below_of_ext hw'))
          have Z9 := Lib.hid (Z8.out.below (below_of_ext hw'))
          clear hw' R8 Z8
          by_cases hm : V < mid lo hi * mid lo hi
          · have I2 := Lib.hid (HI.out.up hm)
            have hdm : decide (V < mid lo hi * mid lo hi) = true := by simpa using hm
            have ml := Lib.hid (HI.out.mid_lt HC.out)
            rw [hdm]
            clear hm hdm
            go_wp2_with (first | refine num_load (o := ⟨some 31, .load 63 (.tmp 7), _, _, _, _⟩) rfl (.tmp 7) rfl q (mid lo hi) rfl Z9.out ?_ | refine num_store (o := ⟨none, .store 63 (.tmp 5) (.tmp 31), _, _, _, _⟩) rfl (.tmp 5) (.tmp 31) rfl h (mid lo hi) hi rfl rfl R9.out.bh ?_)
            go_frame
            go_roundw
            case rel => exact ⟨lo, mid lo hi, I2.out, R9.out.setH _⟩
            case measure =>
              have h1 := (R9.out.setH (mid lo hi))
              rw [MS.out, bv_num h1.bh I2.out.sm1.2.1, bv_num h1.l (by have := I2.out.sm1.1; unfold Sm at *; omega)]
              have := ml.out; omega
          · have I2 := Lib.hid (HI.out.down hm)
            have hdm : decide (V < mid lo hi * mid lo hi) = false := by simpa using hm
            have ml := Lib.hid (HI.out.mid_lt HC.out)
            rw [hdm]
            clear hm hdm
            go_wp2_with (first | refine num_load (o := ⟨some 32, .load 63 (.tmp 7), _, _, _, _⟩) rfl (.tmp 7) rfl q (mid lo hi) rfl Z9.out ?_ | refine num_store (o := ⟨none, .store 63 (.tmp 3) (.tmp 32), _, _, _, _⟩) rfl (.tmp 3) (.tmp 32) rfl (w.heap.size + 2) (mid lo hi) lo rfl rfl R9.out.l ?_)
            go_frame
            go_roundw
            case rel => exact ⟨mid lo hi, hi, I2.out, R9.out.setL _⟩
            case measure =>
              have h1 := (R9.out.setL (mid lo hi))
              rw [MS.out, bv_num h1.bh I2.out.sm1.2.1, bv_num h1.l (by have := I2.out.sm1.1; unfold Sm at *; omega)]
              have := ml.out; omega
        · have hd : decide (lo + 1 < hi) = false := by simpa using hc
          have HF := Lib.hid (HI.out.done hc)
          have HD := Lib.hid hd
          clear hc hd
          go_wp2_with (fail)
          refine region_calm (by kernel_rfl) (by kernel_rfl) ?_
          repeat (first | (refine BigFrame.wpQuiet_want rfl (fun K hK => ?_); (first | refine calm_num (o := ⟨some 17, .load 63 (.tmp 3), _, _, _, _⟩) (.tmp 3) rfl (w.heap.size + 2) lo rfl HR.out.l ?_ | refine calm_num (o := ⟨some 18, .load 63 (.tmp 4), _, _, _, _⟩) (.tmp 4) rfl o 1 rfl HR.out.bo ?_ | refine calm_num (o := ⟨some 20, .load 63 (.tmp 5), _, _, _, _⟩) (.tmp 5) rfl h hi rfl HR.out.bh ?_); refine hK _ ?_; clear hK K) | (quiet_step ((first | (go_at_call 27; exact calm_of (add_n HI.out.sm1.1 _)) | (go_at_call 36; exact calm_of (less_n HI.out.sm1.1 HI.out.sm1.2.1 _))))))
          refine wpQuiet_nil ?_
          intro w5 hw'
          have R5 := Lib.hid (HR.out.bl (below_of_ext hw'))
          clear hw'
          rw [HD.out]
          go_wp2_with (first | refine num_load (o := ⟨some 33, .load 63 (.tmp 3), _, _, _, _⟩) rfl (.tmp 3) rfl (w.heap.size + 2) lo rfl R5.out.l ?_ | refine num_store (o := ⟨none, .store 63 (.tmp 2) (.tmp 33), _, _, _, _⟩) rfl (.tmp 2) (.tmp 33) rfl (w.heap.size + 1) lo 0 rfl rfl R5.out.z ?_)
          exact num_ret' rfl rfl rfl (R5.out.z.put lo) (bl_row R5.out.below (by omega) _) HF.out
end Go.Proofs.Ytfjhlgmdkkdooaa
