/-
  The walk of fields.Get. Conditions: a string that fits into memory.
-/
import Derived.Test.YtjeaccpocpfkgaaEach
namespace Go.Proofs.Ytjeaccpocpfkgaa
open Go.RowKit Go.Shelf Kit
attribute [local go_sem] Oper.semAt_some
set_option linter.unusedVariables false
def numL (pre : List Bit) : Nat := pre.foldl (fun v b => 2 * v + b.1) 0
theorem numL_snoc (pre : List Bit) (x : Bit) : numL (pre ++ [x]) = 2 * numL pre + x.1 := by simp [numL]
theorem numL_bitL (d : ByteArray) (a : Nat) : ∀ k, numL (bitL d a k) = numB (lst d) a k
  | 0 => rfl
  | k + 1 => by rw [bitL_succ, numL_snoc, numL_bitL d a k, numB]
theorem numL_lt (pre : List Bit) : numL pre < 2 ^ pre.length := by
  unfold numL
  suffices h : ∀ (l : List Bit) (v m : Nat), v < 2 ^ m → l.foldl (fun v b => 2 * v + b.1) v < 2 ^ (m + l.length) by
    have := h pre 0 0 (by simp)
    simpa using this
  intro l
  induction l with
  | nil => intro v m h; simpa using h
  | cons b l ih =>
    intro v m h
    have := ih (2 * v + b.1) (m + 1) (by have := b.2; rw [Nat.pow_succ]; omega)
    rw [List.foldl_cons, List.length_cons]
    rw [show m + (l.length + 1) = m + 1 + l.length by omega]
    exact this
theorem pow63 {k : Nat} (h : k ≤ 63) : 2 ^ k ≤ 9223372036854775808 := by
  have : 2 ^ k ≤ 2 ^ 63 := Nat.pow_le_pow_right (by decide) h
  exact Nat.le_trans this (by decide)
/-- What Get returns. -/
def getR (d : ByteArray) (a wd : Int) : Value := if chk d.size a wd = 0 then .tuple #[.int .u64 (numB (lst d) a.toNat wd.toNat : Nat), .int .i64 0] else .tuple #[.int .u64 0, .int .i64 (chk d.size a wd)]
theorem get_bad (d : ByteArray) (a wd : Int) (w : World) (hb : d.size ≤ maxLen) (hc : chk d.size a wd ≠ 0) : Calls Try.prog 10 #[.string d, .int .i64 a, .int .i64 wd] w fun e w' => e = .returned (.tuple #[.int .u64 0, .int .i64 (chk d.size a wd)]) ∧ w = w' := by
  obtain ⟨E, hE⟩ : ∃ E, Hid (chk d.size a wd = E) := ⟨_, Lib.hid rfl⟩
  rw [hE.out] at hc ⊢
  have hn : (E != 0) = true := by simpa using hc
  clear hc
  go_enter Try.func10, Try.ntmps10
  go_wp2_with (fail)
  refine (check_any d a wd _ hb).mono ?_
  rw [hE.out]
  rintro e _ ⟨rfl, rfl⟩
  go_wp2_with (fail)
  go_ret2
  exact ⟨rfl, rfl⟩
theorem shl_or (v b : Nat) (hb : b < 2) : v * 2 ||| b = 2 * v + b := by
  have := Nat.shiftLeft_add_eq_or_of_lt (b := b) (i := 1) (by simpa using hb) v
  rw [Nat.shiftLeft_eq, Nat.pow_one] at this
  omega
theorem or_in (v b : Nat) (hv : v < 9223372036854775808) (hb : b < 2) : bits BinOp.or IntKind.u64 ((v : Int) * 2) (b : Int) = ((2 * v + b : Nat) : Int) := by
  have e : ((v : Int) * 2) = ((v * 2 : Nat) : Int) := by omega
  rw [e, u64_or_nat (v * 2) b (by omega) (by omega), shl_or v b hb]
def getI (w : World) (B : Nat) (d : ByteArray) (a wd : Nat) (pre : List Bit) (W : World) : Prop :=
  (Boxed W B 23 (.int .u64 (numL pre : Nat)) ∧ Boxed W (B + 1) 9 (.string d) ∧ Boxed W (B + 2) 3 (.int .i64 a) ∧ Boxed W (B + 3) 3 (.int .i64 wd)) ∧ Below w.heap.size w W
set_option maxRecDepth 100000 in
set_option maxHeartbeats 1600000 in
theorem get_good (d : ByteArray) (a wd : Nat) (w : World) (hb : d.size ≤ maxLen) (hc : chk d.size a wd = 0) : Calls Try.prog 10 #[.string d, .int .i64 a, .int .i64 wd] w fun e w' => e = .returned (.tuple #[.int .u64 (numB (lst d) a wd : Nat), .int .i64 0]) ∧ Below w.heap.size w w' := by
  obtain ⟨k1, k2, k3, k4, k5⟩ := chk_in hc
  have HC := Lib.hid hc
  clear hc
  refine (callsIn_wide (n := 5)).1 ?_
  refine callsIn_of_wp_marks Try.func10 rfl trivial ?_ rfl
  simp only [Try.ntmps10, List.size_toArray, List.length_cons, List.length_nil, Nat.reduceAdd, Nat.reduceSub, Array.replicate_succ, Array.replicate_zero, List.push_toArray, List.append_toArray, List.nil_append, List.cons_append]
  refine wpIn_wide.2 ?_
  go_wp2_with (fail)
  refine (check_any d a wd _ hb).mono ?_
  rw [HC.out]
  rintro e _ ⟨rfl, rfl⟩
  go_wp2_with (fail)
  obtain ⟨B, hB⟩ : ∃ B, B = w.heap.size := ⟨_, rfl⟩
  obtain ⟨w4, hw4⟩ : ∃ w4, w.alloc (.cells #[.int .u64 0] 23) = w4 := ⟨_, rfl⟩
  have V4 : Hid (Boxed w4 B 23 (.int .u64 0)) := Lib.hid (by rw [← hw4, hB]; exact Boxed.new w 23 _)
  have hb4 : Hid (Below w.heap.size w w4) := Lib.hid (by rw [← hw4]; exact bl_alloc (Below.refl _ _) _)
  have s4 : Hid (w4.heap.size = B + 1) := Lib.hid (by rw [← hw4, hB]; simp)
  have hwB : Hid (w.heap.size = B) := Lib.hid hB.symm
  rw [hw4, ← hB]
  clear hw4 hB
  refine (each_any d a wd w4).mono ?_
  rintro e w5 ⟨rfl, h5⟩
  go_wp2_with (fail)
  refine (wpIn_wide (n := 5)).1 ?_
  have c4 : w4.heap.size = B + 1 := s4.out
  simp only [c4]
  obtain ⟨W6, hW6⟩ : ∃ W6, W6 = ((w4.alloc (.cells #[.string d] 9)).alloc (.cells #[.int .i64 a] 3)).alloc (.cells #[.int .i64 wd] 3) := ⟨_, rfl⟩
  have bV : Boxed W6 B 23 (.int .u64 0) := by rw [hW6]; exact ((V4.out.alloc _).alloc _).alloc _
  have bD : Boxed W6 (B + 1) 9 (.string d) := by rw [hW6, ← c4]; exact ((Boxed.new w4 9 (.string d)).alloc _).alloc _
  have bA : Boxed W6 (B + 2) 3 (.int .i64 a) := by
    rw [hW6]; have := (Boxed.new (w4.alloc (.cells #[.string d] 9)) 3 (.int .i64 a)).alloc (.cells #[.int .i64 wd] 3); rw [World.size_alloc, c4] at this; exact this
  have bW : Boxed W6 (B + 3) 3 (.int .i64 wd) := by
    rw [hW6]; have := Boxed.new ((w4.alloc (.cells #[.string d] 9)).alloc (.cells #[.int .i64 a] 3)) 3 (.int .i64 wd); rw [World.size_alloc, World.size_alloc, c4] at this; exact this
  have c6 : W6.heap.size = B + 4 := by rw [hW6]; simp [World.size_alloc, c4]
  have b6 : Below w.heap.size w W6 := by rw [hW6]; exact bl_alloc (bl_alloc (bl_alloc hb4.out _) _) _
  have hwB' := hwB.out
  rw [← hW6]
  clear hW6 c4 s4 V4 hb4 hb
  refine wpIn_rangeFunc_ownG rfl (show 1 ≤ 5 by omega) (gf := 46) (lb := #[.pointer (some ⟨B + 1 + 1, 0, none⟩), .pointer (some ⟨B + 1 + 2, 0, none⟩), .pointer (some ⟨B + 1, 0, none⟩)]) rfl trivial (enters_of Try.func46 (by kernel_rfl) rfl)
    (each1_stops 4 (show 1 ≤ 4 by omega) (B + 1) d (by omega) a wd (by omega) W6 (by omega) bA.cell bW.cell bD.cell) keep3_t (keep3_b (by omega)) (Below.refl _ _) (fun _ => rfl)
    (getI w B d a wd)
    (fun _ _ _ => False)
    (OwnFrom.and (((boxed_own B 23 (fun pre => .int .u64 (numL pre : Nat))).from _).and (((boxed_own (B + 1) 9 (fun _ => .string d)).from _).and (((boxed_own (B + 2) 3 (fun _ => .int .i64 a)).from _).and ((boxed_own (B + 3) 3 (fun _ => .int .i64 wd)).from _)))) (ownFrom_below (Nat.le_refl _) (by omega)))
    (fun _ _ _ _ _ hs _ _ => hs)
    ⟨⟨bV, bD, bA, bW⟩, b6⟩
    (fun x => { tmps := #[Value.string d, Value.int IntKind.i64 a, Value.int IntKind.i64 wd, undef, undef, undef,
          Value.int IntKind.u64 0, Value.int IntKind.i64 0, Value.int IntKind.i64 0,
          Value.pointer (some { block := B, off := 0 }), .int .u64 ((x.1 : Nat) : Int), Value.string d, Value.int IntKind.i64 a,
          Value.int IntKind.i64 wd, Value.int IntKind.i64 0, Value.int IntKind.i64 0, Value.bool false, undef,
          Value.string d, Value.int IntKind.i64 a, Value.int IntKind.i64 wd,
          Value.func (Fn.func 46) #[]
            #[Value.pointer (some { block := B + 1 + 1, off := 0 }),
              Value.pointer (some { block := B + 1 + 1 + 1, off := 0 }),
              Value.pointer (some { block := B + 1, off := 0 })],
          .int .u64 ((x.1 : Nat) : Int), undef, undef, undef, undef, undef], defers := [] }) ?assign ?body ?done ?stop
  case assign =>
    intro l x W K hK
    gi_wp2
    exact hK
  case body =>
    rintro l pre x W ⟨⟨hV, hD, hA, hW⟩, hBW⟩ hlt
    obtain ⟨v, hv⟩ : ∃ v, v = numL pre := ⟨_, rfl⟩
    have hv63 : v < 9223372036854775808 := by rw [hv]; exact Nat.lt_of_lt_of_le (numL_lt pre) (pow63 (by omega))
    have hs := numL_snoc pre x
    rw [← hv] at hs hV
    obtain ⟨b, hb⟩ := x
    simp only at hs
    have cV := hV.cell
    have fV := hV.frozen
    have HS := Lib.hid hs; have HV := Lib.hid hv
    have HD := Lib.hid hD; have HA := Lib.hid hA; have HW := Lib.hid hW; have HBW := Lib.hid hBW; have HVB := Lib.hid hV
    clear hs hv hD hA hW hBW hV
    gi_wp2
    rw [or_in v b hv63 hb, ← HS.out]
    refine ⟨(KeepsOthers.setCell _ _ _).from _, ⟨Below.heap_setCell _ _ _ _ (by show B + 1 ≠ B; omega), Below.heap_setCell _ _ _ _ (by show B + 1 + 1 ≠ B; omega), Below.heap_setCell _ _ _ _ (by show B + 1 + 2 ≠ B; omega)⟩, ⟨HVB.out.set _, HD.out.other (by omega) _, HA.out.other (by omega) _, HW.out.other (by omega) _⟩, HBW.out.setCell (p := ⟨B, 0, none⟩) (by show w.heap.size ≤ B; omega) _⟩
  case done =>
    rintro D ys W hD rfl ⟨⟨hV, hDd, hA, hW⟩, hBW⟩ hK
    rw [numL_bitL] at hV
    have cV := hV.cell
    have HBW := Lib.hid hBW; have HDD := Lib.hid hD; have C6 := Lib.hid c6; have HV := Lib.hid hV
    clear hBW hD c6 hV hDd hA hW
    go_wp2_with (fail)
    refine ⟨by simp, .inl ⟨_, _, rfl, run_takeDeferred hK, ?_⟩⟩
    exact ⟨_, results_tmp2 rfl _ _ _, rfl, HBW.out.trans (belowK_b (w := w) (Nat.le_refl _) W D _ _ (by have := HDD.out; have := C6.out; omega) hK rfl rfl)⟩
  case stop =>
    rintro D c pre W _ _ h _
    exact h.elim
end Go.Proofs.Ytjeaccpocpfkgaa
