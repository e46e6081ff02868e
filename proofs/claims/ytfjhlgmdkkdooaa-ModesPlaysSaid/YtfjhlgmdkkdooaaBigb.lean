/-
  The walks of the reference's Add, Half, Times, Abs, Signed on numbers of 17 digits. Conditions: those that each theorem names.
-/
import Derived.Test.YtfjhlgmdkkdooaaBig
namespace Go.Proofs.Ytfjhlgmdkkdooaa
open Go.RowKit Kit
set_option linter.unusedVariables false
theorem zlit : (big zeros) = #[.int .u64 0, .int .u64 0, .int .u64 0, .int .u64 0, .int .u64 0, .int .u64 0, .int .u64 0, .int .u64 0, .int .u64 0, .int .u64 0, .int .u64 0, .int .u64 0, .int .u64 0, .int .u64 0, .int .u64 0, .int .u64 0, .int .u64 0] := rfl
theorem big_one (L : List Nat) : (big L).all (·.oneCell') = true := by
  rw [Array.all_eq_true_iff_forall_mem]
  intro v hv
  simp [big] at hv
  obtain ⟨n, _, rfl⟩ := hv
  rfl
theorem big_load {ops : Array Oper} {rest : List Oper} {o : Oper} {a : Act} {w : World} {Q : Exit → Act → World → Prop} (hgd : o.guard = none) (x : Operand) (ho : o.op = .load 63 x)
    (g : Nat) (L : List Nat) (hx : a.eval x = .pointer (some ⟨g, 0, none⟩)) (hg : BB w g L) (hL : okB L) (h : wpList Try.prog ops Q rest (a.put o.dst (.agg (big L))) w) : wpList Try.prog ops Q (o :: rest) a w :=
  wpList_load_row hgd 63 x ho g hx 63 (big L) (0, 0) _ hg und63 rfl (by rw [siz63, big_size hL]) h
theorem big_store {ops : Array Oper} {rest : List Oper} {o : Oper} {a : Act} {w : World} {Q : Exit → Act → World → Prop} (hgd : o.guard = none) (x y : Operand) (ho : o.op = .store 63 x y)
    (g : Nat) (L L0 : List Nat) (hx : a.eval x = .pointer (some ⟨g, 0, none⟩)) (hy : a.eval y = .agg (big L)) (hg : BB w g L0) (hL0 : okB L0) (hL : okB L)
    (h : wpList Try.prog ops Q rest (a.put o.dst undef) (w.setRow g (big L))) : wpList Try.prog ops Q (o :: rest) a w :=
  wpList_store_row hgd 63 x y ho g (big L) hx hy 63 (big L0) hg (by rw [siz63, big_size hL]) (by rw [big_size hL0, big_size hL]) (big_one L) h
theorem BB.put {w : World} {g : Nat} {L0 : List Nat} (h : BB w g L0) (L : List Nat) : BB (w.setRow g (big L)) g L := setRow_heap _ _ _ _ _ _ h
theorem BB.putNe {w : World} {g k : Nat} {L0 : List Nat} (h : BB w g L0) (hne : g ≠ k) (L : List Nat) : BB (w.setRow k (big L)) g L0 := by
  unfold BB; rw [setRow_other _ _ _ _ hne]; exact h
theorem bl_row {a b : World} (g : Below a.heap.size a b) {k : Nat} (hk : a.heap.size ≤ k) (cs : Array Value) : Below a.heap.size a (b.setRow k cs) :=
  ⟨g.os, g.tape, g.output, by rw [size_setRow]; exact g.size, fun i hi => by rw [setRow_other _ _ _ _ (by omega)]; exact g.block i hi⟩
theorem big_ret {w W : World} {fn : Func} {v : Nat} {p : Tmp} {a : Act} {g : Nat} {L : List Nat} (h : fn.results = #[.cell p 63]) (hd : a.defers = []) (hp : a.tmps.getD p undef = .pointer (some ⟨g, 0, none⟩)) (hg : BB W g L) (hL : okB L) (hv : val L = v) (hb : Below w.heap.size w W) :
    bodyPost Try.prog fn (fun e w' => RB v w e w') .ret a W :=
  bodyPost_ret (results_cell_row h _ _ g 63 (big L) (0, 0) _ hp hg und63 rfl (by rw [siz63, big_size hL])) hd ⟨L, rfl, hL, hv, hb⟩
theorem mod_bd (n : Nat) : n % 65536 < 65536 := Nat.mod_lt _ (by omega)
set_option maxHeartbeats 1600000 in
theorem add_any (A B : List Nat) (hA : okB A) (hB : okB B) (hs : val A + val B < 65536 ^ 17) (w : World) : Calls Try.prog 27 #[.agg (big A), .agg (big B)] w fun e w' => RB (val A + val B) w e w' := by
  have HA := Lib.hid hA; have HB := Lib.hid hB; have HS := Lib.hid hs
  clear hA hB hs
  go_enter Try.func27, Try.ntmps27
  go_wp2_with (fail)
  obtain ⟨W0, hW⟩ : ∃ W0, W0 = ((w.alloc (.cells (big A) 63)).alloc (.cells (big B) 63)).alloc (.cells #[.int .u64 0, .int .u64 0, .int .u64 0, .int .u64 0, .int .u64 0, .int .u64 0, .int .u64 0, .int .u64 0, .int .u64 0, .int .u64 0, .int .u64 0, .int .u64 0, .int .u64 0, .int .u64 0, .int .u64 0, .int .u64 0, .int .u64 0] 63) := ⟨_, rfl⟩
  have PA : Hid (BB W0 w.heap.size A) := Lib.hid (by rw [hW]; exact ((BB.new w A).old _).old _)
  have PB : Hid (BB W0 (w.heap.size + 1) B) := Lib.hid (by rw [hW]; have := (BB.new (w.alloc (.cells (big A) 63)) B).old (.cells #[.int .u64 0, .int .u64 0, .int .u64 0, .int .u64 0, .int .u64 0, .int .u64 0, .int .u64 0, .int .u64 0, .int .u64 0, .int .u64 0, .int .u64 0, .int .u64 0, .int .u64 0, .int .u64 0, .int .u64 0, .int .u64 0, .int .u64 0] 63); simpa using this)
  have PZ : Hid (BB W0 (w.heap.size + 1 + 1) zeros) := Lib.hid (by rw [hW, ← zlit]; simpa using BB.new ((w.alloc (.cells (big A) 63)).alloc (.cells (big B) 63)) zeros)
  have BL : Hid (Below w.heap.size w W0) := Lib.hid (by rw [hW]; exact bl_alloc (bl_alloc (bl_alloc (Below.refl _ _) _) _) _)
  rw [← hW]
  clear hW
  go_loopw [5, 6] (fun c i wr => ∃ (k cc : Nat) (D : List Nat), k ≤ 17 ∧ i = .int .i64 k ∧ c = .int .u64 cc ∧ cc ≤ 1 ∧ okB D ∧ (∀ j, k ≤ j → D.getD j 0 = A.getD j 0) ∧ pv D k + cc * 65536 ^ k = pv A k + pv B k ∧ BB wr w.heap.size D ∧ BB wr (w.heap.size + 1) B ∧ BB wr (w.heap.size + 1 + 1) zeros ∧ Below w.heap.size w wr) (fun _ i _ => 17 - (intOf i).toNat)
  case atStart => exact ⟨0, 0, A, by omega, rfl, rfl, by omega, HA.out, fun j _ => rfl, by simp [pv], PA.out, PB.out, PZ.out, BL.out⟩
  case round =>
    clear PA PB PZ BL
    obtain ⟨k, cc, D, hk, rfl, rfl, hc1, hD, he, hv, hPA, hPB, hPZ, hBL⟩ := hrel
    have HE := Lib.hid he; have HD := Lib.hid hD; have HV := Lib.hid hv; have QA := Lib.hid hPA; have QB := Lib.hid hPB; have QZ := Lib.hid hPZ; have BL := Lib.hid hBL
    clear he hD hv hPA hPB hPZ hBL
    have hlA := QA.out.lt
    have hlB := QB.out.lt
    by_cases hlt : k < 17
    · have h0 : (0 : Int) ≤ (k : Int) := by omega
      have h1 : (k : Int) < 17 := by omega
      have y1 := QA.out.cell HD.out (i := k) hlt
      have y2 := QB.out.cell HB.out (i := k) hlt
      have f1 : ∀ j, wr.frozen? ⟨w.heap.size, j, none⟩ = false := fun j => QA.out.free j
      rw [HE.out k (Nat.le_refl _)] at y1
      obtain ⟨x, hx⟩ : ∃ x, x = A.getD k 0 := ⟨_, rfl⟩
      obtain ⟨y, hy⟩ : ∃ y, y = B.getD k 0 := ⟨_, rfl⟩
      have bx : x < 65536 := by rw [hx]; exact HA.out.lt k
      have by' : y < 65536 := by rw [hy]; exact HB.out.lt k
      rw [← hx] at y1
      rw [← hy] at y2
      have HX := Lib.hid hx; have HY := Lib.hid hy
      clear hx hy
      go_wp2_with (fail)
      go_quiet (fail)
      go_wp2_with (fail)
      have e1 : ((cc : Int) + (x : Int) + (y : Int)) % 65536 = (((cc + x + y) % 65536 : Nat) : Int) := by omega
      have e2 : ((cc : Int) + (x : Int) + (y : Int)) / 65536 = (((cc + x + y) / 65536 : Nat) : Int) := by omega
      rw [e1, e2]
      go_roundw
      case rel =>
        refine ⟨k + 1, (cc + x + y) / 65536, D.set k ((cc + x + y) % 65536), by omega, by go_num, rfl, by omega, HD.out.set _ _ (mod_bd _), fun j hj => ?_, ?_, (QA.out.drewN _).set _ _, (QB.out.drewN _).apart (by omega) _ _, (QZ.out.drewN _).apart (by omega) _ _, (below_drewN BL.out _).setCell (Nat.le_refl _) _⟩
        · rw [set_get _ _ _ _ (by have := HD.out.len; omega), if_neg (by omega)]; exact HE.out j (by omega)
        · have hp : pv (D.set k ((cc + x + y) % 65536)) k + cc * 65536 ^ k = pv A k + pv B k := by rw [pv_set _ (Nat.le_refl _)]; exact HV.out
          have := add_step hp (by rw [set_get _ _ _ _ (by have := HD.out.len; omega), if_pos rfl, HX.out, HY.out])
          rw [← HX.out, ← HY.out] at this
          exact this
      case measure => simp [intOf]; omega
    · obtain rfl : k = 17 := by omega
      have hv0 := add_end HV.out HS.out
      have HF := Lib.hid hv0; clear hv0
      go_wp2_with (first | refine big_load (o := ⟨some 26, .load 63 (.tmp 2), _, _, _, _⟩) rfl (.tmp 2) rfl w.heap.size D rfl QA.out HD.out ?_ | refine big_store (o := ⟨none, .store 63 (.tmp 4) (.tmp 26), _, _, _, _⟩) rfl (.tmp 4) (.tmp 26) rfl (w.heap.size + 1 + 1) D zeros rfl rfl QZ.out zeros_ok HD.out ?_)
      exact big_ret rfl rfl rfl (QZ.out.put D) HD.out HF.out (bl_row BL.out (by omega) _)
end Go.Proofs.Ytfjhlgmdkkdooaa
