/-
  The walk of need. Conditions: none.
-/
import Derived.Test.YtdebfniifijjoaaDoorM07
namespace Go.Proofs.YtdebfniifijjoaaDoor
open Go.RowKit Kit Go.Shelf
set_option linter.unusedVariables false
/-- The panic of a bank that is not valid. -/
def invP : Ending := .panicked [{ v := .iface 142 (.agg #[]), recovered := false }]
set_option maxHeartbeats 400000 in
theorem need_ok (w : World) : Calls Tryd.prog 87 #[.bool true] w fun e w' => e = .returned (.tuple #[]) ∧ w = w' := by
  go_enter Tryd.func87, Tryd.ntmps87
  go_wp2_with (fail)
  go_end0
  exact ⟨rfl, rfl⟩
set_option maxHeartbeats 400000 in
theorem need_no (w : World) : Calls Tryd.prog 87 #[.bool false] w fun e w' => e = invP ∧ w = w' := by
  go_enter Tryd.func87, Tryd.ntmps87
  go_wp2_with (fail)
  exact ⟨rfl, rfl, rfl⟩
end Go.Proofs.YtdebfniifijjoaaDoor
/-
  The walks of begun and Cancel. Conditions: a store that is one.
-/
namespace Go.Proofs.YtdebfniifijjoaaDoor
open Go.RowKit Kit Go.Shelf
set_option linter.unusedVariables false
set_option maxHeartbeats 400000 in
theorem begun_no {w : World} {bs bm base size : Nat} (h : ST w bs bm base size (.pointer none)) : Calls Tryd.prog 55 #[.pointer (some ⟨bs, 0, none⟩)] w fun e w' => e = .returned (.int .i64 9) ∧ w = w' := by
  have NO := Lib.hid (none_any h)
  have c3 : w.cell? ⟨bs, 3, none⟩ = some (.pointer none) := cell_of h rfl
  clear h
  go_enter Tryd.func55, Tryd.ntmps55
  go_wp2_with (fail)
  refine NO.out.mono ?_
  rintro e _ ⟨rfl, rfl⟩
  go_wp2_with (fail)
  go_ret
  exact ⟨rfl, rfl⟩
set_option maxHeartbeats 400000 in
theorem begun_yes {w : World} {bs bm base size g : Nat} (h : ST w bs bm base size (.pointer (some ⟨g, 0, none⟩))) : Calls Tryd.prog 55 #[.pointer (some ⟨bs, 0, none⟩)] w fun e w' => e = .returned (.int .i64 0) ∧ w = w' := by
  have NO := Lib.hid (none_any h)
  have c3 : w.cell? ⟨bs, 3, none⟩ = some (.pointer (some ⟨g, 0, none⟩)) := cell_of h rfl
  clear h
  go_enter Tryd.func55, Tryd.ntmps55
  go_wp2_with (fail)
  refine NO.out.mono ?_
  rintro e _ ⟨rfl, rfl⟩
  go_wp2_with (fail)
  go_ret
  exact ⟨rfl, rfl⟩
set_option maxHeartbeats 400000 in
theorem cancel_yes {w : World} {bs bm base size g : Nat} (h : ST w bs bm base size (.pointer (some ⟨g, 0, none⟩))) : Calls Tryd.prog 53 #[.pointer (some ⟨bs, 0, none⟩)] w fun e w' => e = .returned (.int .i64 0) ∧ ST w' bs bm base size (.pointer none) ∧ Mod (fun k => k = bs) w w' := by
  have BG := Lib.hid (begun_yes h)
  have c3 : w.cell? ⟨bs, 3, none⟩ = some (.pointer (some ⟨g, 0, none⟩)) := cell_of h rfl
  have f0 : ∀ j, w.frozen? ⟨bs, j, none⟩ = false := fun j => free_of h
  have NX : Hid (ST (w.setCell ⟨bs, 3, none⟩ (.pointer none)) bs bm base size (.pointer none)) := Lib.hid (hp_set (i := 3) h (.pointer none))
  clear h
  go_enter Tryd.func53, Tryd.ntmps53
  go_wp2_with (fail)
  refine BG.out.mono ?_
  rintro e _ ⟨rfl, rfl⟩
  go_wp2_with (fail)
  go_ret
  exact ⟨rfl, NX.out, mod_at (Mod.refl _ _) _⟩
end Go.Proofs.YtdebfniifijjoaaDoor
/-
  The walk of Data. Conditions: nothing staged; or the whole of what is staged.
-/
namespace Go.Proofs.YtdebfniifijjoaaDoor
open Go.RowKit Kit Go.Shelf
set_option linter.unusedVariables false
set_option maxHeartbeats 400000 in
theorem data_no {w : World} {bs bm base size : Nat} (h : ST w bs bm base size (.pointer none)) (k : Int) (d : ByteArray) : Calls Tryd.prog 35 #[.pointer (some ⟨bs, 0, none⟩), .int .i64 k, .string d] w fun e w' => e = .returned (.int .i64 9) ∧ w = w' := by
  have BG := Lib.hid (begun_no h)
  clear h
  go_enter Tryd.func35, Tryd.ntmps35
  go_wp2_with (fail)
  refine BG.out.mono ?_
  rintro e _ ⟨rfl, rfl⟩
  go_wp2_with (fail)
  go_ret
  exact ⟨rfl, rfl⟩
/-- What is staged, as it lies. -/
def SG (w : World) (g id sum len bank : Nat) : Prop := w.heap[g]? = some (.cells #[.int .u32 id, .int .u32 sum, .int .i64 len, .int .i64 bank] 118)
set_option maxRecDepth 100000 in
set_option maxHeartbeats 1600000 in
theorem data_all {w : World} {bs bm bw base size g id sum bank n safe : Nat} {s : MS} {S : ByteArray} (h : ST w bs bm base size (.pointer (some ⟨g, 0, none⟩))) (hg : SG w g id sum S.size bank) (hM : ME w bm bw n safe s) (hT : Tab w) (h1 : 4 ≤ size) (h2 : size ≤ 8192) (hb : base ≤ 10000)
    (hk : bank < 2) (hn : base + bank * half size + 5 ≤ n) (hS : S.size ≤ 4 * (n - (base + bank * half size + 5))) :
    Calls Tryd.prog 35 #[.pointer (some ⟨bs, 0, none⟩), .int .i64 0, .string S] w fun e w' => OkQ bm bw n safe (s.wr (base + bank * half size + 5) S ((S.size + 3) / 4)) w e w' := by
  have BG := Lib.hid (begun_yes h)
  have c0 : w.cell? ⟨bs, 0, none⟩ = some (.pointer (some ⟨bm, 0, none⟩)) := cell_of h rfl
  have c3 : w.cell? ⟨bs, 3, none⟩ = some (.pointer (some ⟨g, 0, none⟩)) := cell_of h rfl
  have d2 : w.cell? ⟨g, 2, none⟩ = some (.int .i64 S.size) := cell_of hg rfl
  have d3 : w.cell? ⟨g, 3, none⟩ = some (.int .i64 bank) := cell_of hg rfl
  have hbs : bs < w.heap.size := lt_of_obj h
  have hgl : g < w.heap.size := lt_of_obj hg
  have hN := hM.size
  have AT : Hid (∀ (w' : World), ST w' bs bm base size (.pointer (some ⟨g, 0, none⟩)) → Calls Tryd.prog 57 #[.pointer (some ⟨bs, 0, none⟩), .int .i64 bank] w' fun e w'' => e = .returned (.int .i64 ((base + bank * half size : Nat) : Int)) ∧ Below w'.heap.size w' w'') := Lib.hid (fun w' h' => (at_any h' hb h1 h2 bank hk).mono fun e w'' ⟨he, x, hx⟩ => ⟨he, by rw [hx]; exact below_ext _ x⟩)
  have HST := Lib.hid h
  obtain ⟨y, hy⟩ : ∃ y, y = base + bank * half size := ⟨_, rfl⟩
  rw [← hy] at AT hn hS ⊢
  have WB := Lib.hid (fun (w' : World) (hb : Below w.heap.size w w') => wrb_any (hM.below hb) (hT.below hb) (y + 5) S hS hn)
  have nes : ((S.size : Int) != (S.size : Int)) = false := by simp
  have dl : decide ((S.size : Int) < (S.size : Int)) = false := by simp
  clear h hg hM hT hy
  go_enter Tryd.func35, Tryd.ntmps35
  go_wp2_with (fail)
  refine BG.out.mono ?_
  rintro e _ ⟨rfl, rfl⟩
  obtain ⟨r, hr⟩ : ∃ r, r = S.size % 4 := ⟨_, rfl⟩
  have er : (S.size : Int).tmod 4 = (r : Int) := by rw [Int.tmod_eq_emod_of_nonneg (by omega)]; omega
  have er' : (S.size : Int) % 4 = (r : Int) := by omega
  have hr4 : r < 4 := by omega
  clear hr
  rcases Nat.eq_zero_or_pos r with h0 | h0
  · have t0 : ((r : Int) != 0) = false := by rw [h0]; rfl
    have t1 : (r != 0) = false := by rw [h0]; rfl
    clear h0
    go_wp2_with (fail)
    refine region_calm_tail 18 (by kernel_rfl) (by kernel_rfl) ?_
    simp only [List.take_succ_cons, List.take_zero, List.drop_succ_cons, List.drop_zero]
    repeat (quiet_step ((go_at_call 57; exact calm_of (AT.out _ (HST.out.below (below_ext _ _))))))
    refine wpQuiet_nil ?_; intro _ hw'; obtain ⟨xq, hw''⟩ := hw'; subst hw''
    have WQ := Lib.hid (WB.out _ (below_ext w xq))
    go_wp2_with (fail)
    refine WQ.out.mono ?_
    rintro e w7 ⟨rfl, m7, k7⟩
    have M7 := Lib.hid m7; have K7 := Lib.hid k7
    clear m7 k7
    go_wp2_with (fail)
    go_ret
    exact ⟨rfl, M7.out, (MK.below (below_ext w xq)).trans K7.out⟩
  · have t0 : ((r : Int) != 0) = true := by simp; omega
    have t1 : (r != 0) = true := by simp; omega
    clear h0
    go_wp2_with (fail)
    refine region_calm_tail 18 (by kernel_rfl) (by kernel_rfl) ?_
    simp only [List.take_succ_cons, List.take_zero, List.drop_succ_cons, List.drop_zero]
    repeat (quiet_step ((go_at_call 57; exact calm_of (AT.out _ (HST.out.below (below_ext _ _))))))
    refine wpQuiet_nil ?_; intro _ hw'; obtain ⟨xq, hw''⟩ := hw'; subst hw''
    have WQ := Lib.hid (WB.out _ (below_ext w xq))
    go_wp2_with (fail)
    refine WQ.out.mono ?_
    rintro e w7 ⟨rfl, m7, k7⟩
    have M7 := Lib.hid m7; have K7 := Lib.hid k7
    clear m7 k7
    go_wp2_with (fail)
    go_ret
    exact ⟨rfl, M7.out, (MK.below (below_ext w xq)).trans K7.out⟩
end Go.Proofs.YtdebfniifijjoaaDoor
/-
  What reads leave of a memory, and what a bank says, in plain Lean. Conditions: none.
-/
namespace Go.Proofs.YtdebfniifijjoaaDoor
open Go.RowKit Kit Go.Shelf
set_option linter.unusedVariables false
/-- Behind reads: the words are what they were. -/
structure MS.Le (s s' : MS) : Prop where
  v : s'.v = s.v
  u : ∀ i, s'.u i = none ∨ s'.u i = s.u i
  scrub : s'.scrub = s.scrub
  lost : s'.lost = s.lost
  f1 : s.fuse = -1 → s'.fuse = -1
  f0 : s.fuse = 0 → s'.fuse = 0
theorem MS.Le.refl (s : MS) : s.Le s := ⟨rfl, fun _ => .inr rfl, rfl, rfl, id, id⟩
theorem MS.Le.trans {a b c : MS} (h : a.Le b) (h' : b.Le c) : a.Le c := by
  refine ⟨h'.v.trans h.v, fun i => ?_, h'.scrub.trans h.scrub, h'.lost.trans h.lost, fun e => h'.f1 (h.f1 e), fun e => h'.f0 (h.f0 e)⟩
  rcases h'.u i with e | e
  · exact .inl e
  · rw [e]; exact h.u i
theorem le_rd (s : MS) (i : Nat) : s.Le (s.rd i) := by
  unfold MS.rd
  split
  · exact .refl s
  · unfold MS.store
    split
    · rename_i hf
      exact ⟨rfl, fun _ => .inr rfl, rfl, rfl, id, id⟩
    · rename_i hf
      refine ⟨?_, fun j => ?_, rfl, rfl, fun e => ?_, fun e => absurd e hf⟩
      · funext j
        show (if j = i then s.v i else s.v j) = s.v j
        split
        · rename_i e; rw [e]
        · rfl
      · show (if j = i then none else s.u j) = none ∨ (if j = i then none else s.u j) = s.u j
        split
        · exact .inl rfl
        · exact .inr rfl
      · show (if 0 < s.fuse then s.fuse - 1 else s.fuse) = -1
        rw [e]; rfl
theorem le_rds (s : MS) (a : Nat) : ∀ k, s.Le (s.rds a k)
  | 0 => .refl s
  | k + 1 => (le_rds s a k).trans (le_rd _ _)
/-- A bank's header, its data, and whether it is valid. -/
def hdF (v : Nat → Nat) (a : Nat) : Nat → Nat := fun i => v (a + i)
def dataB (v : Nat → Nat) (a : Nat) : ByteArray := rS (msF v) (a + 5) (hdF v a 2)
def goodB (v : Nat → Nat) (a size : Nat) : Bool := decide (0 < hdF v a 0) && decide (hdF v a 2 ≤ size) && decide (hdF v a 4 = sealS (hdF v a)) && decide (crc (dataB v a) = hdF v a 3)
theorem rS_v (s : MS) (a n : Nat) : rS s a n = rS (msF s.v) a n := rfl
/-- The cells of a bank that is read: its first k words are there. -/
def hdK (f : Nat → Nat) (k i : Nat) : Nat := if i < k then f i else 0
def bkA (num : Nat) (g : Nat → Nat) (d : ByteArray) : Array Value := #[.int .i64 num, .int .u32 (g 0), .int .u32 (g 1), .int .u32 (g 2), .int .u32 (g 3), .int .u32 (g 4), .string d]
theorem bkA_set (num : Nat) (f : Nat → Nat) (d : ByteArray) (k : Nat) (hk : k < 5) : (bkA num (hdK f k) d).setIfInBounds (1 + k) (.int .u32 (f k)) = bkA num (hdK f (k + 1)) d := by
  rcases (by omega : k = 0 ∨ k = 1 ∨ k = 2 ∨ k = 3 ∨ k = 4) with rfl | rfl | rfl | rfl | rfl <;> simp [bkA, hdK]
theorem bkA_data (num : Nat) (g : Nat → Nat) (d d' : ByteArray) : (bkA num g d).setIfInBounds 6 (.string d') = bkA num g d' := rfl
def emp : ByteArray := ⟨#[]⟩
end Go.Proofs.YtdebfniifijjoaaDoor
