/-
  The walk of a memory's Reset. Conditions: a memory of 122 words, the first 112 of which survive.
-/
import Derived.Test.YtdebfniifijjoaaDoorM04
import Derived.Lib.SliceRun
namespace Go.Proofs.YtdebfniifijjoaaDoor
open Go.RowKit Kit Go.Shelf
set_option linter.unusedVariables false
theorem enc_zero : enc 0 = 0 := by decide +kernel
theorem cells_ne (b b' : Nat) (hne : b ≠ b') {o : Obj} : ∀ (vs : List Value) (i : Nat) (w : World), w.heap[b]? = some o → (w.setCells b' i vs).heap[b]? = some o
  | [], _, _, h => h
  | v :: r, i, w, h => cells_ne b b' hne r (i + 1) _ (hp_set_ne h hne v)
theorem cells_mk {bm bw : Nat} {a : World} : ∀ (vs : List Value) (i : Nat) (w : World), MK bm bw a w → MK bm bw a (w.setCells bw i vs)
  | [], _, _, h => h
  | v :: r, i, w, h => cells_mk r (i + 1) _ (h.setW i v)
theorem cells_zero (b n : Nat) : ∀ (k i : Nat) (w : World) (g : Nat → Nat), w.heap[b]? = some (.cells (ufn n g) 80) → (w.setCells b i (List.replicate k (.int .u64 0))).heap[b]? = some (.cells (ufn n fun j => if i ≤ j ∧ j < i + k then 0 else g j) 80)
  | 0, i, w, g, h => by
    have e : ufn n (fun j => if i ≤ j ∧ j < i + 0 then 0 else g j) = ufn n g := ufn_congr fun j hj => if_neg (by omega)
    rw [e]; exact h
  | k + 1, i, w, g, h => by
    have h1 := hp_set (i := i) h (.int .u64 ((0 : Nat) : Int))
    rw [ufn_set] at h1
    have := cells_zero b n k (i + 1) _ _ h1
    have e : ufn n (fun j => if i + 1 ≤ j ∧ j < i + 1 + k then 0 else if j = i then 0 else g j) = ufn n (fun j => if i ≤ j ∧ j < i + (k + 1) then 0 else g j) := ufn_congr fun j hj => by
      by_cases h1 : j = i
      · rw [if_neg (by omega), if_pos h1, if_pos (by omega)]
      · by_cases h2 : i + 1 ≤ j ∧ j < i + 1 + k
        · rw [if_pos h2, if_pos (by omega)]
        · rw [if_neg h2, if_neg h1, if_neg (by omega)]
    rw [e] at this
    exact this
/-- The words that do not survive are 0. -/
def MS.wipe (s : MS) : MS := { s with v := fun i => if i < 112 then s.v i else 0, u := fun i => if i < 112 then s.u i else none }
theorem ME.set_wipe {w : World} {bm bw : Nat} {s : MS} (h : ME w bm bw 122 112 s) : ME (w.setCells bw 112 (List.replicate 10 (.int .u64 0))) bm bw 122 112 s.wipe := by
  obtain ⟨fx, st, ho⟩ := h.obj
  refine ⟨⟨fx, st, cells_ne bm bw h.ne _ _ _ ho⟩, ?_, ⟨fun j => ?_, fun j c hc => ?_, h.ok.fuse, h.ok.scrub⟩, h.ne, h.pos, h.size⟩
  · have e : ufn 122 (fun j => if 112 ≤ j ∧ j < 112 + 10 then 0 else s.cw j) = ufn 122 s.wipe.cw := ufn_congr fun j hj => by
      unfold MS.cw MS.wipe
      by_cases e : j < 112
      · rw [if_neg (by omega)]; simp only [if_pos e]
      · rw [if_pos (by omega)]; simp only [if_neg e]; exact enc_zero.symm
    exact (cells_zero bw 122 10 112 w s.cw h.words).trans (by rw [e])
  · show (if j < 112 then s.v j else 0) < 4294967296
    split
    · exact h.ok.v j
    · omega
  · replace hc : (if j < 112 then s.u j else none) = some c := hc
    split at hc
    · exact h.ok.u j c hc
    · cases hc
/-- A reset. -/
def MS.reset (s : MS) : MS := { s.wipe with scrub := 0, fuse := -1, blown := false, lost := 0 }
theorem ME.set_rest {w : World} {bm bw n safe : Nat} {s : MS} (h : ME w bm bw n safe s) :
    ME ((((((w.setCell ⟨bm, 2, none⟩ (.int .i64 0)).setCell ⟨bm, 3, none⟩ (.int .i64 (-1))).setCell ⟨bm, 4, none⟩ (.bool false)).setCell ⟨bm, 5, none⟩ (.int .i64 0)).setCell ⟨bm, 6, none⟩ (.int .i64 0)).setCell ⟨bm, 7, none⟩ (.int .i64 0)) bm bw n safe
      { s with scrub := 0, fuse := -1, blown := false, lost := 0 } := by
  obtain ⟨fx, st, ho⟩ := h.obj
  refine ⟨⟨0, 0, ?_⟩, ?_, ⟨h.ok.v, h.ok.u, by simp, by simp⟩, h.ne, h.pos, h.size⟩
  · have := hp_set (i := 7) (hp_set (i := 6) (hp_set (i := 5) (hp_set (i := 4) (hp_set (i := 3) (hp_set (i := 2) ho (.int .i64 0)) (.int .i64 (-1))) (.bool false)) (.int .i64 0)) (.int .i64 0)) (.int .i64 0)
    exact this
  · have hne : bw ≠ bm := fun e => h.ne e.symm
    exact hp_set_ne (hp_set_ne (hp_set_ne (hp_set_ne (hp_set_ne (hp_set_ne h.words hne _) hne _) hne _) hne _) hne _) hne _
theorem zero80 (w : World) : (zeroValue 80).run Tryd.prog w = .ok (.int .u64 0) w := by kernel_rfl
set_option maxRecDepth 100000 in
set_option maxHeartbeats 1600000 in
theorem reset_any {w : World} {bm bw : Nat} {s : MS} (h : ME w bm bw 122 112 s) :
    Calls Tryd.prog 33 #[.pointer (some ⟨bm, 0, none⟩)] w fun e w' => StoreQ bm bw 122 112 s.reset w e w' := by
  have CK := Lib.hid (check_any h ((0 : Nat) : Int))
  rw [chk_in (by omega)] at CK
  obtain ⟨fx, st, ho⟩ := h.obj
  have c0 : w.cell? ⟨bm, 0, none⟩ = some (.slice (some ⟨bw, 0, none⟩) 122 122) := cell_of ho rfl
  have c1 : w.cell? ⟨bm, 1, none⟩ = some (.int .i64 112) := cell_of ho rfl
  have hcl : ∀ ty, (Builtin.clear_ #[52] ty #[.slice (some ⟨bw, 112, none⟩) 10 10]).run Tryd.prog w.drew = .ok (.tuple #[]) (w.drew.setCells bw 112 (List.replicate 10 (.int .u64 0))) := fun ty =>
    Lib.run_clear_slice w.drew 52 80 ty (.int .u64 0) Tryd.underlying52 zero80 rfl rfl bw 112 10 10 (by omega) (fun j hj => by
      have : w.drew.cell? ⟨bw, 112 + j, none⟩ = some (.int .u64 (s.cw (112 + j))) := cell_of h.words (ufn_get _ _ _ (by omega))
      rw [this]; rfl) (fun j hj => free_of (w := w.drew) h.words)
  have W1 := Lib.hid (ME.set_wipe (h.drewN 1))
  have K1 : Hid (MK bm bw w (w.drew.setCells bw 112 (List.replicate 10 (.int .u64 0)))) := Lib.hid (cells_mk _ _ _ ((MK.refl bm bw w).drewN 1))
  have e1 : w.drewN 1 = w.drew := rfl
  rw [e1] at W1
  obtain ⟨w1, hw1⟩ : ∃ w1, w.drew.setCells bw 112 (List.replicate 10 (.int .u64 0)) = w1 := ⟨_, rfl⟩
  rw [hw1] at W1 K1 hcl
  obtain ⟨fx1, st1, ho1⟩ := W1.out.obj
  have e0 : ∀ j, j < 8 → ∃ v, w1.cell? ⟨bm, j, none⟩ = some v := fun j hj => by
    have hs : j < (mcells bw 122 112 s.wipe fx1 st1).size := by simpa [mcells] using hj
    exact ⟨_, cell_of ho1 (Array.getElem?_eq_getElem hs)⟩
  obtain ⟨v2, d2⟩ := e0 2 (by omega)
  obtain ⟨v3, d3⟩ := e0 3 (by omega)
  obtain ⟨v4, d4⟩ := e0 4 (by omega)
  obtain ⟨v5, d5⟩ := e0 5 (by omega)
  obtain ⟨v6, d6⟩ := e0 6 (by omega)
  obtain ⟨v7, d7⟩ := e0 7 (by omega)
  have g0 : ∀ j, w1.frozen? ⟨bm, j, none⟩ = false := fun j => free_of ho1
  have NX := Lib.hid W1.out.set_rest
  clear h ho ho1 hw1 e1 e0 W1
  go_enter Tryd.func33, Tryd.ntmps33
  go_wp2_with (fail)
  refine CK.out.mono ?_
  rintro e _ ⟨rfl, rfl⟩
  go_wp2_with (fail)
  refine region_still_tail 9 (by kernel_rfl) (by kernel_rfl) ?_
  simp only [List.take_succ_cons, List.take_zero, List.drop_succ_cons, List.drop_zero]
  (repeat still_step)
  refine wpStill_nil ?_
  go_wp2_with (fail)
  go_end0
  exact ⟨rfl, NX.out, (((((K1.out.setM 2 _).setM 3 _).setM 4 _).setM 5 _).setM 6 _).setM 7 _⟩
end Go.Proofs.YtdebfniifijjoaaDoor
/-
  The walk of a memory's Scrub. Conditions: a memory of 122 words, all of them scrubbed, no fuse.
-/
namespace Go.Proofs.YtdebfniifijjoaaDoor
open Go.RowKit Kit Go.Shelf
set_option linter.unusedVariables false
theorem rd_clean {s : MS} (hf : s.fuse = -1) (i : Nat) : s.rd i = { s with u := fun j => if j = i then none else s.u j } := by
  unfold MS.rd
  by_cases h : s.u i = none
  · rw [if_pos h]
    have e : (fun j => if j = i then none else s.u j) = s.u := by
      funext j
      by_cases e : j = i
      · rw [if_pos e, e, h]
      · rw [if_neg e]
    rw [e]
  · rw [if_neg h, MS.store, if_neg (by omega), if_neg (by omega)]
    have e : (fun j => if j = i then s.v i else s.v j) = s.v := by
      funext j
      by_cases e : j = i
      · rw [if_pos e, e]
      · rw [if_neg e]
    rw [e]
/-- Behind k words that were scrubbed. -/
def MS.scr (s : MS) (k : Nat) : MS := { s with u := fun j => if (j + 122 - s.scrub) % 122 < k then none else s.u j, scrub := (s.scrub + k) % 122 }
theorem scr_zero (s : MS) (h : s.scrub < 122) : s.scr 0 = s := by
  unfold MS.scr
  have e : (fun j => if (j + 122 - s.scrub) % 122 < 0 then none else s.u j) = s.u := by funext j; rw [if_neg (by omega)]
  rw [e, show (s.scrub + 0) % 122 = s.scrub by omega]
theorem scr_next (s : MS) (k : Nat) (h : s.scrub < 122) (hk : k < 122) (hf : s.fuse = -1) (hu : ∀ j, 122 ≤ j → s.u j = none) : { (s.scr k).rd ((s.scrub + k) % 122) with scrub := ((s.scrub + k) % 122 + 1) % 122 } = s.scr (k + 1) := by
  rw [rd_clean (s := s.scr k) hf]
  unfold MS.scr
  have e : (fun j => if j = (s.scrub + k) % 122 then none else if (j + 122 - s.scrub) % 122 < k then none else s.u j) = (fun j => if (j + 122 - s.scrub) % 122 < k + 1 then none else s.u j) := by
    funext j
    rcases Nat.lt_or_ge j 122 with hj | hj
    · by_cases e1 : j = (s.scrub + k) % 122
      · rw [if_pos e1, if_pos (by omega)]
      · rw [if_neg e1]
        by_cases e2 : (j + 122 - s.scrub) % 122 < k
        · rw [if_pos e2, if_pos (by omega)]
        · rw [if_neg e2, if_neg (by omega)]
    · rw [hu j hj]; simp
  simp only [e]
  rw [show ((s.scrub + k) % 122 + 1) % 122 = (s.scrub + (k + 1)) % 122 by omega]
theorem scr_u (s : MS) (h : s.scrub < 122) (hu : ∀ j, 122 ≤ j → s.u j = none) (j : Nat) : (s.scr 122).u j = none := by
  show (if (j + 122 - s.scrub) % 122 < 122 then none else s.u j) = none
  rw [if_pos (by omega)]
theorem rd_scrub (s : MS) (i : Nat) : (s.rd i).scrub = s.scrub := by
  unfold MS.rd
  split
  · rfl
  · unfold MS.store
    split <;> rfl
theorem ME.set_scrub {w : World} {bm bw n safe : Nat} {s : MS} (h : ME w bm bw n safe s) (k : Nat) (hk : k ≤ 100000) : ME (w.setCell ⟨bm, 2, none⟩ (.int .i64 k)) bm bw n safe { s with scrub := k } := by
  obtain ⟨fx, st, ho⟩ := h.obj
  refine ⟨⟨fx, st, ?_⟩, hp_set_ne h.words (fun e => h.ne e.symm) _, ⟨h.ok.v, h.ok.u, h.ok.fuse, hk⟩, h.ne, h.pos, h.size⟩
  have := hp_set (i := 2) ho (.int .i64 (k : Int))
  unfold mcells at this
  rw [(lit3c _ _ _ _ _ _ _ _ _).2.2.2.2] at this
  exact this
def ScrQ (bm bw : Nat) (s : MS) (w : World) (e : Ending) (w' : World) : Prop := (∃ x : Int, e = .returned (.tuple #[.int .i64 x, .int .i64 0, .int .i64 0])) ∧ ME w' bm bw 122 112 s ∧ MK bm bw w w'
/-- In the loop. -/
structure SL (w : World) (bm bw g : Nat) (s : MS) (fx st : Int) (k : Nat) (wr : World) : Prop where
  me : ME wr bm bw 122 112 (s.scr k)
  kp : MK bm bw w wr
  was : wr.heap[g]? = some (.cells #[.int .i64 fx, .int .i64 s.lost, .int .i64 st] 54)
set_option maxRecDepth 100000 in
set_option maxHeartbeats 3200000 in
theorem scrub_any {w : World} {bm bw : Nat} {s : MS} (h : ME w bm bw 122 112 s) (hT : Tab w) (hs : s.scrub < 122) (hf : s.fuse = -1) (hu : ∀ j, 122 ≤ j → s.u j = none) :
    Calls Tryd.prog 31 #[.pointer (some ⟨bm, 0, none⟩), .int .i64 122] w fun e w' => ScrQ bm bw (s.scr 122) w e w' := by
  have CK := Lib.hid (check_any h ((0 : Nat) : Int))
  rw [chk_in (by omega)] at CK
  obtain ⟨fx, st, ho⟩ := h.obj
  have c5 : w.cell? ⟨bm, 5, none⟩ = some (.int .i64 fx) := cell_of ho rfl
  have c6 : w.cell? ⟨bm, 6, none⟩ = some (.int .i64 s.lost) := cell_of ho rfl
  have c7 : w.cell? ⟨bm, 7, none⟩ = some (.int .i64 st) := cell_of ho rfl
  have H0 : Hid (SL w bm bw w.heap.size s fx st 0 (w.alloc (.cells #[.int .i64 fx, .int .i64 s.lost, .int .i64 st] 54))) := Lib.hid ⟨by rw [scr_zero s hs]; exact h.below (bl_alloc (Below.refl _ _) _), MK.below (bl_alloc (Below.refl _ _) _), hp_new _ _⟩
  have hbm : bm < w.heap.size := lt_of_obj ho
  have hbw : bw < w.heap.size := lt_of_obj h.words
  have HT := Lib.hid hT
  have HS := Lib.hid hs; have HF := Lib.hid hf; have HU := Lib.hid hu
  have POS := Lib.hid h.pos
  clear h ho hT hs hf hu
  go_enter Tryd.func31, Tryd.ntmps31
  go_wp2_with (fail)
  refine CK.out.mono ?_
  rintro e _ ⟨rfl, rfl⟩
  go_wp2_with (fail)
  obtain ⟨w2, hw2⟩ : ∃ w2, w.alloc (.cells #[.int .i64 fx, .int .i64 s.lost, .int .i64 st] 54) = w2 := ⟨_, rfl⟩
  rw [hw2] at H0 ⊢
  obtain ⟨g, hg⟩ : ∃ g, w.heap.size = g := ⟨_, rfl⟩
  rw [hg] at H0 hbm hbw ⊢
  have HG := Lib.hid hg
  clear hw2 hg CK c5 c6 c7
  go_loopw [25] (fun i wr => ∃ k : Nat, k ≤ 122 ∧ i = .int .i64 k ∧ SL w bm bw g s fx st k wr) (fun i _ => 122 - (intOf i).toNat)
  case atStart => exact ⟨0, by omega, rfl, H0.out⟩
  case round =>
    clear H0
    obtain ⟨k, hk, rfl, hS⟩ := hrel
    have HSL := Lib.hid hS
    obtain ⟨fx1, st1, ho⟩ := hS.me.obj
    have hgl : g < wr.heap.size := lt_of_obj hS.was
    have hbl : bm < wr.heap.size := lt_of_obj ho
    by_cases hlt : k < 122
    · have dk : decide ((k : Int) < 122) = true := by simp; omega
      obtain ⟨i, hi⟩ : ∃ i, i = (s.scrub + k) % 122 := ⟨_, rfl⟩
      have hi122 : i < 122 := by omega
      have es : (s.scr k).scrub = i := hi.symm
      have c2 : wr.cell? ⟨bm, 2, none⟩ = some (.int .i64 i) := by rw [← es]; exact cell_of ho rfl
      have RD := Lib.hid (read_any hS.me ((HT.out.mk POS.out hS.kp)) i hi122)
      have SN := Lib.hid (scr_next s k HS.out hlt HF.out HU.out)
      rw [← hi] at SN
      obtain ⟨j, hj⟩ : ∃ j, j = (i + 1) % 122 := ⟨_, rfl⟩
      rw [← hj] at SN
      have HJ := Lib.hid hj
      have tj : ((i : Int) + 1).tmod 122 = (j : Int) := by rw [Int.tmod_eq_emod_of_nonneg (by omega)]; omega
      have tj' : ((i : Int) + 1) % 122 = (j : Int) := by omega
      have hj9 : j ≤ 100000 := by omega
      have WAS := Lib.hid hS.was
      have KP := Lib.hid hS.kp
      have ES : Hid (((s.scr k).rd i).scrub = i) := Lib.hid (by rw [rd_scrub, es])
      generalize (s.scr k).rd i = s1 at RD SN ES
      generalize (s.scr k).v i = x1 at RD
      generalize (s.scr k).kind i = k1 at RD
      have WJ : IntKind.i64.wrap (j : Int) = (j : Int) := IntWalk.i64_in _ (by omega)
      clear hS ho hi es hj HSL
      go_wp2_with (fail)
      refine RD.out.mono ?_
      rintro e w5 ⟨rfl, m5, k5⟩
      have M5 := Lib.hid m5; have K5 := Lib.hid k5
      obtain ⟨fx5, st5, o5⟩ := m5.obj
      have e0 : w5.cell? ⟨bm, 0, none⟩ = some (.slice (some ⟨bw, 0, none⟩) 122 122) := cell_of o5 rfl
      have e2 : w5.cell? ⟨bm, 2, none⟩ = some (.int .i64 i) := by rw [← ES.out]; exact cell_of o5 rfl
      have f5 : ∀ j, w5.frozen? ⟨bm, j, none⟩ = false := fun j => free_of o5
      have hb5 : bm < w5.heap.size := lt_of_obj o5
      have WAS5 : Hid (w5.heap[g]? = some (.cells #[.int .i64 fx, .int .i64 s.lost, .int .i64 st] 54)) := Lib.hid (k5.keeps WAS.out (by omega))
      clear m5 k5 o5 RD
      go_wp2_with (fail)
      refine region_still_tail 14 (by kernel_rfl) (by kernel_rfl) ?_
      simp only [List.take_succ_cons, List.take_zero, List.drop_succ_cons, List.drop_zero]
      (repeat still_step)
      refine wpStill_nil ?_
      go_wp2_with (fail)
      exact ⟨⟨k + 1, by omega, by go_num, ⟨by rw [← SN.out]; exact (M5.out.set_scrub j hj9).drewN 1, ((KP.out.trans K5.out).setM 2 _).drewN 1, hp_drew (hp_set_ne WAS5.out (by omega) _)⟩⟩, by simp [intOf]; omega⟩
    · have e : k = 122 := by omega
      subst e
      have dk : decide (((122 : Nat) : Int) < 122) = false := by decide
      have c5 : wr.cell? ⟨bm, 5, none⟩ = some (.int .i64 fx1) := cell_of ho rfl
      have c6 : wr.cell? ⟨bm, 6, none⟩ = some (.int .i64 s.lost) := cell_of ho rfl
      have z0 : wr.cell? ⟨g, 0, none⟩ = some (.int .i64 fx) := cell_of hS.was rfl
      have z1 : wr.cell? ⟨g, 1, none⟩ = some (.int .i64 s.lost) := cell_of hS.was rfl
      generalize s.lost = l at c6 z1
      clear hS ho
      go_wp2_with (fail)
      go_quiet (fail)
      go_wp2_with (fail)
      go_ret3
      exact ⟨⟨_, rfl⟩, HSL.out.me.drewN _, HSL.out.kp.drewN _⟩
end Go.Proofs.YtdebfniifijjoaaDoor
/-
  The walks of memory's New, room and packed. Conditions: those that each names.
-/
namespace Go.Proofs.YtdebfniifijjoaaDoor
open Go.RowKit Kit Go.Shelf
set_option linter.unusedVariables false
theorem info80 : (Tryd.prog.info? 80).map (fun i => (i.zero, i.size, i.bytes)) = some (some (.int .u64 0), 1, 8) := by kernel_rfl
theorem make52 (w : World) : (Instr.makeSlice 52 (.int .i64 122) (.int .i64 122)).run Tryd.prog w = .ok (.slice (some ⟨w.heap.size, 0, none⟩) 122 122) (w.alloc (.cells (ufn 122 fun _ => 0) 80)) := by
  obtain ⟨i, hi, hz0, hz1, hz2⟩ := info_parts info80
  have := run_make (P := Tryd.prog) w 52 80 i _ Tryd.underlying52 hi hz0 .i64 .i64 122 122 (by omega) (by omega) (by rw [hz2]; omega) (by omega)
  rw [this]
  have e : madeCells (Value.int .u64 0).cells ((122 : Int).toNat * i.size) = ufn 122 fun _ => 0 := by
    rw [hz1]; kernel_rfl
  rw [e]
  rfl
/-- A new memory. -/
def ms0 : MS := ⟨fun _ => 0, fun _ => none, 0, -1, false, 0⟩
theorem ms0_ok : ms0.Ok := ⟨fun _ => by show (0 : Nat) < _; omega, fun i b h => (by cases h), by show (-1 : Int) ≤ -1 ∧ (-1 : Int) ≤ 1000; omega, by show 0 ≤ 100000; omega⟩
theorem me_new (w : World) (hw : 0 < w.heap.size) : ME ((w.alloc (.cells (ufn 122 fun _ => 0) 80)).alloc (.cells (mcells w.heap.size 122 112 ms0 0 0) 56)) (w.heap.size + 1) w.heap.size 122 112 ms0 :=
  ⟨⟨0, 0, by have := hp_new (w.alloc (.cells (ufn 122 fun _ => 0) 80)) (.cells (mcells w.heap.size 122 112 ms0 0 0) 56); simpa using this⟩, hp_old (by
    have e : ufn 122 ms0.cw = ufn 122 fun _ => 0 := ufn_congr fun j hj => enc_zero
    rw [e]; exact hp_new _ _) _, ms0_ok, by omega, by omega, by omega⟩
set_option maxHeartbeats 800000 in
theorem new_any (w : World) (hw : 0 < w.heap.size) : Calls Tryd.prog 8 #[.int .i64 122, .int .i64 112] w fun e w' => e = .returned (.tuple #[.pointer (some ⟨w.heap.size + 1, 0, none⟩), .int .i64 0]) ∧ ME w' (w.heap.size + 1) w.heap.size 122 112 ms0 ∧ Below w.heap.size w w' := by
  have NX := Lib.hid (me_new w hw)
  have mk := make52 w
  clear hw
  go_enter Tryd.func8, Tryd.ntmps8
  go_wp2_with (fail)
  go_ret2
  exact ⟨rfl, NX.out, bl_alloc (bl_alloc (Below.refl _ _) _) _⟩
/-- Why bytes cannot stand from an index on. -/
theorem room_any {w : World} {bm bw n safe : Nat} {s : MS} (h : ME w bm bw n safe s) (i l : Nat) (hl : l ≤ 4 * (n - i)) (hi : i ≤ n) :
    Calls Tryd.prog 73 #[.pointer (some ⟨bm, 0, none⟩), .int .i64 i, .int .i64 l] w fun e w' => e = .returned (.int .i64 0) ∧ w = w' := by
  obtain ⟨fx, st, ho⟩ := h.obj
  have c0 : w.cell? ⟨bm, 0, none⟩ = some (.slice (some ⟨bw, 0, none⟩) n n) := cell_of ho rfl
  have hnil : ∀ W, (binOp .eql 52 (.slice (some ⟨bw, 0, none⟩) n n) (.slice none 0 0)).run Tryd.prog W = .ok (.bool false) W := fun W => Lib.run_eql_slice_nil W 52 80 (some ⟨bw, 0, none⟩) n n 0 0 Tryd.underlying52
  have hn := h.size
  have d1 : decide ((n : Int) < (i : Int)) = false := by simp; omega
  have d2 : decide (4 * ((n : Int) - (i : Int)) < (l : Int)) = false := by simp; omega
  clear h ho
  go_enter Tryd.func73, Tryd.ntmps73
  go_wp2_with (fail)
  go_ret
  exact ⟨rfl, rfl⟩
/-- The word of bytes. -/
def pkF (b : Nat → Nat) : Nat → Nat
  | 0 => 0
  | k + 1 => 256 * pkF b k + b k
theorem pkF_lt (b : Nat → Nat) (hb : ∀ i, b i < 256) : ∀ k, pkF b k < 256 ^ k
  | 0 => by simp [pkF]
  | k + 1 => by have := pkF_lt b hb k; have := hb k; simp only [pkF, Nat.pow_succ]; omega
theorem pk_or (x c : Nat) (hx : x < 16777216) (hc : c < 256) : bits BinOp.or IntKind.u32 ((x : Int) * 256) (c : Int) = ((256 * x + c : Nat) : Int) := by
  rw [show (x : Int) * 256 = ((256 * x : Nat) : Int) by omega, or_u32 _ _ (by omega) (by omega)]
  congr 1
  exact (Nat.two_pow_add_eq_or_of_lt (i := 8) hc x).symm
theorem run_index139 (w : World) (a b c d : Value) (k : Nat) (hk : k < 4) (v : Value) (hv : (#[a, b, c, d] : Array Value)[k]? = some v) : (Instr.index 139 (.agg #[a, b, c, d]) (.int .i64 k)).run Tryd.prog w = .ok v w := by
  have hk' : (k : Int) < 4 := by omega
  have hs : k < (#[a, b, c, d] : Array Value).size := hk
  generalize (#[a, b, c, d] : Array Value) = A at *
  simp [Instr.index, run_underlying Tryd.underlying139, asIntOf, part, hv, go_sem]
  omega
theorem pk_round (b : Nat → Nat) (hb : ∀ i, b i < 256) (k : Nat) (hk : k < 4) : pkF b k < 16777216 ∧ bits BinOp.or IntKind.u32 ((pkF b k : Int) * 256) (b k : Int) = ((pkF b (k + 1) : Nat) : Int) := by
  have h := pkF_lt b hb k
  have : pkF b k < 16777216 := Nat.lt_of_lt_of_le h (by
    rcases (by omega : k = 0 ∨ k = 1 ∨ k = 2 ∨ k = 3) with rfl | rfl | rfl | rfl <;> decide)
  exact ⟨this, pk_or _ _ this (hb k)⟩
set_option maxHeartbeats 800000 in
theorem packed_any (b : Nat → Nat) (hb : ∀ i, b i < 256) (w : World) : Calls Tryd.prog 74 #[.agg #[.int .u8 (b 0), .int .u8 (b 1), .int .u8 (b 2), .int .u8 (b 3)]] w fun e w' => e = .returned (.int .u32 (pkF b 4)) ∧ Below w.heap.size w w' := by
  have PR := Lib.hid (fun k => pk_round b hb k)
  have IX : Hid (∀ (w : World) (k : Nat), k < 4 → (Instr.index 139 (.agg #[.int .u8 (b 0), .int .u8 (b 1), .int .u8 (b 2), .int .u8 (b 3)]) (.int .i64 k)).run Tryd.prog w = .ok (.int .u8 (b k)) w) := Lib.hid (fun w k hk => run_index139 w _ _ _ _ k hk _ (by
    rcases (by omega : k = 0 ∨ k = 1 ∨ k = 2 ∨ k = 3) with rfl | rfl | rfl | rfl <;> rfl))
  have HB := Lib.hid hb
  clear hb
  go_enter Tryd.func74, Tryd.ntmps74
  go_wp2_with (fail)
  obtain ⟨w1, hw1⟩ : ∃ w1, w.alloc (.cells #[.int .u8 (b 0), .int .u8 (b 1), .int .u8 (b 2), .int .u8 (b 3)] 139) = w1 := ⟨_, rfl⟩
  have B1 := Lib.hid (bl_alloc (Below.refl w.heap.size w) (.cells #[.int .u8 (b 0), .int .u8 (b 1), .int .u8 (b 2), .int .u8 (b 3)] 139))
  rw [hw1] at B1 ⊢
  clear hw1
  obtain ⟨A, hA⟩ : ∃ A, A = #[Value.int .u8 (b 0), .int .u8 (b 1), .int .u8 (b 2), .int .u8 (b 3)] := ⟨_, rfl⟩
  rw [← hA] at IX ⊢
  clear hA
  go_loopw [3, 7] (fun v i wr => ∃ k : Nat, k ≤ 4 ∧ i = .int .i64 k ∧ v = .int .u32 (pkF b k) ∧ w1 = wr) (fun _ i _ => 4 - (intOf i).toNat)
  case atStart => exact ⟨0, by omega, rfl, rfl, rfl⟩
  case round =>
    obtain ⟨k, hk, rfl, rfl, rfl⟩ := hrel
    by_cases hlt : k < 4
    · have dk : decide ((k : Int) < 4) = true := by simp; omega
      obtain ⟨p1, p2⟩ := PR.out k hlt
      have ix := fun w => IX.out w k hlt
      have hbk := HB.out k
      go_wp2_with (fail)
      exact ⟨⟨k + 1, by omega, by go_num, rfl, trivial⟩, by simp [intOf]; omega⟩
    · have e : k = 4 := by omega
      subst e
      have dk : decide (((4 : Nat) : Int) < 4) = false := by decide
      go_wp2_with (fail)
      go_ret
      exact ⟨rfl, B1.out⟩
end Go.Proofs.YtdebfniifijjoaaDoor
