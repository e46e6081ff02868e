/-
  The walk of a store's Commit. Conditions: a store that lies in a memory, with something staged; no generation is the last one.
-/
import Derived.Test.YtdebfniifijjoaaDoorM10
namespace Go.Proofs.YtdebfniifijjoaaDoor
open Go.RowKit Kit Go.Shelf
set_option linter.unusedVariables false
/-- The generation of what is staged. -/
def genB (v : Nat → Nat) (base size bank : Nat) : Nat := match actB v base size with | none => 1 | some k => if k = bank then 1 else hdF v (bkAt base size k) 0 + 1
def hdG (v : Nat → Nat) (base size bank id len sum : Nat) : List (Nat × Nat) := hdL (bkAt base size bank) (hdW (genB v base size bank) id len sum)
def ComQ (bs bm bw base size n safe : Nat) (s : MS) (id sum len bank : Nat) (w : World) (e : Ending) (w' : World) : Prop :=
  if crc (rS (msF s.v) (bkAt base size bank + 5) len) = sum then e = .returned (.int .i64 0) ∧ ST w' bs bm base size (.pointer none) ∧ (∃ s', s.Go (hdG s.v base size bank id len sum) s' ∧ ME w' bm bw n safe s') ∧ MB bm bw bs w w'
  else e = .returned (.int .i64 310) ∧ RdQ bm bw n safe s w w'
theorem sg_ne {w : World} {g id sum len bank k : Nat} {c : Array Value} {t : TypeId} (h : SG w g id sum len bank) (hk : w.heap[k]? = some (.cells c t)) (ht : t ≠ 118) : g ≠ k := by
  rintro rfl
  have := h.symm.trans hk
  simp at this
  exact ht this.2.symm
/-- In the loop. -/
structure CML (w3 : World) (bm bw n safe : Nat) (s : MS) (X a : Nat) (h : Nat → Nat) (k : Nat) (wr : World) : Prop where
  me : ∃ s', s.Go ((hdL a h).take k) s' ∧ ME wr bm bw n safe s'
  kp : MK bm bw w3 wr
  x : wr.heap[X]? = some (.cells #[.int .u32 (h 0), .int .u32 (h 1), .int .u32 (h 2), .int .u32 (h 3), .int .u32 (h 4)] 100)
theorem hdW_lt (gen id len sum i : Nat) (h1 : gen < 4294967296) (h2 : id < 4294967296) (h3 : len < 4294967296) (h4 : sum < 4294967296) : hdW gen id len sum i < 4294967296 := by
  unfold hdW
  split
  · exact crc_lt _
  · unfold hdN; split <;> omega
set_option maxRecDepth 100000 in
set_option maxHeartbeats 6400000 in
theorem commit_any {w : World} {bs bm bw base size n safe g id sum len bank : Nat} {s : MS} (h : SM w bs bm bw base size n safe (.pointer (some ⟨g, 0, none⟩)) s) (hg : SG w g id sum len bank) (hNL : NotLast s.v base size)
    (hl : len ≤ size) (hbk : bank < 2) (hid : id < 4294967296) (hsum : sum < 4294967296) :
    Calls Tryd.prog 49 #[.pointer (some ⟨bs, 0, none⟩)] w fun e w' => ComQ bs bm bw base size n safe s id sum len bank w e w' := by
  have BG := Lib.hid (begun_yes h.st)
  have H := Lib.hid h
  obtain ⟨hbs, hb1, hb2⟩ := h.lt
  obtain ⟨fx, st, ho⟩ := h.me.obj
  have g1 := sg_ne hg ho (by decide)
  have g2 := sg_ne hg h.me.words (by decide)
  have g3 := sg_ne hg h.st (by decide)
  have c3 : w.cell? ⟨bs, 3, none⟩ = some (.pointer (some ⟨g, 0, none⟩)) := cell_of h.st rfl
  have x0 : w.cell? ⟨g, 0, none⟩ = some (.int .u32 id) := cell_of hg rfl
  have x1 : w.cell? ⟨g, 1, none⟩ = some (.int .u32 sum) := cell_of hg rfl
  have x2 : w.cell? ⟨g, 2, none⟩ = some (.int .i64 len) := cell_of hg rfl
  have x3 : w.cell? ⟨g, 3, none⟩ = some (.int .i64 bank) := cell_of hg rfl
  have hgl := lt_of_obj hg
  have hsz := h.h2
  have hN := h.me.size
  have AT : Hid (∀ (w' : World) (nx : Value), ST w' bs bm base size nx → Calls Tryd.prog 57 #[.pointer (some ⟨bs, 0, none⟩), .int .i64 bank] w' fun e w'' => e = .returned (.int .i64 (bkAt base size bank)) ∧ Below w'.heap.size w' w'') := Lib.hid (fun w' nx h' => (at_any h' h.hb h.h1 h.h2 _ hbk).mono fun e w'' ⟨he, x, hx⟩ => ⟨he, by rw [hx]; exact below_ext _ x⟩)
  have hab : bkAt base size bank + half size ≤ n := by
    have := h.hn
    unfold bkAt
    rcases (by omega : bank = 0 ∨ bank = 1) with e | e <;> rw [e] <;> omega
  have hhf : half size = 5 + (size + 3) / 4 := rfl
  have QQ : Hid (∀ {e : Ending} {w' : World}, crc (rS (msF s.v) (bkAt base size bank + 5) len) = sum → e = .returned (.int .i64 0) ∧ ST w' bs bm base size (.pointer none) ∧ (∃ s', s.Go (hdL (bkAt base size bank) (hdW (genB s.v base size bank) id len sum)) s' ∧ ME w' bm bw n safe s') ∧ MB bm bw bs w w' → ComQ bs bm bw base size n safe s id sum len bank w e w') := Lib.hid (fun h1 h2 => by unfold ComQ; rw [if_pos h1]; exact h2)
  have QN : Hid (∀ {w' : World}, crc (rS (msF s.v) (bkAt base size bank + 5) len) ≠ sum → RdQ bm bw n safe s w w' → ComQ bs bm bw base size n safe s id sum len bank w (.returned (.int .i64 310)) w') := Lib.hid (fun h1 h2 => by unfold ComQ; rw [if_neg h1]; exact ⟨rfl, h2⟩)
  have GE : Hid (genB s.v base size bank = match actB s.v base size with | none => 1 | some k => if k = bank then 1 else hdF s.v (bkAt base size k) 0 + 1) := Lib.hid rfl
  have hD : (rS (msF s.v) (bkAt base size bank + 5) len).size = len := rS_size _ _ _
  have RBv := Lib.hid (fun (s' : MS) (w' : World) (l : s.Le s') (m : ME w' bm bw n safe s') (t : Tab w') => (show Calls Tryd.prog 68 #[.pointer (some ⟨bm, 0, none⟩), .int .i64 ((bkAt base size bank + 5 : Nat) : Int), .int .i64 len] w' fun e w'' => e = .returned (.tuple #[.string (rS (msF s.v) (bkAt base size bank + 5) len), .int .i64 0]) ∧ (∃ s'', s.Le s'' ∧ ME w'' bm bw n safe s'') ∧ MK bm bw w' w'' from
    (rdb_any m t (bkAt base size bank + 5) len (by omega) (by omega)).mono fun e w'' ⟨he, m', k'⟩ => ⟨by rw [he, rS_v, l.v], ⟨_, l.trans (le_rds _ _ _), m'⟩, k'⟩))
  generalize rS (msF s.v) (bkAt base size bank + 5) len = D at *
  generalize genB s.v base size bank = gn at *
  have ha5 : bkAt base size bank + 5 ≤ n := by omega
  obtain ⟨a, hae⟩ : ∃ a, a = bkAt base size bank := ⟨_, rfl⟩
  rw [← hae] at AT hab QQ RBv ha5
  clear hae hhf
  have CR := Lib.hid (fun w => crc_any D (by omega) w)
  clear h hg ho
  go_enter Tryd.func49, Tryd.ntmps49
  go_wp2_with (fail)
  refine BG.out.mono ?_
  rintro e _ ⟨rfl, rfl⟩
  go_wp2_with (fail)
  have B1 := Lib.hid (hp_new w (.cells #[.int .u32 id, .int .u32 sum, .int .i64 len, .int .i64 bank] 118))
  have BL1 := Lib.hid (bl_alloc (Below.refl w.heap.size w) (.cells #[.int .u32 id, .int .u32 sum, .int .i64 len, .int .i64 bank] 118))
  refine (AT.out _ _ (H.out.st.below BL1.out)).mono ?_
  rintro e w2 ⟨rfl, b2⟩
  have hs2 : w.heap.size < w2.heap.size := by have := b2.size; simp at this; omega
  have X2 := Lib.hid (below_keeps b2 B1.out (by simp))
  have BL2 : Hid (Below w.heap.size w w2) := Lib.hid (BL1.out.trans (b2.mono (by simp)))
  have S2 := Lib.hid (H.out.below BL2.out)
  clear b2 B1 BL1 c3 x0 x1 x2 x3
  have c0 : w2.cell? ⟨bs, 0, none⟩ = some (.pointer (some ⟨bm, 0, none⟩)) := cell_of S2.out.st rfl
  have p2 : w2.cell? ⟨w.heap.size, 2, none⟩ = some (.int .i64 len) := cell_of X2.out rfl
  have hb2' : bs < w2.heap.size := by omega
  have W3 : IntKind.i64.wrap ((a : Int) + 5) = (a : Int) + 5 := IntWalk.i64_in _ (by omega)
  have RB := Lib.hid (RBv.out s _ (.refl s) (S2.out.me.below (Below.refl _ _).drew) (S2.out.tab.below (Below.refl _ _).drew))
  go_wp2_with (fail)
  go_region_held3 (fun w' => w'.cell? ⟨bs, 0, none⟩ = some (.pointer (some ⟨bm, 0, none⟩)) ∧ w'.cell? ⟨w.heap.size, 2, none⟩ = some (.int .i64 len)) (go_keep) ((first | (go_at_call 68; refine RB.out.mono ?_; rintro e w3 ⟨rfl, ⟨s3, l3, m3⟩, k3⟩; have L3 := Lib.hid l3; have M3 := Lib.hid m3; have K23 := Lib.hid (show MK bm bw w2 w3 from (MK.below (Below.refl _ _).drew).trans k3); have X3 := Lib.hid (K23.out.keeps X2.out (by omega)); have S3 := Lib.hid (S2.out.go m3 K23.out); have c0' : w3.cell? ⟨bs, 0, none⟩ = some (.pointer (some ⟨bm, 0, none⟩)) := cell_of S3.out.st rfl; have p2' : w3.cell? ⟨w.heap.size, 2, none⟩ = some (.int .i64 len) := cell_of X3.out rfl; clear l3 m3 k3)))
  have K3 := Lib.hid ((MK.below BL2.out).trans K23.out)
  have hs3 : w.heap.size < w3.heap.size := lt_of_obj X3.out
  have p1 : w3.cell? ⟨w.heap.size, 1, none⟩ = some (.int .u32 sum) := cell_of X3.out rfl
  clear c0 p2 c0' p2'
  generalize hC : crc D = C at *
  clear hC
  by_cases hcs : C = sum
  · have hcs' := Lib.hid hcs
    have d1 : decide (C = sum) = true := by simpa using hcs
    have d2 : ((C : Int) != (sum : Int)) = false := by simp [hcs]
    have d3 : (C != sum) = false := by simp [hcs]
    clear hcs
    go_wp2_with (fail)
    refine region_calm (by kernel_rfl) (by kernel_rfl) ?_
    repeat (go_big_quiet_step ((go_at_call 48; exact calm_of (CR.out _))))
    refine wpQuiet_nil ?_; intro _ hw'; obtain ⟨xq, hw''⟩ := hw'; subst hw''
    have X4 := Lib.hid (hp_ext X3.out xq)
    have K4 := Lib.hid (K3.out.trans (MK.below (below_ext w3 xq)))
    have S4 := Lib.hid (S3.out.below (below_ext w3 xq))
    clear p1 X3 K3 S3 K23 M3
    generalize ext w3 xq = w4 at *
    have hs4 : w.heap.size < w4.heap.size := lt_of_obj X4.out
    have AC := Lib.hid (active_any S4.out)
    unfold ActQ bkO at AC
    rw [L3.out.v] at AC
    cases ha : actB s.v base size with
    | none =>
      rw [ha] at AC
      dsimp only at AC
      have gn1 : gn = 1 := by rw [GE.out, ha]
      clear ha
      go_wp2_with (fail)
      refine AC.out.mono ?_
      rintro e w5 ⟨rfl, ⟨s5, l5, m5⟩, k5⟩
      have L5 := Lib.hid (L3.out.trans l5)
      have K5 := Lib.hid (K4.out.trans k5)
      have S5 := Lib.hid (S4.out.go m5 k5)
      have X5 := Lib.hid (k5.keeps X4.out (by omega))
      have M5 := Lib.hid m5
      have hs5 : w.heap.size < w5.heap.size := lt_of_obj X5.out
      have p3 : w5.cell? ⟨w.heap.size, 3, none⟩ = some (.int .i64 bank) := cell_of X5.out rfl
      clear l5 m5 k5 AC
      have q0 : w5.cell? ⟨w.heap.size, 0, none⟩ = some (.int .u32 id) := cell_of X5.out rfl
      have q1 : w5.cell? ⟨w.heap.size, 1, none⟩ = some (.int .u32 sum) := cell_of X5.out rfl
      have q2 : w5.cell? ⟨w.heap.size, 2, none⟩ = some (.int .i64 len) := cell_of X5.out rfl
      have WL : IntKind.u32.wrap (len : Int) = (len : Int) := by rw [IntKind.wrap_u32]; omega
      subst gn1
      have SE := Lib.hid (seal_any (hdN 1 id len sum) (fun i => by unfold hdN; split <;> omega))
      simp only [hdV, show hdN 1 id len sum 0 = 1 from rfl, show hdN 1 id len sum 1 = id from rfl, show hdN 1 id len sum 2 = len from rfl, show hdN 1 id len sum 3 = sum from rfl, show hdN 1 id len sum 4 = 0 from rfl] at SE
      have HW : Hid (hdW 1 id len sum 0 = 1 ∧ hdW 1 id len sum 1 = id ∧ hdW 1 id len sum 2 = len ∧ hdW 1 id len sum 3 = sum ∧ hdW 1 id len sum 4 = sealS (hdN 1 id len sum)) := Lib.hid ⟨rfl, rfl, rfl, rfl, rfl⟩
      have HLT := Lib.hid (fun i => hdW_lt 1 id len sum i (by omega) hid (by omega) hsum)
      generalize sealS (hdN 1 id len sum) = S at *
      generalize hdW 1 id len sum = hw at *
      go_wp2_with (fail)
      refine (SE.out _).mono ?_
      rintro e w6 ⟨rfl, b6⟩
      have K6' := Lib.hid (K5.out.trans (MK.below b6))
      have S6' := Lib.hid (S5.out.below b6)
      have X6' := Lib.hid (below_keeps b6 X5.out hs5)
      have M6' := Lib.hid (M5.out.below b6)
      have hs6 : w.heap.size < w6.heap.size := lt_of_obj X6'.out
      clear b6 q0 q1 q2
      go_wp2_with (fail)
      have H0 : Hid (CML w6 bm bw n safe s5 w6.heap.size a hw 0 (w6.alloc (.cells #[.int .u32 1, .int .u32 id, .int .u32 len, .int .u32 sum, .int .u32 S] 100))) := Lib.hid ⟨⟨s5, (MS.Le.refl s5).go, M6'.out.below (bl_alloc (Below.refl _ _) _)⟩, MK.below (bl_alloc (Below.refl _ _) _), by rw [HW.out.1, HW.out.2.1, HW.out.2.2.1, HW.out.2.2.2.1, HW.out.2.2.2.2]; exact hp_new _ _⟩
      generalize (w6.alloc (.cells #[.int .u32 1, .int .u32 id, .int .u32 len, .int .u32 sum, .int .u32 S] 100)) = w7 at H0 ⊢
      go_loopw [11] (fun i wr => ∃ j : Nat, j ≤ 5 ∧ i = .int .i64 ((j + 1 : Nat) : Int) ∧ CML w6 bm bw n safe s5 w6.heap.size a hw j wr) (fun i _ => 6 - (intOf i).toNat)
      case atStart => exact ⟨0, by omega, rfl, H0.out⟩
      case round =>
        clear H0
        obtain ⟨j, hj, rfl, hR⟩ := hrel
        obtain ⟨s8, l8, m8⟩ := hR.me
        have HR := Lib.hid hR
        have G8 := Lib.hid l8
        have M8 := Lib.hid m8
        have S8 := Lib.hid (S6'.out.go m8 hR.kp)
        have c0 : wr.cell? ⟨bs, 0, none⟩ = some (.pointer (some ⟨bm, 0, none⟩)) := cell_of S8.out.st rfl
        have hb8 : bs < wr.heap.size := lt_of_obj S8.out.st
        have hx8 : w6.heap.size < wr.heap.size := lt_of_obj hR.x
        clear hR l8 m8
        by_cases hlt : j < 5
        · have dk : decide (((j + 1 : Nat) : Int) ≤ 5) = true := by simp; omega
          have dk' : decide ((j : Int) + 1 ≤ 5) = true := by simp; omega
          obtain ⟨r, hr⟩ : ∃ r, r = (j + 1) % 5 := ⟨_, rfl⟩
          have er : ((j : Int) + 1).tmod 5 = (r : Int) := by rw [Int.tmod_eq_emod_of_nonneg (by omega)]; omega
          have er' : ((j : Int) + 1) % 5 = (r : Int) := by omega
          have hr5 : r < 5 := by omega
          have cr : wr.cell? ⟨w6.heap.size, r, none⟩ = some (.int .u32 (hw r)) := by
            have hx := HR.out.x
            rcases (by omega : r = 0 ∨ r = 1 ∨ r = 2 ∨ r = 3 ∨ r = 4) with e | e | e | e | e <;> rw [e] <;> exact cell_of hx rfl
          have WR := Lib.hid (fun x => write_any (M8.out.below (below_ext wr x)) (S8.out.tab.below (below_ext wr x)) (a + r) (hw r) (by omega) (HLT.out r))
          have NX := Lib.hid (show s5.Go ((hdL a hw).take (j + 1)) (s8.store (a + r) (hw r)) by rw [hdL_at _ _ _ hlt, ← hr]; exact G8.out.trans (go_store _ _ _))
          have W5 : IntKind.i64.wrap ((a : Int) + (r : Int)) = (a : Int) + (r : Int) := IntWalk.i64_in _ (by omega)
          clear hr
          go_wp2_with (fail)
          refine region_calm_tail 12 (by kernel_rfl) (by kernel_rfl) ?_
          simp only [List.take_succ_cons, List.take_zero, List.drop_succ_cons, List.drop_zero]
          repeat (go_big_quiet_step ((fail)))
          refine wpQuiet_nil ?_; intro _ hw'; obtain ⟨xq, hw''⟩ := hw'; subst hw''
          go_wp2_with (fail)
          refine (WR.out xq).mono ?_
          rintro e w9 ⟨rfl, m9, k9⟩
          have K9 := Lib.hid ((MK.below (below_ext wr xq)).trans k9)
          have M9 := Lib.hid m9
          have NN := Lib.hid (show CML w6 bm bw n safe s5 w6.heap.size a hw (j + 1) w9 from ⟨⟨_, NX.out, M9.out⟩, HR.out.kp.trans K9.out, K9.out.keeps HR.out.x (by omega)⟩)
          clear m9 k9
          go_wp2_with (fail)
          exact ⟨⟨j + 1, by omega, by go_num, NN.out⟩, by simp [intOf]; omega⟩
        · have e : j = 5 := by omega
          subst e
          have dk : decide (((5 + 1 : Nat) : Int) ≤ 5) = false := by decide
          have c3 : wr.cell? ⟨bs, 3, none⟩ = some (.pointer (some ⟨g, 0, none⟩)) := cell_of S8.out.st rfl
          have z3 : ∀ i, wr.frozen? ⟨bs, i, none⟩ = false := fun i => free_of S8.out.st
          go_wp2_with (fail)
          go_ret
          refine QQ.out hcs'.out ⟨rfl, S8.out.st.set _, ⟨s8, ?_, S8.out.me.modN (B := bs) (mod_at (Mod.refl _ _) _) (Ne.symm H.out.ne.1) (Ne.symm H.out.ne.2)⟩, ((K6'.out.trans HR.out.kp).mb).setS 3 _⟩
          exact L5.out.go.trans G8.out
    | some k =>
      rw [ha] at AC
      dsimp only at AC
      have hnl := hNL k ha
      have hk2 := actB_lt ha
      have n1 : ((hdF s.v (bkAt base size k) 0 : Int) == 4294967295) = false := by simp; omega
      have n2 : (hdF s.v (bkAt base size k) 0 == 4294967295) = false := by simp; omega
      have gnk : gn = if k = bank then 1 else hdF s.v (bkAt base size k) 0 + 1 := by rw [GE.out, ha]
      clear ha GE hNL
      generalize hdF s.v (bkAt base size k) = f at *
      generalize dataB s.v (bkAt base size k) = D5 at *
      by_cases hkb : k = bank
      · rw [if_pos hkb] at gnk
        have n4 : ((k : Int) != (bank : Int)) = false := by simp [hkb]
        have n5 : (k != bank) = false := by simp [hkb]
        clear hkb
        go_wp2_with (fail)
        refine AC.out.mono ?_
        rintro e w5 ⟨⟨g5, rfl, hg5, go5⟩, ⟨s5, l5, m5⟩, k5⟩
        have x0 : w5.cell? ⟨g5, 0, none⟩ = some (.int .i64 k) := cell_of go5 rfl
        have x1 : w5.cell? ⟨g5, 1, none⟩ = some (.int .u32 (f 0)) := cell_of go5 rfl
        have hgl5 := lt_of_obj go5
        have G5 := Lib.hid go5
        clear go5
        have L5 := Lib.hid (L3.out.trans l5)
        have K5 := Lib.hid (K4.out.trans k5)
        have S5 := Lib.hid (S4.out.go m5 k5)
        have X5 := Lib.hid (k5.keeps X4.out (by omega))
        have M5 := Lib.hid m5
        have hs5 : w.heap.size < w5.heap.size := lt_of_obj X5.out
        have p3 : w5.cell? ⟨w.heap.size, 3, none⟩ = some (.int .i64 bank) := cell_of X5.out rfl
        clear l5 m5 k5 AC
        go_wp2_with (fail)
        refine region_calm (by kernel_rfl) (by kernel_rfl) ?_
        repeat (go_big_quiet_step ((fail)))
        refine wpQuiet_nil ?_; intro _ hw'; obtain ⟨xq, hw''⟩ := hw'; subst hw''
        clear x0 p3
        have K6 := Lib.hid (K5.out.trans (MK.below (below_ext w5 xq)))
        have S6 := Lib.hid (S5.out.below (below_ext w5 xq))
        have X6 := Lib.hid (hp_ext X5.out xq)
        have M6 := Lib.hid (M5.out.below (below_ext w5 xq))
        clear K5 S5 X5 M5 x1 G5 hgl5 hs5 hg5
        generalize ext w5 xq = w5 at *
        have K5 := K6
        have S5 := S6
        have X5 := X6
        have M5 := M6
        have hs5 : w.heap.size < w5.heap.size := lt_of_obj X5.out
        have q0 : w5.cell? ⟨w.heap.size, 0, none⟩ = some (.int .u32 id) := cell_of X5.out rfl
        have q1 : w5.cell? ⟨w.heap.size, 1, none⟩ = some (.int .u32 sum) := cell_of X5.out rfl
        have q2 : w5.cell? ⟨w.heap.size, 2, none⟩ = some (.int .i64 len) := cell_of X5.out rfl
        have WL : IntKind.u32.wrap (len : Int) = (len : Int) := by rw [IntKind.wrap_u32]; omega
        subst gnk
        have SE := Lib.hid (seal_any (hdN 1 id len sum) (fun i => by unfold hdN; split <;> omega))
        simp only [hdV, show hdN 1 id len sum 0 = 1 from rfl, show hdN 1 id len sum 1 = id from rfl, show hdN 1 id len sum 2 = len from rfl, show hdN 1 id len sum 3 = sum from rfl, show hdN 1 id len sum 4 = 0 from rfl] at SE
        have HW : Hid (hdW 1 id len sum 0 = 1 ∧ hdW 1 id len sum 1 = id ∧ hdW 1 id len sum 2 = len ∧ hdW 1 id len sum 3 = sum ∧ hdW 1 id len sum 4 = sealS (hdN 1 id len sum)) := Lib.hid ⟨rfl, rfl, rfl, rfl, rfl⟩
        have HLT := Lib.hid (fun i => hdW_lt 1 id len sum i (by omega) hid (by omega) hsum)
        generalize sealS (hdN 1 id len sum) = S at *
        generalize hdW 1 id len sum = hw at *
        go_wp2_with (fail)
        refine (SE.out _).mono ?_
        rintro e w6 ⟨rfl, b6⟩
        have K6' := Lib.hid (K5.out.trans (MK.below b6))
        have S6' := Lib.hid (S5.out.below b6)
        have X6' := Lib.hid (below_keeps b6 X5.out hs5)
        have M6' := Lib.hid (M5.out.below b6)
        have hs6 : w.heap.size < w6.heap.size := lt_of_obj X6'.out
        clear b6 q0 q1 q2
        go_wp2_with (fail)
        have H0 : Hid (CML w6 bm bw n safe s5 w6.heap.size a hw 0 (w6.alloc (.cells #[.int .u32 1, .int .u32 id, .int .u32 len, .int .u32 sum, .int .u32 S] 100))) := Lib.hid ⟨⟨s5, (MS.Le.refl s5).go, M6'.out.below (bl_alloc (Below.refl _ _) _)⟩, MK.below (bl_alloc (Below.refl _ _) _), by rw [HW.out.1, HW.out.2.1, HW.out.2.2.1, HW.out.2.2.2.1, HW.out.2.2.2.2]; exact hp_new _ _⟩
        generalize (w6.alloc (.cells #[.int .u32 1, .int .u32 id, .int .u32 len, .int .u32 sum, .int .u32 S] 100)) = w7 at H0 ⊢
        go_loopw [11] (fun i wr => ∃ j : Nat, j ≤ 5 ∧ i = .int .i64 ((j + 1 : Nat) : Int) ∧ CML w6 bm bw n safe s5 w6.heap.size a hw j wr) (fun i _ => 6 - (intOf i).toNat)
        case atStart => exact ⟨0, by omega, rfl, H0.out⟩
        case round =>
          clear H0
          obtain ⟨j, hj, rfl, hR⟩ := hrel
          obtain ⟨s8, l8, m8⟩ := hR.me
          have HR := Lib.hid hR
          have G8 := Lib.hid l8
          have M8 := Lib.hid m8
          have S8 := Lib.hid (S6'.out.go m8 hR.kp)
          have c0 : wr.cell? ⟨bs, 0, none⟩ = some (.pointer (some ⟨bm, 0, none⟩)) := cell_of S8.out.st rfl
          have hb8 : bs < wr.heap.size := lt_of_obj S8.out.st
          have hx8 : w6.heap.size < wr.heap.size := lt_of_obj hR.x
          clear hR l8 m8
          by_cases hlt : j < 5
          · have dk : decide (((j + 1 : Nat) : Int) ≤ 5) = true := by simp; omega
            have dk' : decide ((j : Int) + 1 ≤ 5) = true := by simp; omega
            obtain ⟨r, hr⟩ : ∃ r, r = (j + 1) % 5 := ⟨_, rfl⟩
            have er : ((j : Int) + 1).tmod 5 = (r : Int) := by rw [Int.tmod_eq_emod_of_nonneg (by omega)]; omega
            have er' : ((j : Int) + 1) % 5 = (r : Int) := by omega
            have hr5 : r < 5 := by omega
            have cr : wr.cell? ⟨w6.heap.size, r, none⟩ = some (.int .u32 (hw r)) := by
              have hx := HR.out.x
              rcases (by omega : r = 0 ∨ r = 1 ∨ r = 2 ∨ r = 3 ∨ r = 4) with e | e | e | e | e <;> rw [e] <;> exact cell_of hx rfl
            have WR := Lib.hid (fun x => write_any (M8.out.below (below_ext wr x)) (S8.out.tab.below (below_ext wr x)) (a + r) (hw r) (by omega) (HLT.out r))
            have NX := Lib.hid (show s5.Go ((hdL a hw).take (j + 1)) (s8.store (a + r) (hw r)) by rw [hdL_at _ _ _ hlt, ← hr]; exact G8.out.trans (go_store _ _ _))
            have W5 : IntKind.i64.wrap ((a : Int) + (r : Int)) = (a : Int) + (r : Int) := IntWalk.i64_in _ (by omega)
            clear hr
            go_wp2_with (fail)
            refine region_calm_tail 12 (by kernel_rfl) (by kernel_rfl) ?_
            simp only [List.take_succ_cons, List.take_zero, List.drop_succ_cons, List.drop_zero]
            repeat (go_big_quiet_step ((fail)))
            refine wpQuiet_nil ?_; intro _ hw'; obtain ⟨xq, hw''⟩ := hw'; subst hw''
            go_wp2_with (fail)
            refine (WR.out xq).mono ?_
            rintro e w9 ⟨rfl, m9, k9⟩
            have K9 := Lib.hid ((MK.below (below_ext wr xq)).trans k9)
            have M9 := Lib.hid m9
            have NN := Lib.hid (show CML w6 bm bw n safe s5 w6.heap.size a hw (j + 1) w9 from ⟨⟨_, NX.out, M9.out⟩, HR.out.kp.trans K9.out, K9.out.keeps HR.out.x (by omega)⟩)
            clear m9 k9
            go_wp2_with (fail)
            exact ⟨⟨j + 1, by omega, by go_num, NN.out⟩, by simp [intOf]; omega⟩
          · have e : j = 5 := by omega
            subst e
            have dk : decide (((5 + 1 : Nat) : Int) ≤ 5) = false := by decide
            have c3 : wr.cell? ⟨bs, 3, none⟩ = some (.pointer (some ⟨g, 0, none⟩)) := cell_of S8.out.st rfl
            have z3 : ∀ i, wr.frozen? ⟨bs, i, none⟩ = false := fun i => free_of S8.out.st
            go_wp2_with (fail)
            go_ret
            refine QQ.out hcs'.out ⟨rfl, S8.out.st.set _, ⟨s8, ?_, S8.out.me.modN (B := bs) (mod_at (Mod.refl _ _) _) (Ne.symm H.out.ne.1) (Ne.symm H.out.ne.2)⟩, ((K6'.out.trans HR.out.kp).mb).setS 3 _⟩
            exact L5.out.go.trans G8.out
      · rw [if_neg hkb] at gnk
        have n4 : ((k : Int) != (bank : Int)) = true := by simp; omega
        have n5 : (k != bank) = true := by simpa using hkb
        clear hkb
        have WG : IntKind.u32.wrap ((f 0 : Int) + 1) = (gn : Int) := by rw [IntKind.wrap_u32]; omega
        go_wp2_with (fail)
        refine AC.out.mono ?_
        rintro e w5 ⟨⟨g5, rfl, hg5, go5⟩, ⟨s5, l5, m5⟩, k5⟩
        have x0 : w5.cell? ⟨g5, 0, none⟩ = some (.int .i64 k) := cell_of go5 rfl
        have x1 : w5.cell? ⟨g5, 1, none⟩ = some (.int .u32 (f 0)) := cell_of go5 rfl
        have hgl5 := lt_of_obj go5
        have G5 := Lib.hid go5
        clear go5
        have L5 := Lib.hid (L3.out.trans l5)
        have K5 := Lib.hid (K4.out.trans k5)
        have S5 := Lib.hid (S4.out.go m5 k5)
        have X5 := Lib.hid (k5.keeps X4.out (by omega))
        have M5 := Lib.hid m5
        have hs5 : w.heap.size < w5.heap.size := lt_of_obj X5.out
        have p3 : w5.cell? ⟨w.heap.size, 3, none⟩ = some (.int .i64 bank) := cell_of X5.out rfl
        clear l5 m5 k5 AC
        go_wp2_with (fail)
        refine region_calm (by kernel_rfl) (by kernel_rfl) ?_
        repeat (go_big_quiet_step ((fail)))
        refine wpQuiet_nil ?_; intro _ hw'; obtain ⟨xq, hw''⟩ := hw'; subst hw''
        clear x0 p3
        have K6 := Lib.hid (K5.out.trans (MK.below (below_ext w5 xq)))
        have S6 := Lib.hid (S5.out.below (below_ext w5 xq))
        have X6 := Lib.hid (hp_ext X5.out xq)
        have M6 := Lib.hid (M5.out.below (below_ext w5 xq))
        have G6 := Lib.hid (hp_ext G5.out xq)
        clear K5 S5 X5 M5 x1 G5 hgl5 hs5 hg5
        generalize ext w5 xq = w5 at *
        have K5 := K6
        have S5 := S6
        have X5 := X6
        have M5 := M6
        have hs5 : w.heap.size < w5.heap.size := lt_of_obj X5.out
        have x1 : w5.cell? ⟨g5, 1, none⟩ = some (.int .u32 (f 0)) := cell_of G6.out rfl
        have hgg : gn < 4294967296 := by omega
        clear gnk
        have q0 : w5.cell? ⟨w.heap.size, 0, none⟩ = some (.int .u32 id) := cell_of X5.out rfl
        have q1 : w5.cell? ⟨w.heap.size, 1, none⟩ = some (.int .u32 sum) := cell_of X5.out rfl
        have q2 : w5.cell? ⟨w.heap.size, 2, none⟩ = some (.int .i64 len) := cell_of X5.out rfl
        have WL : IntKind.u32.wrap (len : Int) = (len : Int) := by rw [IntKind.wrap_u32]; omega
        have SE := Lib.hid (seal_any (hdN gn id len sum) (fun i => by unfold hdN; split <;> omega))
        simp only [hdV, show hdN gn id len sum 0 = gn from rfl, show hdN gn id len sum 1 = id from rfl, show hdN gn id len sum 2 = len from rfl, show hdN gn id len sum 3 = sum from rfl, show hdN gn id len sum 4 = 0 from rfl] at SE
        have HW : Hid (hdW gn id len sum 0 = gn ∧ hdW gn id len sum 1 = id ∧ hdW gn id len sum 2 = len ∧ hdW gn id len sum 3 = sum ∧ hdW gn id len sum 4 = sealS (hdN gn id len sum)) := Lib.hid ⟨rfl, rfl, rfl, rfl, rfl⟩
        have HLT := Lib.hid (fun i => hdW_lt gn id len sum i (by omega) hid (by omega) hsum)
        generalize sealS (hdN gn id len sum) = S at *
        generalize hdW gn id len sum = hw at *
        go_wp2_with (fail)
        refine (SE.out _).mono ?_
        rintro e w6 ⟨rfl, b6⟩
        have K6' := Lib.hid (K5.out.trans (MK.below b6))
        have S6' := Lib.hid (S5.out.below b6)
        have X6' := Lib.hid (below_keeps b6 X5.out hs5)
        have M6' := Lib.hid (M5.out.below b6)
        have hs6 : w.heap.size < w6.heap.size := lt_of_obj X6'.out
        clear b6 q0 q1 q2
        go_wp2_with (fail)
        have H0 : Hid (CML w6 bm bw n safe s5 w6.heap.size a hw 0 (w6.alloc (.cells #[.int .u32 gn, .int .u32 id, .int .u32 len, .int .u32 sum, .int .u32 S] 100))) := Lib.hid ⟨⟨s5, (MS.Le.refl s5).go, M6'.out.below (bl_alloc (Below.refl _ _) _)⟩, MK.below (bl_alloc (Below.refl _ _) _), by rw [HW.out.1, HW.out.2.1, HW.out.2.2.1, HW.out.2.2.2.1, HW.out.2.2.2.2]; exact hp_new _ _⟩
        generalize (w6.alloc (.cells #[.int .u32 gn, .int .u32 id, .int .u32 len, .int .u32 sum, .int .u32 S] 100)) = w7 at H0 ⊢
        go_loopw [11] (fun i wr => ∃ j : Nat, j ≤ 5 ∧ i = .int .i64 ((j + 1 : Nat) : Int) ∧ CML w6 bm bw n safe s5 w6.heap.size a hw j wr) (fun i _ => 6 - (intOf i).toNat)
        case atStart => exact ⟨0, by omega, rfl, H0.out⟩
        case round =>
          clear H0
          obtain ⟨j, hj, rfl, hR⟩ := hrel
          obtain ⟨s8, l8, m8⟩ := hR.me
          have HR := Lib.hid hR
          have G8 := Lib.hid l8
          have M8 := Lib.hid m8
          have S8 := Lib.hid (S6'.out.go m8 hR.kp)
          have c0 : wr.cell? ⟨bs, 0, none⟩ = some (.pointer (some ⟨bm, 0, none⟩)) := cell_of S8.out.st rfl
          have hb8 : bs < wr.heap.size := lt_of_obj S8.out.st
          have hx8 : w6.heap.size < wr.heap.size := lt_of_obj hR.x
          clear hR l8 m8
          by_cases hlt : j < 5
          · have dk : decide (((j + 1 : Nat) : Int) ≤ 5) = true := by simp; omega
            have dk' : decide ((j : Int) + 1 ≤ 5) = true := by simp; omega
            obtain ⟨r, hr⟩ : ∃ r, r = (j + 1) % 5 := ⟨_, rfl⟩
            have er : ((j : Int) + 1).tmod 5 = (r : Int) := by rw [Int.tmod_eq_emod_of_nonneg (by omega)]; omega
            have er' : ((j : Int) + 1) % 5 = (r : Int) := by omega
            have hr5 : r < 5 := by omega
            have cr : wr.cell? ⟨w6.heap.size, r, none⟩ = some (.int .u32 (hw r)) := by
              have hx := HR.out.x
              rcases (by omega : r = 0 ∨ r = 1 ∨ r = 2 ∨ r = 3 ∨ r = 4) with e | e | e | e | e <;> rw [e] <;> exact cell_of hx rfl
            have WR := Lib.hid (fun x => write_any (M8.out.below (below_ext wr x)) (S8.out.tab.below (below_ext wr x)) (a + r) (hw r) (by omega) (HLT.out r))
            have NX := Lib.hid (show s5.Go ((hdL a hw).take (j + 1)) (s8.store (a + r) (hw r)) by rw [hdL_at _ _ _ hlt, ← hr]; exact G8.out.trans (go_store _ _ _))
            have W5 : IntKind.i64.wrap ((a : Int) + (r : Int)) = (a : Int) + (r : Int) := IntWalk.i64_in _ (by omega)
            clear hr
            go_wp2_with (fail)
            refine region_calm_tail 12 (by kernel_rfl) (by kernel_rfl) ?_
            simp only [List.take_succ_cons, List.take_zero, List.drop_succ_cons, List.drop_zero]
            repeat (go_big_quiet_step ((fail)))
            refine wpQuiet_nil ?_; intro _ hw'; obtain ⟨xq, hw''⟩ := hw'; subst hw''
            go_wp2_with (fail)
            refine (WR.out xq).mono ?_
            rintro e w9 ⟨rfl, m9, k9⟩
            have K9 := Lib.hid ((MK.below (below_ext wr xq)).trans k9)
            have M9 := Lib.hid m9
            have NN := Lib.hid (show CML w6 bm bw n safe s5 w6.heap.size a hw (j + 1) w9 from ⟨⟨_, NX.out, M9.out⟩, HR.out.kp.trans K9.out, K9.out.keeps HR.out.x (by omega)⟩)
            clear m9 k9
            go_wp2_with (fail)
            exact ⟨⟨j + 1, by omega, by go_num, NN.out⟩, by simp [intOf]; omega⟩
          · have e : j = 5 := by omega
            subst e
            have dk : decide (((5 + 1 : Nat) : Int) ≤ 5) = false := by decide
            have c3 : wr.cell? ⟨bs, 3, none⟩ = some (.pointer (some ⟨g, 0, none⟩)) := cell_of S8.out.st rfl
            have z3 : ∀ i, wr.frozen? ⟨bs, i, none⟩ = false := fun i => free_of S8.out.st
            go_wp2_with (fail)
            go_ret
            refine QQ.out hcs'.out ⟨rfl, S8.out.st.set _, ⟨s8, ?_, S8.out.me.modN (B := bs) (mod_at (Mod.refl _ _) _) (Ne.symm H.out.ne.1) (Ne.symm H.out.ne.2)⟩, ((K6'.out.trans HR.out.kp).mb).setS 3 _⟩
            exact L5.out.go.trans G8.out
  · have hcs' := Lib.hid hcs
    have d1 : decide (C = sum) = false := by simpa using hcs
    have d2 : ((C : Int) != (sum : Int)) = true := by simp; omega
    have d3 : (C != sum) = true := by simpa using hcs
    clear hcs
    go_wp2_with (fail)
    refine region_calm (by kernel_rfl) (by kernel_rfl) ?_
    repeat (go_big_quiet_step ((go_at_call 48; exact calm_of (CR.out _))))
    refine wpQuiet_nil ?_; intro _ hw'; obtain ⟨xq, hw''⟩ := hw'; subst hw''
    go_wp2_with (fail)
    go_ret
    exact QN.out hcs'.out ⟨⟨_, L3.out, M3.out.below (below_ext _ _)⟩, K3.out.trans (MK.below (below_ext _ _))⟩
end Go.Proofs.YtdebfniifijjoaaDoor
