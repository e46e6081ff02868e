/-
  The walk of a store's read. Conditions: a store that lies in a memory.
-/
import Derived.Test.YtdebfniifijjoaaDoorM08
import Derived.Test.YtdebfniifijjoaaDoorM01
import Derived.BigQuiet
namespace Go.Proofs.YtdebfniifijjoaaDoor
open Go.RowKit Kit Go.Shelf
set_option linter.unusedVariables false
theorem zero102 (w : World) : Sem.run Tryd.prog (zeroValue 102) w = .ok (.agg #[.int .i64 0, .int .u32 0, .int .u32 0, .int .u32 0, .int .u32 0, .int .u32 0, .string emp]) w := by kernel_rfl
theorem info35 : (Tryd.prog.info? 35).map (fun i => (i.zero, i.size, i.bytes)) = some (some (.int .u32 0), 1, 4) := by kernel_rfl
theorem Tryd.info35' : Tryd.prog.info? 35 = some (Tryd.prog.types.getD 35 default) := by kernel_rfl
theorem Tryd.cells35 : Tryd.prog.cellsOf 35 = 1 := by kernel_rfl
theorem eq100 (d : Nat) (xs ys : Array Value) (w : World) : (Op.equalIn (d + 1) 100 (.agg xs) (.agg ys)).run Tryd.prog w = (Op.eqItems d 35 1 xs ys [0, 1, 2, 3, 4]).run Tryd.prog w := by
  have := run_equalIn_array (P := Tryd.prog) (w := w) d xs ys Tryd.underlying100 Tryd.info35'
  rw [Tryd.cells35] at this
  exact this
theorem eq_hd (a b c d e e' : Nat) (w : World) : (binOp .eql 100 (hdV a b c d e) (hdV a b c d e')).run Tryd.prog w = .ok (.bool (decide (e = e'))) w := by
  simp [hdV, go_sem, eq100, Op.eqItems]
  by_cases h : e = e'
  · simp [h]
  · have h' : ¬ (e : Int) = (e' : Int) := fun x => h (by omega)
    simp [h, h']
/-- In the loop. -/
structure BKL (w : World) (bm bw n safe : Nat) (s : MS) (B num a k : Nat) (wr : World) : Prop where
  me : ∃ s', s.Le s' ∧ ME wr bm bw n safe s'
  kp : MK bm bw w wr
  b0 : wr.heap[w.heap.size]? = some (.cells (bkA 0 (fun _ => 0) emp) 102)
  b1 : wr.heap[B]? = some (.cells (bkA num (hdK (hdF s.v a) k) emp) 102)
theorem bkA_get (num : Nat) (g : Nat → Nat) (d : ByteArray) (k : Nat) (hk : k < 5) : (bkA num g d)[1 + k]? = some (.int .u32 (g k)) := by
  rcases (by omega : k = 0 ∨ k = 1 ∨ k = 2 ∨ k = 3 ∨ k = 4) with rfl | rfl | rfl | rfl | rfl <;> rfl
theorem BKL.next {w wr w3 : World} {bm bw n safe B num a k : Nat} {s s' : MS} (h : BKL w bm bw n safe s B num a k wr) (hk : k < 5) (hb1 : bm < w.heap.size) (hb2 : bw < w.heap.size) (hB : w.heap.size < B)
    (l : s.Le s') (m : ME w3 bm bw n safe s') (kp : MK bm bw wr w3) : BKL w bm bw n safe s B num a (k + 1) (w3.setCell ⟨B, 1 + k, none⟩ (.int .u32 (s.v (a + k)))) := by
  have h1 := kp.keeps h.b1 (by omega)
  have h0 := kp.keeps h.b0 (by omega)
  refine ⟨⟨s', l, m.modN (B := B) (mod_at (Mod.refl _ _) _) (by omega) (by omega)⟩, (Mod.trans h.kp kp (fun _ _ e => e)).setCell (Or.inr (by show w.heap.size ≤ B; omega)) _, hp_set_ne h0 (by omega) _, ?_⟩
  have := hp_set (i := 1 + k) h1 (.int .u32 (s.v (a + k)))
  rw [show s.v (a + k) = hdF s.v a k from rfl, bkA_set _ _ _ _ hk] at this
  exact this
def SrdQ (bm bw n safe : Nat) (s : MS) (num a size : Nat) (w : World) (e : Ending) (w' : World) : Prop :=
  (e = if goodB s.v a size then .returned (.agg (bkA num (hdF s.v a) (dataB s.v a))) else invP) ∧ (∃ s', s.Le s' ∧ ME w' bm bw n safe s') ∧ MK bm bw w w'
set_option maxRecDepth 100000 in
set_option maxHeartbeats 1600000 in
theorem sread_any {w : World} {bs bm bw base size n safe : Nat} {nx : Value} {s : MS} (h : ST w bs bm base size nx) (hM : ME w bm bw n safe s) (hT : Tab w) (hne : bs ≠ bm ∧ bs ≠ bw) (h1 : 4 ≤ size) (h2 : size ≤ 8192) (hb : base ≤ 10000)
    (hn : base + 2 * half size ≤ n) (k : Nat) (hk : k < 2) :
    Calls Tryd.prog 76 #[.pointer (some ⟨bs, 0, none⟩), .int .i64 k] w fun e w' => SrdQ bm bw n safe s k (base + k * half size) size w e w' := by
  obtain ⟨fx, st, ho⟩ := hM.obj
  have hb1 : bm < w.heap.size := lt_of_obj ho
  have hb2 : bw < w.heap.size := lt_of_obj hM.words
  have hbs : bs < w.heap.size := lt_of_obj h
  have HM := Lib.hid hM
  have HT := Lib.hid hT
  have HS := Lib.hid h
  have POS := Lib.hid hM.pos
  have hN := hM.size
  have AT : Hid (∀ (w' : World), ST w' bs bm base size nx → Calls Tryd.prog 57 #[.pointer (some ⟨bs, 0, none⟩), .int .i64 k] w' fun e w'' => e = .returned (.int .i64 ((base + k * half size : Nat) : Int)) ∧ Below w'.heap.size w' w'') := Lib.hid (fun w' h' => (at_any h' hb h1 h2 k hk).mono fun e w'' ⟨he, x, hx⟩ => ⟨he, by rw [hx]; exact below_ext _ x⟩)
  have hle : base + k * half size + half size ≤ n := by rcases (by omega : k = 0 ∨ k = 1) with rfl | rfl <;> omega
  have hhf : half size = 5 + (size + 3) / 4 := rfl
  have HH : Hid (half size = 5 + (size + 3) / 4) := Lib.hid hhf
  obtain ⟨a, ha⟩ : ∃ a, a = base + k * half size := ⟨_, rfl⟩
  rw [← ha] at AT hle ⊢
  clear ha
  have SV := Lib.hid hM.ok.v
  have hh5 : a + 5 ≤ n := by omega
  have hlen : ∀ m, m ≤ size → m ≤ 4 * (n - (a + 5)) := by omega
  clear h hM hT ho hhf
  go_enter Tryd.func76, Tryd.ntmps76
  go_wp2_with (fail)
  have B0 := hp_new w (.cells (bkA 0 (fun _ => 0) emp) 102)
  refine (AT.out _ (hp_old HS.out _)).mono ?_
  rintro e w1 ⟨rfl, b1⟩
  have hs1 : w.heap.size < w1.heap.size := by have := b1.size; simp at this; omega
  have B01 := Lib.hid (below_keeps b1 B0 (by simp))
  have BL1 : Hid (Below w.heap.size w w1) := Lib.hid ((bl_alloc (Below.refl _ _) _).trans (b1.mono (by simp)))
  clear b1 B0
  have H0 : Hid (BKL w bm bw n safe s w1.heap.size k a 0 (w1.alloc (.cells (bkA k (hdK (hdF s.v a) 0) emp) 102))) := Lib.hid ⟨⟨s, .refl s, HM.out.below (bl_alloc (BL1.out) _)⟩, MK.below (bl_alloc BL1.out _), hp_old B01.out _, hp_new _ _⟩
  go_wp2_with (fail)
  have e0 : bkA k (hdK (hdF s.v a) 0) emp = #[.int .i64 k, .int .u32 0, .int .u32 0, .int .u32 0, .int .u32 0, .int .u32 0, .string ⟨#[]⟩] := by simp [bkA, hdK, emp]
  rw [e0] at H0
  clear e0
  generalize (w1.alloc (.cells #[.int .i64 k, .int .u32 0, .int .u32 0, .int .u32 0, .int .u32 0, .int .u32 0, .string ⟨#[]⟩] 102)) = w2 at H0 ⊢
  go_loopw [18] (fun i wr => ∃ j : Nat, j ≤ 5 ∧ i = .int .i64 j ∧ BKL w bm bw n safe s w1.heap.size k a j wr) (fun i _ => 5 - (intOf i).toNat)
  case atStart => exact ⟨0, by omega, rfl, H0.out⟩
  case round =>
    clear H0
    obtain ⟨j, hj, rfl, hR⟩ := hrel
    obtain ⟨s', hl, hm⟩ := hR.me
    have HR := Lib.hid hR
    have c0 : wr.cell? ⟨bs, 0, none⟩ = some (.pointer (some ⟨bm, 0, none⟩)) := cell_of (HS.out.mk' HR.out.kp hne.1 hne.2) rfl
    have HL := Lib.hid hl
    have HM' := Lib.hid hm
    have TW := Lib.hid (HT.out.mk POS.out HR.out.kp)
    have hwr : w1.heap.size < wr.heap.size := lt_of_obj hR.b1
    clear hR hl hm
    by_cases hlt : j < 5
    · have dk : decide ((j : Int) < 5) = true := by simp; omega
      have RD := Lib.hid (read3_any HM'.out TW.out (a + j) (by omega))
      rw [HL.out.v] at RD
      have LE := Lib.hid (HL.out.trans (le_rd s' (a + j)))
      go_wp2_with (fail)
      refine RD.out.mono ?_
      rintro e w3 ⟨rfl, m3, k3⟩
      have NX := Lib.hid (HR.out.next hlt hb1 hb2 hs1 LE.out m3 k3)
      have f3 : ∀ i, w3.frozen? ⟨w1.heap.size, i, none⟩ = false := fun i => free_of (k3.keeps HR.out.b1 (by omega))
      have c3 : w3.cell? ⟨w1.heap.size, 1 + j, none⟩ = some (.int .u32 (hdK (hdF s.v a) j j)) := cell_of (k3.keeps HR.out.b1 (by omega)) (bkA_get _ _ _ _ hlt)
      clear m3 k3
      go_wp2_with (fail)
      refine (need_ok w3).mono ?_
      rintro e _ ⟨rfl, rfl⟩
      go_wp2_with (fail)
      exact ⟨⟨j + 1, by omega, by go_num, NX.out⟩, by simp [intOf]; omega⟩
    · have e : j = 5 := by omega
      subst e
      have dk : decide (((5 : Nat) : Int) < 5) = false := by decide
      have QR : Hid (∀ (w' : World) (s' : MS), goodB s.v a size = true → s.Le s' → ME w' bm bw n safe s' → MK bm bw w w' → SrdQ bm bw n safe s k a size w (.returned (.agg (bkA k (hdF s.v a) (dataB s.v a)))) w') := Lib.hid (fun w' s' h1 h2 h3 h4 => ⟨by rw [h1]; rfl, ⟨s', h2, h3⟩, h4⟩)
      have GB : Hid (goodB s.v a size = (decide (0 < hdF s.v a 0) && decide (hdF s.v a 2 ≤ size) && decide (hdF s.v a 4 = sealS (hdF s.v a)) && decide (crc (dataB s.v a) = hdF s.v a 3))) := Lib.hid rfl
      have DB : Hid (dataB s.v a = rS (msF s.v) (a + 5) (hdF s.v a 2)) := Lib.hid rfl
      have KP := Lib.hid HR.out.kp
      have P1 := Lib.hid HR.out.b1
      have P0 := Lib.hid HR.out.b0
      have SE := Lib.hid (seal_any (hdF s.v a) (fun i => SV.out _))
      have FL : Hid (∀ i, hdF s.v a i < 4294967296) := Lib.hid (fun i => SV.out _)
      generalize hdF s.v a = f at *
      generalize dataB s.v a = D at *
      generalize sealS f = S at *
      simp only [hdV] at SE
      have p1 : wr.cell? ⟨w1.heap.size, 1, none⟩ = some (.int .u32 (f 0)) := cell_of P1.out rfl
      have p2 : wr.cell? ⟨w1.heap.size, 2, none⟩ = some (.int .u32 (f 1)) := cell_of P1.out rfl
      have p3 : wr.cell? ⟨w1.heap.size, 3, none⟩ = some (.int .u32 (f 2)) := cell_of P1.out rfl
      have p4 : wr.cell? ⟨w1.heap.size, 4, none⟩ = some (.int .u32 (f 3)) := cell_of P1.out rfl
      have p5 : wr.cell? ⟨w1.heap.size, 5, none⟩ = some (.int .u32 (f 4)) := cell_of P1.out rfl
      have c2 : wr.cell? ⟨bs, 2, none⟩ = some (.int .i64 size) := cell_of (HS.out.mk' KP.out hne.1 hne.2) rfl
      have hbr : bs < wr.heap.size := by have := KP.out.size; omega
      have F2 := FL.out 2
      by_cases g1 : 0 < f 0
      · have d1 : decide ((0 : Int) < (f 0 : Int)) = true := by simp; omega
        have d1' : decide (0 < f 0) = true := by simp; omega
        have W2 : IntKind.i64.wrap (f 2 : Int) = (f 2 : Int) := IntWalk.i64_in _ (by omega)
        by_cases g2 : f 2 ≤ size
        · have d2 : decide ((f 2 : Int) ≤ (size : Int)) = true := by simp; omega
          have d2' : decide (f 2 ≤ size) = true := by simp; omega
          have EQ : ∀ W, (binOp .eql 100 (.agg #[.int .u32 (f 0), .int .u32 (f 1), .int .u32 (f 2), .int .u32 (f 3), .int .u32 (f 4)]) (.agg #[.int .u32 (f 0), .int .u32 (f 1), .int .u32 (f 2), .int .u32 (f 3), .int .u32 S])).run Tryd.prog W = .ok (.bool (decide (f 4 = S))) W := fun W => eq_hd _ _ _ _ _ _ W
          by_cases g3 : f 4 = S
          · have d3 : decide (f 4 = S) = true := by simpa using g3
            clear g3
            rw [d3] at EQ
            go_wp2_with (fail)
            refine region_calm_tail 23 (by kernel_rfl) (by kernel_rfl) ?_
            simp only [List.take_succ_cons, List.take_zero, List.drop_succ_cons, List.drop_zero]
            repeat (go_big_quiet_step ((go_at_call 69; exact calm_of (SE.out _))))
            refine wpQuiet_nil ?_; intro _ hw'; obtain ⟨xq, hw''⟩ := hw'; subst hw''
            go_wp2_with (fail)
            refine (need_ok _).mono ?_
            rintro e _ ⟨rfl, rfl⟩
            have M4 := Lib.hid (HM'.out.below (below_ext wr xq))
            have T4 := Lib.hid (TW.out.below (below_ext wr xq))
            have K4 := Lib.hid (KP.out.trans (MK.below (below_ext wr xq)))
            have A1 := Lib.hid (hp_ext P1.out xq)
            have A0 := Lib.hid (hp_ext P0.out xq)
            have hw4 : w1.heap.size < (ext wr xq).heap.size := lt_of_obj A1.out
            clear p1 p2 p3 p4 p5 c0 c2 EQ SE
            generalize ext wr xq = w4 at *
            have hm2 : f 2 ≤ 4 * (n - (a + 5)) := hlen _ g2
            have RB := Lib.hid (rdb_any (M4.out.below (Below.refl _ _).drew) (T4.out.below (Below.refl _ _).drew) (a + 5) (f 2) hm2 hh5)
            rw [rS_v, HL.out.v, ← DB.out] at RB
            have hD : D.size = f 2 := by rw [DB.out, rS_size]
            have c0 : w4.cell? ⟨bs, 0, none⟩ = some (.pointer (some ⟨bm, 0, none⟩)) := cell_of (HS.out.mk' K4.out hne.1 hne.2) rfl
            have hb4 : bs < w4.heap.size := by have := K4.out.size; omega
            have p3 : w4.cell? ⟨w1.heap.size, 3, none⟩ = some (.int .u32 (f 2)) := cell_of A1.out rfl
            have W3 : IntKind.i64.wrap ((a : Int) + 5) = (a : Int) + 5 := IntWalk.i64_in _ (by omega)
            go_wp2_with (fail)
            go_region_held3 (fun w' => w'.cell? ⟨bs, 0, none⟩ = some (.pointer (some ⟨bm, 0, none⟩)) ∧ w'.cell? ⟨w1.heap.size, 3, none⟩ = some (.int .u32 (f 2))) (go_keep) ((first | (go_at_call 68; refine RB.out.mono ?_; rintro e w5 ⟨rfl, m5, k5⟩; have M5 := Lib.hid m5; have K45 := Lib.hid (show MK bm bw w4 w5 from (MK.below (Below.refl _ _).drew).trans k5); have A51 := Lib.hid (K45.out.keeps A1.out (by omega)); have c0' : w5.cell? ⟨bs, 0, none⟩ = some (.pointer (some ⟨bm, 0, none⟩)) := cell_of (HS.out.mk' (K4.out.trans K45.out) hne.1 hne.2) rfl; have p3' : w5.cell? ⟨w1.heap.size, 3, none⟩ = some (.int .u32 (f 2)) := cell_of A51.out rfl; clear m5 k5)))
            have K5 := Lib.hid (K4.out.trans K45.out)
            have A50 := Lib.hid (K45.out.keeps A0.out (by omega))
            have L5 := Lib.hid (HL.out.trans (le_rds s' (a + 5) ((f 2 + 3) / 4)))
            clear c0 p3 c0' p3'
            have CR := Lib.hid (fun w => crc_any D (by omega) w)
            generalize crc D = C at *
            have p4 : w5.cell? ⟨w1.heap.size, 4, none⟩ = some (.int .u32 (f 3)) := cell_of A51.out rfl
            have hw5 : w1.heap.size < w5.heap.size := lt_of_obj A51.out
            by_cases g4 : C = f 3
            · have d4 : decide (C = f 3) = true := by simpa using g4
              have d4' : ((C : Int) == (f 3 : Int)) = true := by simp [g4]
              have d4'' : (C == f 3) = true := by simpa using g4
              have G : goodB s.v a size = true := by rw [GB.out, d1', d2', d3, d4]; rfl
              clear g4
              go_wp2_with (fail)
              refine region_calm_tail 10 (by kernel_rfl) (by kernel_rfl) ?_
              simp only [List.take_succ_cons, List.take_zero, List.drop_succ_cons, List.drop_zero]
              repeat (go_big_quiet_step ((go_at_call 48; exact calm_of (CR.out _))))
              refine wpQuiet_nil ?_; intro _ hw'; obtain ⟨xq, hw''⟩ := hw'; subst hw''
              go_wp2_with (fail)
              refine (need_ok _).mono ?_
              rintro e _ ⟨rfl, rfl⟩
              have R1 := Lib.hid (hp_ext A51.out xq)
              have R0 := Lib.hid (hp_ext A50.out xq)
              have M6 := Lib.hid (M5.out.below (below_ext w5 xq))
              have K6 := Lib.hid (K5.out.trans (MK.below (below_ext w5 xq)))
              have hw6 := lt_of_obj R1.out
              clear p4
              generalize ext w5 xq = w6 at *
              have r0 : w6.cell? ⟨w1.heap.size, 0, none⟩ = some (.int .i64 k) := cell_of R1.out rfl
              have r1 : w6.cell? ⟨w1.heap.size, 1, none⟩ = some (.int .u32 (f 0)) := cell_of R1.out rfl
              have r2 : w6.cell? ⟨w1.heap.size, 2, none⟩ = some (.int .u32 (f 1)) := cell_of R1.out rfl
              have r3 : w6.cell? ⟨w1.heap.size, 3, none⟩ = some (.int .u32 (f 2)) := cell_of R1.out rfl
              have r4 : w6.cell? ⟨w1.heap.size, 4, none⟩ = some (.int .u32 (f 3)) := cell_of R1.out rfl
              have r5 : w6.cell? ⟨w1.heap.size, 5, none⟩ = some (.int .u32 (f 4)) := cell_of R1.out rfl
              have r6 : w6.cell? ⟨w1.heap.size, 6, none⟩ = some (.string emp) := cell_of R1.out rfl
              have q0 : w6.cell? ⟨w.heap.size, 0, none⟩ = some (.int .i64 (0 : Nat)) := cell_of R0.out rfl
              have q1 : w6.cell? ⟨w.heap.size, 1, none⟩ = some (.int .u32 (0 : Nat)) := cell_of R0.out rfl
              have q2 : w6.cell? ⟨w.heap.size, 2, none⟩ = some (.int .u32 (0 : Nat)) := cell_of R0.out rfl
              have q3 : w6.cell? ⟨w.heap.size, 3, none⟩ = some (.int .u32 (0 : Nat)) := cell_of R0.out rfl
              have q4 : w6.cell? ⟨w.heap.size, 4, none⟩ = some (.int .u32 (0 : Nat)) := cell_of R0.out rfl
              have q5 : w6.cell? ⟨w.heap.size, 5, none⟩ = some (.int .u32 (0 : Nat)) := cell_of R0.out rfl
              have q6 : w6.cell? ⟨w.heap.size, 6, none⟩ = some (.string emp) := cell_of R0.out rfl
              have z1 : ∀ j, w6.frozen? ⟨w1.heap.size, j, none⟩ = false := fun j => free_of R1.out
              have z0 : ∀ j, w6.frozen? ⟨w.heap.size, j, none⟩ = false := fun j => free_of R0.out
              have hwa : w.heap.size ≠ w1.heap.size := by omega
              have hwb : w1.heap.size ≠ w.heap.size := by omega
              have hwc : w.heap.size < w6.heap.size := by omega
              go_wp2_with (fail)
              have g0 := hp_set_ne (b' := w1.heap.size) (i := 6) R0.out hwa (.string D)
              have g1 := hp_set (i := 6) (hp_set (i := 5) (hp_set (i := 4) (hp_set (i := 3) (hp_set (i := 2) (hp_set (i := 1) (hp_set (i := 0) g0 (.int .i64 k)) (.int .u32 (f 0))) (.int .u32 (f 1))) (.int .u32 (f 2))) (.int .u32 (f 3))) (.int .u32 (f 4))) (.string D)
              have mg : ∀ j v (W : World), MK bm bw w W → MK bm bw w (W.setCell ⟨w.heap.size, j, none⟩ v) := fun j v W h => h.setCell (Or.inr (Nat.le_refl _)) v
              have mn1 : ∀ j v (W : World), ME W bm bw n safe (s'.rds (a + 5) ((f 2 + 3) / 4)) → ME (W.setCell ⟨w.heap.size, j, none⟩ v) bm bw n safe (s'.rds (a + 5) ((f 2 + 3) / 4)) := fun j v W h => h.modN (B := w.heap.size) (mod_at (Mod.refl _ _) _) (by omega) (by omega)
              have mn2 := M6.out.modN (B := w1.heap.size) (mod_at (i := 6) (Mod.refl _ _) (.string D)) (by omega) (by omega)
              refine bodyPost_ret (results_cell_row rfl _ _ w.heap.size 102 (bkA k f D) (0, 0) _ rfl g1 Tryd.underlying102 rfl (by kernel_rfl)) rfl (QR.out _ _ G L5.out ?_ ?_)
              · exact mn1 _ _ _ (mn1 _ _ _ (mn1 _ _ _ (mn1 _ _ _ (mn1 _ _ _ (mn1 _ _ _ (mn1 _ _ _ mn2))))))
              · exact mg _ _ _ (mg _ _ _ (mg _ _ _ (mg _ _ _ (mg _ _ _ (mg _ _ _ (mg _ _ _ (K6.out.setCell (Or.inr (by show w.heap.size ≤ w1.heap.size; omega)) _)))))))
            · have d4 : decide (C = f 3) = false := by simpa using g4
              have d4' : ((C : Int) == (f 3 : Int)) = false := by simp; omega
              have d4'' : (C == f 3) = false := by simpa using g4
              have G : goodB s.v a size = false := by rw [GB.out, d1', d2', d3, d4]; rfl
              go_wp2_with (fail)
              refine region_calm_tail 10 (by kernel_rfl) (by kernel_rfl) ?_
              simp only [List.take_succ_cons, List.take_zero, List.drop_succ_cons, List.drop_zero]
              repeat (go_big_quiet_step ((go_at_call 48; exact calm_of (CR.out _))))
              refine wpQuiet_nil ?_; intro _ hw'; obtain ⟨xq, hw''⟩ := hw'; subst hw''
              go_wp2_with (fail)
              refine (need_no _).mono ?_
              rintro e _ ⟨rfl, rfl⟩
              unfold invP
              refine ⟨rfl, ⟨?_, ⟨_, L5.out, M5.out.below (below_ext _ _)⟩, K5.out.trans (MK.below (below_ext _ _))⟩⟩
              rw [G]; rfl
          · have d3 : decide (f 4 = S) = false := by simpa using g3
            rw [d3] at EQ
            have G : goodB s.v a size = false := by rw [GB.out, d1', d2', d3]; rfl
            go_wp2_with (fail)
            refine region_calm_tail 23 (by kernel_rfl) (by kernel_rfl) ?_
            simp only [List.take_succ_cons, List.take_zero, List.drop_succ_cons, List.drop_zero]
            repeat (go_big_quiet_step ((go_at_call 69; exact calm_of (SE.out _))))
            refine wpQuiet_nil ?_; intro _ hw'; obtain ⟨xq, hw''⟩ := hw'; subst hw''
            go_wp2_with (fail)
            refine (need_no _).mono ?_
            rintro e _ ⟨rfl, rfl⟩
            unfold invP
            refine ⟨rfl, ⟨?_, ⟨s', HL.out, HM'.out.below (below_ext _ _)⟩, KP.out.trans (MK.below (below_ext _ _))⟩⟩
            rw [G]; rfl
        · have d2 : decide ((f 2 : Int) ≤ (size : Int)) = false := by simp; omega
          have d2' : decide (f 2 ≤ size) = false := by simp; omega
          have G : goodB s.v a size = false := by rw [GB.out, d1', d2']; rfl
          go_wp2_with (fail)
          refine region_calm_tail 23 (by kernel_rfl) (by kernel_rfl) ?_
          simp only [List.take_succ_cons, List.take_zero, List.drop_succ_cons, List.drop_zero]
          repeat (go_big_quiet_step ((fail)))
          refine wpQuiet_nil ?_; intro _ hw'; obtain ⟨xq, hw''⟩ := hw'; subst hw''
          go_wp2_with (fail)
          refine (need_no _).mono ?_
          rintro e _ ⟨rfl, rfl⟩
          unfold invP
          refine ⟨rfl, ⟨?_, ⟨s', HL.out, HM'.out.below (below_ext _ _)⟩, KP.out.trans (MK.below (below_ext _ _))⟩⟩
          rw [G]; rfl
      · have d1 : decide ((0 : Int) < (f 0 : Int)) = false := by simp; omega
        have d1' : decide (0 < f 0) = false := by simp; omega
        have G : goodB s.v a size = false := by rw [GB.out, d1']; rfl
        go_wp2_with (fail)
        refine region_calm_tail 23 (by kernel_rfl) (by kernel_rfl) ?_
        simp only [List.take_succ_cons, List.take_zero, List.drop_succ_cons, List.drop_zero]
        repeat (go_big_quiet_step ((fail)))
        refine wpQuiet_nil ?_; intro _ hw'; obtain ⟨xq, hw''⟩ := hw'; subst hw''
        go_wp2_with (fail)
        refine (need_no _).mono ?_
        rintro e _ ⟨rfl, rfl⟩
        unfold invP
        refine ⟨rfl, ⟨?_, ⟨s', HL.out, HM'.out.below (below_ext _ _)⟩, KP.out.trans (MK.below (below_ext _ _))⟩⟩
        rw [G]; rfl
end Go.Proofs.YtdebfniifijjoaaDoor
