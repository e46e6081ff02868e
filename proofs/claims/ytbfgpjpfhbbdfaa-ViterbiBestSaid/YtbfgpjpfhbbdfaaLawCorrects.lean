/-
  The walk of the law ViterbiCorrects. Conditions: none beyond arguments that can be read.
-/
import Derived.Test.YtbfgpjpfhbbdfaaDist
import Derived.Test.YtbfgpjpfhbbdfaaFlp
import Derived.Test.YtbfgpjpfhbbdfaaRecv
import Derived.Test.YtbfgpjpfhbbdfaaAwk
namespace Go.Proofs.Ytbfgpjpfhbbdfaa
open Go.RowKit Kit
set_option linter.unusedVariables false
/-- The symbols with some of them inverted. -/
structure Sy (w : World) (f : Nat → Nat) (g n k : Nat) (r : Nat → Nat) (wr : World) : Prop where
  small : ∀ i, r i < 2
  near : cnt f r n ≤ k
  cells : ∀ i, i < n → wr.cell? ⟨g, i, none⟩ = some (.int .u8 (r i))
  free : ∀ i, i < n → wr.frozen? ⟨g, i, none⟩ = false
  below : Below w.heap.size w wr
  old : w.heap.size ≤ g
theorem Sy.step {w wr : World} {f r : Nat → Nat} {g n k : Nat} (h : Sy w f g n k r wr) (q : Nat) (hq : q < n) : Sy w f g n (k + 1) (fun j => if j = q then 1 - r q else r j) (wr.setCell ⟨g, q, none⟩ (.int .u8 ((1 - r q : Nat) : Int))) where
  small i := by show (if i = q then 1 - r q else r i) < 2; have := h.small i; split <;> omega
  near := by have := cnt_flip f r q (1 - r q) n; have := h.near; split at * <;> omega
  cells i hi := by
    by_cases e : i = q
    · subst e
      rw [if_pos rfl]
      exact World.cell?_setCell_same _ _ _ (h.cells i hi)
    · rw [if_neg e]
      exact (World.cell?_setCell_other _ _ _ _ (fun h => e (by injection h with _ h2; exact h2.symm))).trans (h.cells i hi)
  free i hi := by simpa using h.free i hi
  below := bl_set h.below h.old _
  old := h.old
theorem sy_start (w w2 : World) (S : ByteArray) (f : Nat → Nat) (n : Nat) (hs : S.size = n) (hf : ∀ i, f i < 2) (hb : ∀ i, i < n → byteAt S i = f i) (hw : Below w.heap.size w w2) : Sy w f w2.heap.size n 0 f (Lib.bytesWorld w2 5 S) where
  small := hf
  near := by rw [cnt_same]; omega
  cells i hi := by
    rw [Lib.bytesWorld_cell w2 5 S i (by omega), ← hb i hi]
    rfl
  free i hi := by
    have hs : S.size ≤ (Lib.bytesCells w2 5 S).size := by unfold Lib.bytesCells; rw [Array.size_append, Array.size_map]; exact Nat.le_add_right _ _
    simp [World.frozen?, Lib.bytesWorld_at_new]
    omega
  below := bl_step hw ⟨rfl, rfl, rfl, by rw [Lib.bytesWorld_size]; omega, fun j hj => Lib.bytesWorld_at_old w2 5 S j hj⟩
  old := hw.size
theorem sf_pv (r : Nat → Nat) (n i : Nat) (hr : ∀ i, r i < 2) (hi : i < n) : pv (sf (strF r n) n) i = 14 * (r i : Int) - 7 := by
  have e : pv (sf (strF r n) n) i = sfI (strF r n) i := by unfold pv sf; simp [List.getD_eq_getElem?_getD, hi]
  have := hr i
  rw [e, sfI, strF_at _ _ _ (by omega), if_pos hi]
theorem symL_r (r : Nat → Nat) (n : Nat) (hr : ∀ i, r i < 2) : symL (strF r n) = true := by
  refine symL_yes fun i hi => ?_
  have := hr i
  rw [strF_at _ _ _ (by omega)]
  split <;> omega
theorem toList_self (a : ByteArray) : (a.toList == a.toList) = true := by simp
set_option maxRecDepth 100000 in
set_option maxHeartbeats 1600000 in
theorem ViterbiCorrects_walk (a0 : ByteArray) (a1 : Value) (w : World) (w0 : a0.size ≤ maxLen) (w1 : Kit.SlIn [.inl .i64] w a1) :
    Calls Try.prog 7 #[.string a0, a1] w fun e w' => e = .returned (.bool true) ∧ Below w.heap.size w w' := by
  obtain ⟨a, m, c, X, rfl, hX, _⟩ := slIn_ns w1
  have AW := Lib.hid awake_any
  clear w0 w1
  by_cases h1 : 200 < a0.size
  · have d1 : decide ((200 : Int) < (a0.size : Int)) = true := by simp; omega
    clear h1 hX
    go_enter Try.func7, Try.ntmps7
    go_wp2_with (fail)
    refine (AW.out _).mono ?_
    rintro e w3 ⟨rfl, hb⟩
    have HB := Lib.hid hb
    clear hb
    go_wp2_with (fail)
    go_ret
    exact ⟨rfl, HB.out⟩
  have d1 : decide ((200 : Int) < (a0.size : Int)) = false := by simp; omega
  have HA : a0.size ≤ 200 := by omega
  obtain ⟨n, hn⟩ : ∃ n, n = 16 * a0.size + 12 := ⟨_, rfl⟩
  have hn2 : n ≤ 4000 := by omega
  have hn0 : 0 < n := by omega
  have HN := Lib.hid hn
  have EN := Lib.hid (refencode_idx a0 a0.size rfl (by omega) w)
  rw [← hn] at EN
  obtain ⟨S, hS⟩ : ∃ S, S = strF (outF (bitAt a0)) n := ⟨_, rfl⟩
  have hSs : S.size = n := by rw [hS, strF_size]
  rw [← hS] at EN
  have SB : Hid (∀ i, i < n → byteAt S i = outF (bitAt a0) i) := Lib.hid (fun i hi => by have := outF_lt (bitAt a0) i; rw [hS, strF_at _ _ _ (by omega), if_pos hi])
  have HX := Lib.hid hX
  have hm63 : m ≤ 9223372036854775807 := by have := hX.2.1; have := hX.2.2.1; unfold maxLen at this; omega
  clear h1 hX hn hS
  go_enter Try.func7, Try.ntmps7
  go_wp2_with (fail)
  refine EN.out.mono ?_
  rintro e w2 ⟨rfl, b2⟩
  have cv := Lib.run_convert_string_bytes (P := Try.prog) w2 9 37 5 S Try.underlying9 Try.underlying37 Try.underlying5
  have B2 := Lib.hid b2
  clear b2 EN
  rw [hSs] at cv
  have H0 := Lib.hid (sy_start w w2 S (outF (bitAt a0)) n hSs (outF_lt _) SB.out B2.out)
  go_wp2_with (fail)
  obtain ⟨g, hg⟩ : ∃ g, w2.heap.size = g := ⟨_, rfl⟩
  obtain ⟨w3, hw3⟩ : ∃ w3, Lib.bytesWorld w2 5 S = w3 := ⟨_, rfl⟩
  obtain ⟨cap, hcap⟩ : ∃ cap, grownCap w2 n 0 5 = cap := ⟨_, rfl⟩
  rw [hw3] at H0 ⊢
  rw [hg] at H0 ⊢
  rw [hcap]
  clear hw3 hg hcap cv B2 SB
  go_loopw [8] (fun i wr => ∃ k : Nat, ∃ r, k ≤ 4 ∧ i = .int .i64 k ∧ Sy w (outF (bitAt a0)) g n k r wr) (fun i _ => 4 - (intOf i).toNat)
  case atStart => exact ⟨0, _, by omega, rfl, H0.out⟩
  case round =>
    clear H0
    obtain ⟨k, r, hk, rfl, hS⟩ := hrel
    by_cases hgo : k < m ∧ k < 4
    · obtain ⟨hkm, hk4⟩ := hgo
      have dk : decide ((k : Int) < (m : Int)) = true := by simp; omega
      have dk' : decide (k < m) = true := by simp; omega
      have d4 : decide ((k : Int) < 4) = true := by simp; omega
      have d4' : decide (k < 4) = true := by simp; omega
      obtain ⟨b, off, rfl, hbl, cx⟩ := HX.out.2.2.2 k hkm
      have cx' := (hS.below.cell (p := ⟨b, off + k, none⟩) hbl).trans cx
      generalize pv X k = x at cx cx'
      have PA := Lib.hid (pick_any x n hn0 (by omega) wr)
      have hq := pickN_lt x n hn0
      generalize pickN x n = q at PA hq
      have cq := hS.cells q hq
      have fq := hS.free q hq
      have hr2 := hS.small q
      have NX := Lib.hid (hS.step q hq)
      obtain ⟨rq, hrq⟩ : ∃ rq, rq = r q := ⟨_, rfl⟩
      rw [← hrq] at cq hr2 NX
      have W1 : IntKind.u8.wrap (1 - (rq : Int)) = ((1 - rq : Nat) : Int) := by
        have : rq = 0 ∨ rq = 1 := by omega
        rcases this with rfl | rfl <;> rfl
      clear hS hrq cx
      go_wp2_with (fail)
      refine PA.out.mono ?_
      rintro e _ ⟨rfl, rfl⟩
      go_wp2_with (fail)
      exact ⟨⟨k + 1, _, by omega, by go_num, NX.out⟩, by simp [intOf]; omega⟩
    · have hsy := symL_r r n hS.small
      obtain ⟨vv, M, hP⟩ := dec_ex (sf (strF r n) n) a0.size
      have hM : msg a0.size M = a0 := four_law hP a0 rfl r (fun i hi => ⟨hS.small i, sf_pv r n i hS.small (by rw [HN.out]; exact hi)⟩) (by have := hS.near; rw [HN.out] at this; omega)
      have hcv := run_convert_bytes_arg wr 37 5 Try.underlying37 Try.underlying5 g 0 n cap ((List.range n).map fun i => ((r i : Nat) : Int)) (by simp) (fun i hi => by
        rw [Nat.zero_add, hS.cells i hi]
        simp [List.getD_eq_getElem?_getD, hi]) 9 Try.underlying9
      rw [show strOfNums ((List.range n).map fun i => ((r i : Nat) : Int)) = strF r n from rfl] at hcv
      obtain ⟨Q, hQ⟩ : ∃ Q, Q = strF r n := ⟨_, rfl⟩
      have hQs : Q.size = n := by rw [hQ, strF_size]
      have hsl := softL_sf Q (by rw [hQ]; exact hsy)
      rw [hQs] at hsl
      have SO := Lib.hid (soften_r Q (by omega) wr)
      rw [← hQ] at hcv hP hsy
      have hX2 := (sym_yes hsy).2
      rw [hQs] at hX2
      have DK := Lib.hid (fun a c w (h : NS w a n c (sf Q n)) => dec_ok (sf Q n) a n c a0.size w h (by omega) HN.out hsl vv M hP)
      rw [hM] at DK
      have HB := Lib.hid hS.below
      have E0 := Lib.hid (sym_yes hsy).1
      have X0 := Lib.hid hX2
      have QS := Lib.hid hQs
      have hlen : (sf Q n).length = n := sf_len Q n
      have HL := Lib.hid hlen
      have hend : k = 4 ∨ (k < 4 ∧ m ≤ k) := by omega
      clear hS hsy hP hM hQ hsl hX2 hQs hgo hlen
      rcases hend with rfl | ⟨hk4, hmk⟩
      · rcases Nat.lt_or_ge 4 m with h5 | h5
        · have dk : decide ((4 : Int) < (m : Int)) = true := by simp; omega
          have dk' : decide (4 < m) = true := by simp; omega
          go_wp2_with (fail)
          refine SO.out.mono ?_
          rintro e w5 ⟨⟨a5, n5, c5, rfl, l5, h5⟩, b5⟩
          rw [X0.out] at h5
          have hn5 : n5 = n := h5.1.trans HL.out
          rw [hn5] at h5 ⊢
          rw [E0.out]
          have H5 := Lib.hid h5
          have B5 := Lib.hid (bl_step HB.out b5)
          clear b5 h5 hn5 l5 SO X0 E0 HB
          go_wp2_with (fail)
          refine (DK.out _ _ _ H5.out).mono ?_
          rintro e w6 ⟨rfl, b6⟩
          have B6 := Lib.hid (bl_step B5.out b6)
          clear b6 DK B5
          go_wp2_with (fail)
          refine (AW.out _).mono ?_
          rintro e w7 ⟨rfl, b7⟩
          have B7 := Lib.hid (bl_step B6.out b7)
          clear b7
          go_wp2_with (fail)
          go_ret
          exact ⟨rfl, B7.out⟩
        · have dk : decide ((4 : Int) < (m : Int)) = false := by simp; omega
          have dk' : decide (4 < m) = false := by simp; omega
          go_wp2_with (fail)
          refine SO.out.mono ?_
          rintro e w5 ⟨⟨a5, n5, c5, rfl, l5, h5⟩, b5⟩
          rw [X0.out] at h5
          have hn5 : n5 = n := h5.1.trans HL.out
          rw [hn5] at h5 ⊢
          rw [E0.out]
          have H5 := Lib.hid h5
          have B5 := Lib.hid (bl_step HB.out b5)
          clear b5 h5 hn5 l5 SO X0 E0 HB
          go_wp2_with (fail)
          refine (DK.out _ _ _ H5.out).mono ?_
          rintro e w6 ⟨rfl, b6⟩
          have B6 := Lib.hid (bl_step B5.out b6)
          clear b6 DK B5
          go_wp2_with (fail)
          refine (AW.out _).mono ?_
          rintro e w7 ⟨rfl, b7⟩
          have B7 := Lib.hid (bl_step B6.out b7)
          clear b7
          go_wp2_with (fail)
          go_ret
          exact ⟨rfl, B7.out⟩
      · have dk : decide ((k : Int) < (m : Int)) = false := by simp; omega
        have dk' : decide (k < m) = false := by simp; omega
        go_wp2_with (fail)
        refine SO.out.mono ?_
        rintro e w5 ⟨⟨a5, n5, c5, rfl, l5, h5⟩, b5⟩
        rw [X0.out] at h5
        have hn5 : n5 = n := h5.1.trans HL.out
        rw [hn5] at h5 ⊢
        rw [E0.out]
        have H5 := Lib.hid h5
        have B5 := Lib.hid (bl_step HB.out b5)
        clear b5 h5 hn5 l5 SO X0 E0 HB
        go_wp2_with (fail)
        refine (DK.out _ _ _ H5.out).mono ?_
        rintro e w6 ⟨rfl, b6⟩
        have B6 := Lib.hid (bl_step B5.out b6)
        clear b6 DK B5
        go_wp2_with (fail)
        refine (AW.out _).mono ?_
        rintro e w7 ⟨rfl, b7⟩
        have B7 := Lib.hid (bl_step B6.out b7)
        clear b7
        go_wp2_with (fail)
        go_ret
        exact ⟨rfl, B7.out⟩
end Go.Proofs.Ytbfgpjpfhbbdfaa
