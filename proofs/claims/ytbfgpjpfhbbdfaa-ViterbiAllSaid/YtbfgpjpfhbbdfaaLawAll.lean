/-
  The walk of the law ViterbiAll. Conditions: none beyond arguments that can be read.
-/
import Derived.Test.YtbfgpjpfhbbdfaaLawp
import Derived.Test.YtbfgpjpfhbbdfaaRecv
import Derived.Test.YtbfgpjpfhbbdfaaAwk
namespace Go.Proofs.Ytbfgpjpfhbbdfaa
open Go.RowKit Kit
set_option linter.unusedVariables false
/-- A message of one byte. -/
def bS (i : Nat) : ByteArray := strF (fun _ => i) 1
theorem bS_size (i : Nat) : (bS i).size = 1 := by unfold bS; rw [strF_size]
theorem bS_byte (i : Nat) (h : i < 256) : byteAt (bS i) 0 = i := by unfold bS; rw [strF_at _ _ _ h, if_pos (by omega)]
theorem bS_num (d : ByteArray) (h : d.size = 1) : num (bitAt d) (8 * 1 + 6) = 64 * byteAt d 0 := by
  rw [num_end d 1 h, show 8 * 1 = 8 * (0 + 1) by omega, num_byte d 0 (by omega)]
  simp [num]
theorem bS_all (d : ByteArray) (h : d.size = 1) : ∃ i, i < 256 ∧ d = bS i := by
  refine ⟨byteAt d 0, byteAt_lt d 0, ba_ext (by rw [h, bS_size]) fun j hj => ?_⟩
  have : j = 0 := by omega
  subst this
  rw [bS_byte _ (byteAt_lt d 0)]
theorem bS_ne (i : Nat) : ((bS i).toList == []) = false := by
  rw [toList_data]
  have : (bS i).data.toList.length = 1 := by have := bS_size i; simpa using this
  cases h : (bS i).data.toList with
  | nil => rw [h] at this; cases this
  | cons a l => rfl
theorem conv1 (w : World) (x : Int) : (convert 37 9 (.slice (some ⟨w.heap.size, 0, none⟩) 1 1)).run Try.prog (w.alloc (.cells #[.int .u8 x] 5)) = .ok (.string (strOfNums [x])) (w.alloc (.cells #[.int .u8 x] 5)) :=
  run_convert_bytes_arg _ 37 5 Try.underlying37 Try.underlying5 w.heap.size 0 1 1 [x] rfl (fun i hi => by
    have : i = 0 := by omega
    subst this
    exact cell_of (hp_new w _) rfl) 9 Try.underlying9
theorem conv1n (k : Nat) : strOfNums [(k : Int)] = bS k := by unfold bS strF; rfl
/-- The sum of a message of one byte. -/
def sB (L : List Int) (i : Nat) : Int := sc (outF (bitAt (bS i))) L 28
/-- The best one of the first k. -/
def Bst (L : List Int) (k : Nat) (b : ByteArray) (s : Int) : Prop := (k = 0 ∧ b = ⟨#[]⟩ ∧ s = 0) ∨ ∃ j, j < k ∧ b = bS j ∧ s = sB L j ∧ ∀ i, i < k → sB L i < sB L j ∨ (sB L i = sB L j ∧ j ≤ i)
theorem Bst.first (L : List Int) : Bst L 1 (bS 0) (sB L 0) := .inr ⟨0, by omega, rfl, rfl, fun i hi => .inr ⟨by rw [show i = 0 by omega], by omega⟩⟩
theorem Bst.take {L : List Int} {k j : Nat} (h : ∀ i, i < k → sB L i < sB L j ∨ (sB L i = sB L j ∧ j ≤ i)) (hj : j < k) (hl : sB L j < sB L k) : Bst L (k + 1) (bS k) (sB L k) :=
  .inr ⟨k, by omega, rfl, rfl, fun i hi => by
    rcases Nat.lt_succ_iff_lt_or_eq.1 hi with h' | rfl
    · have := h i h'; omega
    · omega⟩
theorem Bst.keep {L : List Int} {k j : Nat} (h : ∀ i, i < k → sB L i < sB L j ∨ (sB L i = sB L j ∧ j ≤ i)) (hj : j < k) (hl : ¬ sB L j < sB L k) : Bst L (k + 1) (bS j) (sB L j) :=
  .inr ⟨j, by omega, rfl, rfl, fun i hi => by
    rcases Nat.lt_succ_iff_lt_or_eq.1 hi with h' | rfl
    · exact h i h'
    · omega⟩
theorem best_of {L : List Int} {v : Int} {M : Nat} (hP : P L (8 * 1) (8 * 1 + 6) 0 = some (v, M)) {b : ByteArray} {s : Int} (h : Bst L 256 b s) : msg 1 M = b ∧ v = s := by
  rcases h with ⟨h, _⟩ | ⟨j, hj, rfl, rfl, h⟩
  · omega
  · have := dec_only hP (bS j) (bS_size j) (fun d' hd' => by
      obtain ⟨i, hi, rfl⟩ := bS_all d' hd'
      rw [bS_num _ (bS_size i), bS_num _ (bS_size j), bS_byte _ hi, bS_byte _ hj]
      have := h i hi
      show sB L i < sB L j ∨ (sB L i = sB L j ∧ 64 * j ≤ 64 * i)
      omega)
    exact this
set_option maxRecDepth 100000 in
set_option maxHeartbeats 1600000 in
theorem ViterbiAll_walk (a0 : Int) (a1 : Value) (w : World) (w0 : (Lit.int .u8 a0).wf = true) (w1 : Kit.SlIn [.inl .i8] w a1) :
    Calls Try.prog 6 #[.int .u8 a0, a1] w fun e w' => e = .returned (.bool true) ∧ Below w.heap.size w w' := by
  obtain ⟨a, m, c, rfl, hN⟩ := slIn_n8 w1
  have AW := Lib.hid awake_any
  clear w0 w1
  by_cases h2 : 5000 < m
  · have d2 : decide ((5000 : Int) < (m : Int)) = true := by simp; omega
    clear h2 hN
    go_enter Try.func6, Try.ntmps6
    go_wp2_with (fail)
    refine (AW.out _).mono ?_
    rintro e w3 ⟨rfl, hb⟩
    have HB := Lib.hid hb
    clear hb
    go_wp2_with (fail)
    go_ret
    exact ⟨rfl, HB.out⟩
  have d2 : decide ((5000 : Int) < (m : Int)) = false := by simp; omega
  have hsz : (strOfNums [a0]).size = 1 := by rw [strOfNums_size]; rfl
  generalize hdd : strOfNums [a0] = dd at hsz
  have cv := conv1
  have RA := Lib.hid (fun o => received_any dd (by omega) a m c (w.alloc o) (hN.below (bl_alloc (Below.refl _ _) o)) 28 (by rw [hsz]))
  have BO := Lib.hid (fun o => bl_alloc (Below.refl w.heap.size w) o)
  have cv0 := cv w a0
  rw [hdd] at cv0
  clear h2 hN hdd cv
  go_enter Try.func6, Try.ntmps6
  go_wp2_with (fail)
  refine (RA.out _).mono ?_
  rintro e w2 ⟨v, L, rfl, hS⟩
  obtain ⟨g, cap, rfl, hc1, hc2⟩ : ∃ g cap, v = .slice (some ⟨g, 0, none⟩) 28 cap ∧ 28 ≤ cap ∧ cap ≤ maxLen := by
    rcases hS.2.2.1.2 with ⟨_, h0⟩ | ⟨g, cap, cur, rfl, _, _, h1, h2, _⟩
    · omega
    · exact ⟨g, cap, rfl, h1, h2⟩
  obtain ⟨ga, gc, he1, hNS⟩ := own_ns hS.2.2.1
  simp only [Value.slice.injEq, true_and] at he1
  obtain ⟨rfl, rfl⟩ := he1
  obtain ⟨vv, M, hP⟩ := dec_ex L 1
  have D1 := Lib.hid (dec_ok L _ 28 _ 1 w2 hNS (by omega) rfl hS.2.1 vv M hP)
  have SC := Lib.hid (fun (d : ByteArray) (hd : d.size = 1) w (h : NS w (some ⟨g, 0, none⟩) 28 cap L) => score_ok d L _ 28 cap w h (by omega) (by rw [hd]) hS.2.1)
  have HNS := Lib.hid hNS
  have HP := Lib.hid hP
  have HB := Lib.hid (bl_step (BO.out _) hS.2.2.2)
  clear hS hNS hP cv0 RA BO hc1 hc2
  go_wp2_with (fail)
  refine D1.out.mono ?_
  rintro e w3 ⟨rfl, b3⟩
  have HB3 := Lib.hid (bl_step HB.out b3)
  have HNS3 := Lib.hid (HNS.out.below b3)
  clear b3 D1 HB HNS
  go_wp2_with (fail)
  go_loopw [9, 10, 11] (fun b s i wr => ∃ k : Nat, ∃ bb ss, k ≤ 256 ∧ i = .int .i64 k ∧ b = .string bb ∧ s = .int .i64 ss ∧ Bst L k bb ss ∧ NS wr (some ⟨g, 0, none⟩) 28 cap L ∧ Below w.heap.size w wr) (fun _ _ i _ => 256 - (intOf i).toNat)
  case atStart => exact ⟨0, _, _, by omega, rfl, rfl, rfl, .inl ⟨rfl, rfl, rfl⟩, HNS3.out, HB3.out⟩
  case round =>
    clear HNS3 HB3
    obtain ⟨k, bb, ss, hk, rfl, rfl, rfl, hbst, hns, hbel⟩ := hrel
    have HK := Lib.hid hbst; have HNS := Lib.hid hns; have HB := Lib.hid hbel
    clear hbst hns hbel
    by_cases hlt : k < 256
    · have cv0 := conv1 wr k
      rw [conv1n] at cv0
      have wu : IntKind.u8.wrap (k : Int) = (k : Int) := by simp [IntKind.wrap, IntKind.signed, IntKind.bits]; omega
      have SK := Lib.hid (fun o => SC.out (bS k) (bS_size k) (wr.alloc o) (HNS.out.below (bl_alloc (Below.refl _ _) o)))
      rw [show sc (outF (bitAt (bS k))) L 28 = sB L k from rfl] at SK
      obtain ⟨sk, hsk⟩ : ∃ sk, sk = sB L k := ⟨_, rfl⟩
      rw [← hsk] at SK
      have HSK := Lib.hid hsk
      have wu' : wrap64 ((k : Int) + 1) = ((k + 1 : Nat) : Int) := by rw [IntWalk.wrap64_in _ (by omega)]; omega
      clear hsk
      rcases HK.out with ⟨hk0, rfl, rfl⟩ | ⟨j, hj, rfl, rfl, hall⟩
      · have K0 := Lib.hid hk0
        clear HK hk0
        go_wp2_with (fail)
        refine (SK.out _).mono ?_
        rintro e w4 ⟨rfl, b4⟩
        have b5 := (bl_alloc (Below.refl wr.heap.size wr) (.cells #[.int .u8 k] 5)).trans (b4.mono (by simp))
        have HB5 := Lib.hid (bl_step HB.out b5)
        have HN5 := Lib.hid (HNS.out.below b5)
        clear b4 b5 SK HB HNS
        go_wp2_with (fail)
        exact ⟨⟨k + 1, _, _, by omega, by go_num, rfl, rfl, by rw [HSK.out, K0.out]; exact Bst.first L, HN5.out, HB5.out⟩, by simp [intOf]; omega⟩
      · have HALL := Lib.hid hall
        have hne := bS_ne j
        obtain ⟨sj, hsj⟩ : ∃ sj, sj = sB L j := ⟨_, rfl⟩
        rw [← hsj]
        have HSJ := Lib.hid hsj
        clear HK hall hsj
        by_cases hl : sj < sk
        · have dl : decide (sj < sk) = true := by simpa using hl
          have HL := Lib.hid hl
          clear hl
          go_wp2_with (fail)
          refine (SK.out _).mono ?_
          rintro e w4 ⟨rfl, b4⟩
          have b5 := (bl_alloc (Below.refl wr.heap.size wr) (.cells #[.int .u8 k] 5)).trans (b4.mono (by simp))
          have HB5 := Lib.hid (bl_step HB.out b5)
          have HN5 := Lib.hid (HNS.out.below b5)
          clear b4 b5 SK HB HNS
          go_wp2_with (fail)
          exact ⟨⟨k + 1, _, _, by omega, by go_num, rfl, rfl, by rw [HSK.out]; exact Bst.take HALL.out hj (by rw [← HSJ.out, ← HSK.out]; exact HL.out), HN5.out, HB5.out⟩, by simp [intOf]; omega⟩
        · have dl : decide (sj < sk) = false := by simpa using hl
          have HL := Lib.hid hl
          clear hl
          go_wp2_with (fail)
          refine (SK.out _).mono ?_
          rintro e w4 ⟨rfl, b4⟩
          have b5 := (bl_alloc (Below.refl wr.heap.size wr) (.cells #[.int .u8 k] 5)).trans (b4.mono (by simp))
          have HB5 := Lib.hid (bl_step HB.out b5)
          have HN5 := Lib.hid (HNS.out.below b5)
          clear b4 b5 SK HB HNS
          go_wp2_with (fail)
          exact ⟨⟨k + 1, _, _, by omega, by go_num, rfl, rfl, by rw [HSJ.out]; exact Bst.keep HALL.out hj (by rw [← HSJ.out, ← HSK.out]; have := HL.out; omega), HN5.out, HB5.out⟩, by simp [intOf]; omega⟩
    · have e : k = 256 := by omega
      subst e
      obtain ⟨rfl, rfl⟩ := best_of HP.out HK.out
      clear HK
      go_wp2_with (fail)
      refine (AW.out _).mono ?_
      rintro e w7 ⟨rfl, b7⟩
      have B7 := Lib.hid (bl_step HB.out b7)
      clear b7
      go_wp2_with (fail)
      go_ret
      exact ⟨rfl, B7.out⟩
end Go.Proofs.Ytbfgpjpfhbbdfaa
