/-
  The walk of the reference's Unpack. Conditions: slices of at most 1000 elements.
-/
import Derived.Test.YtjeaccpocpfkgaaSame
import Derived.Maps.AppendAt
namespace Go.Proofs.Ytjeaccpocpfkgaa
open Go.RowKit Kit
set_option linter.unusedVariables false
theorem info23 : (Try.prog.info? 23).map (fun i => (i.zero, i.size, i.bytes)) = some (some (.int .u64 0), 1, 8) := by kernel_rfl
/-- The first values of a string's fields. -/
def unK (X : List Int) (d : ByteArray) (k : Nat) : List Int := (List.range k).map fun i => ((numB (lst d) (offs (wid X) i) (wid X i) : Nat) : Int)
theorem unK_succ (X : List Int) (d : ByteArray) (k : Nat) : unK X d (k + 1) = unK X d k ++ [((numB (lst d) (offs (wid X) k) (wid X k) : Nat) : Int)] := by
  simp [unK, List.range_succ]
theorem unK_len (X : List Int) (d : ByteArray) (k : Nat) : (unK X d k).length = k := by simp [unK]
/-- No bit is set from a on. -/
def restZ (d : ByteArray) (a : Nat) : Prop := ∀ i, i < 8 * d.size → a ≤ i → bitOf (lst d) i = 0
instance (d : ByteArray) (a : Nat) : Decidable (restZ d a) := by unfold restZ; infer_instance
def upE (X : List Int) (d : ByteArray) : Int :=
  if 65536 < d.size then 3 else if ¬ okW X then 2 else if d.size ≠ (offs (wid X) X.length + 7) / 8 then 6 else if restZ d (offs (wid X) X.length) then 0 else 6
def u64c (X : List Int) : List Value := X.map (Value.int .u64)
/-- What Unpack returns. -/
def UpPost (X : List Int) (d : ByteArray) (w : World) (e : Ending) (w' : World) : Prop :=
  (upE X d ≠ 0 → e = .returned (.tuple #[.slice none 0 0, .int .i64 (upE X d)])) ∧ (upE X d = 0 → ∃ v, e = .returned (.tuple #[v, .int .i64 0]) ∧ w'.ownsRow w.heap.size 23 1 v X.length (u64c (unK X d X.length))) ∧ Below w.heap.size w w'
theorem up_err {X : List Int} {d : ByteArray} {w w' : World} {E : Int} (h : upE X d = E) (hE : E ≠ 0) (hb : Below w.heap.size w w') : UpPost X d w (.returned (.tuple #[.slice none 0 0, .int .i64 E])) w' :=
  ⟨fun _ => by rw [h], fun h' => (hE (h.symm.trans h')).elim, hb⟩
theorem up_ok {X : List Int} {d : ByteArray} {w w' : World} {v : Value} (h : upE X d = 0) (ho : w'.ownsRow w.heap.size 23 1 v X.length (u64c (unK X d X.length))) (hb : Below w.heap.size w w') : UpPost X d w (.returned (.tuple #[v, .int .i64 0])) w' :=
  ⟨fun h' => (h' h).elim, fun _ => ⟨_, rfl, ho⟩, hb⟩
def UpI (X : List Int) (d : ByteArray) (w : World) (k : Nat) (v : Value) (wr : World) : Prop := Below w.heap.size w wr ∧ wr.ownsRow w.heap.size 23 1 v k (u64c (unK X d k))
theorem upI_grow {X : List Int} {d : ByteArray} {W w1 w6 : World} {k : Nat} {v v' : Value} {o : Obj} {x : Int} (hb : Below W.heap.size W w1) (how : w1.ownsRow W.heap.size 23 1 v k (u64c (unK X d k))) (hgr : (w1.alloc o).grownBy w6 v.ownBlock)
    (how' : w6.ownsRow W.heap.size 23 1 v' (k + 1) (u64c (unK X d k) ++ [.int .u64 x])) (hx : x = ((numB (lst d) (offs (wid X) k) (wid X k) : Nat) : Int)) : UpI X d W (k + 1) v' w6 :=
  ⟨(bl_alloc hb _).grown hgr (by have := hb.size; simp; omega) (fun j e => (how.lt j e).1), by rw [unK_succ, u64c, List.map_append]; rw [hx] at how'; exact how'⟩
set_option maxRecDepth 100000 in
set_option maxHeartbeats 1600000 in
theorem refun_good (X : List Int) (a : Option Addr) (n c : Nat) (d : ByteArray) (w : World) (hX : Nums .i64 w a n c X) (hn : n ≤ 1000) (hl : d.size ≤ 65536) (hok : okW X) (hs : d.size = (offs (wid X) X.length + 7) / 8) :
    Calls Try.prog 26 #[.slice a n c, .string d] w fun e w' => UpPost X d w e w' := by
  obtain ⟨i0, hi, hz0, hz1, hz2⟩ := info_parts info23
  have S0 : Hid (UpI X d w 0 (.slice none 0 0) w) := Lib.hid ⟨Below.refl _ _, World.ownsRow_nil _ _ _ _⟩
  have hml : d.size ≤ maxLen := by unfold maxLen; omega
  have LA := Lib.hid (fun W => long_any d W hml)
  have hdl : decide ((65536 : Int) < (d.size : Int)) = false := by rw [decide_eq_false_iff_not]; omega
  rw [hdl] at LA
  have AA := Lib.hid (fun W h => all_any X a n c W h (by omega))
  have hdo : decide (okW X) = true := by simpa using hok
  rw [hdo] at AA
  have BA := Lib.hid (fun W h => bits_any X a n c W h (by omega) hok)
  have N1 := Lib.hid hX.1; have HX := Lib.hid hX; have HO := Lib.hid hok
  have hle := offs_le X hok X.length (Nat.le_refl _)
  obtain ⟨s, hss⟩ : ∃ s, s = offs (wid X) n := ⟨_, rfl⟩
  have hsl : s ≤ 64 * 1000 := by rw [hss, hX.1]; have := hX.1; omega
  rw [← hX.1, ← hss] at hs
  rw [← hss] at BA
  have HS := Lib.hid hss
  have hne : ((d.size : Int) != ((s : Int) + 7) / 8) = false := by simp; omega
  have hs8 : s ≤ 8 * d.size := by omega
  obtain ⟨R, hR⟩ : ∃ R, Hid (decide (restZ d s) = R) := ⟨_, Lib.hid rfl⟩
  have UE : Hid (upE X d = if R = true then 0 else 6) := Lib.hid (by
    unfold upE
    rw [if_neg (by omega), if_neg (fun h => h hok), ← hX.1, ← hss, if_neg (fun h => h hs), ← hR.out]
    by_cases h : restZ d s
    · rw [if_pos h, if_pos (by simpa using h)]
    · rw [if_neg h, if_neg (by simpa using h)])
  clear hX hok hle hss hdl hdo hml hs
  go_enter Try.func26, Try.ntmps26
  go_wp2_with (fail)
  refine (LA.out _).mono ?_
  rintro e _ ⟨rfl, rfl⟩
  go_wp2_with (fail)
  refine (AA.out _ HX.out).mono ?_
  rintro e _ ⟨rfl, rfl⟩
  go_wp2_with (fail)
  refine (BA.out _ HX.out).mono ?_
  rintro e _ ⟨rfl, rfl⟩
  go_wp2_with (fail)
  go_loopw [7, 8, 9] (fun v p i wr => ∃ k : Nat, k ≤ n ∧ i = .int .i64 k ∧ p = .int .i64 (offs (wid X) k : Nat) ∧ UpI X d w k v wr) (fun _ _ i _ => n - (intOf i).toNat)
  case atStart => exact ⟨0, by omega, rfl, rfl, S0.out⟩
  case round =>
    clear S0
    obtain ⟨k, hk, rfl, rfl, hS⟩ := hrel
    have HS1 := Lib.hid hS; clear hS
    by_cases hlt : k < n
    · obtain ⟨b, off, rfl, hbl0, hcell0⟩ := HX.out.at hlt
      have hcell := (HS1.out.1.cell (p := ⟨b, off + k, none⟩) hbl0).trans hcell0
      have hbl := Nat.lt_of_lt_of_le hbl0 HS1.out.1.size
      have hst : offs (wid X) (k + 1) = offs (wid X) k + wid X k := rfl
      have hsm := offs_mono (wid X) (k + 1) n hlt
      rw [← HS.out, hst] at hsm
      obtain ⟨h1, h2⟩ := HO.out k (by rw [← N1.out]; exact hlt)
      have hw : (wid X k : Int) = X.getD k 0 := by unfold wid; omega
      obtain ⟨p, hp⟩ : ∃ p, p = offs (wid X) k := ⟨_, rfl⟩
      obtain ⟨x, hx⟩ : ∃ x, x = wid X k := ⟨_, rfl⟩
      rw [← hp] at hst hsm ⊢
      rw [← hw, ← hx] at hcell hcell0 h1 h2
      rw [← hx] at hst hsm
      have HST := Lib.hid hst; have HP := Lib.hid hp; have Hx := Lib.hid hx
      have hb2s := HS1.out.1.size
      have HC0 := Lib.hid hcell0; have HBL := Lib.hid hbl0
      clear hp hst hx hw hcell0 hbl0
      go_wp2_with (fail)
      refine (number_any d p x _ (by omega) (by omega) (by omega)).mono ?_
      rintro e _ ⟨rfl, rfl⟩
      go_wp2_with (at_builtin; refine wpList_append_own _ rfl _ _ 42 rfl w.heap.size 23 i0 _ 1 8 Try.underlying42 hi hz0 hz1 hz2 rfl (by decide) _ _ _ rfl (HS1.out.2.alloc _) ⟨wr.heap.size, 0, none⟩ 1 1 [_] rfl rfl (cells_new wr [_] 23) (by simp [Value.oneCell']) (by unfold maxLen; omega) (by omega) (by simp; omega) ?_; intro v' w6 hown' hgrow _; have hU := upI_grow HS1.out.1 HS1.out.2 hgrow hown' (by rw [← HP.out, ← Hx.out]); clear hown' hgrow; have hcell6 := (hU.1.cell (p := ⟨b, off + k, none⟩) HBL.out).trans HC0.out; have hbl6 := Nat.lt_of_lt_of_le HBL.out hU.1.size; replace hU := Lib.hid hU)
      go_roundw
      case rel => exact ⟨k + 1, by omega, by simp, by rw [HST.out]; simp, hU.out⟩
      case measure => simp [intOf]; omega
    · obtain rfl : k = n := by omega
      rw [← HS.out]
      go_wp2_with (fail)
      go_loopw [8] (fun p w2 => ∃ t : Nat, t ≤ 8 * d.size ∧ s ≤ t ∧ p = .int .i64 t ∧ (∀ i, s ≤ i → i < t → bitOf (lst d) i = 0) ∧ w2 = wr) (fun p _ => 8 * d.size - (intOf p).toNat)
      case atStart => exact ⟨s, hs8, Nat.le_refl _, rfl, by omega, rfl⟩
      case round =>
        obtain ⟨t, ht, hst, rfl, hz, rfl⟩ := hrel
        have HZ := Lib.hid hz
        clear hz
        by_cases hlt2 : t < 8 * d.size
        · have hlt' : (t : Int) < 8 * (d.size : Int) := by omega
          have BI := Lib.hid (fun W => bit_any d t W hl hlt2)
          have hb2 := bitOf_lt (lst d) t
          obtain ⟨y, hy⟩ : ∃ y, y = bitOf (lst d) t := ⟨_, rfl⟩
          rw [← hy] at BI hb2
          have HY := Lib.hid hy
          clear hy
          by_cases h1 : y = 1
          · have hR0 : R = false := by rw [← hR.out, decide_eq_false_iff_not]; exact fun h => by have := h t hlt2 hst; rw [← HY.out] at this; omega
            have hu : upE X d = 6 := by rw [UE.out, hR0]; rfl
            have HU := Lib.hid hu
            have hy1 : ((y : Int) == 1) = true := by simp; omega
            clear hu hR0 h1
            go_wp2_with (fail)
            refine (BI.out _).mono ?_
            rintro e _ ⟨rfl, rfl⟩
            go_wp2_with (fail)
            go_ret2
            exact up_err HU.out (by decide) HS1.out.1
          · have hy1 : ((y : Int) == 1) = false := by simp; omega
            have HY0 : Hid (y = 0) := Lib.hid (by omega)
            clear h1
            go_wp2_with (fail)
            refine (BI.out _).mono ?_
            rintro e _ ⟨rfl, rfl⟩
            go_wp2_with (fail)
            go_roundw
            case rel => exact ⟨t + 1, by omega, by omega, by simp, fun i h1 h2 => by
              rcases Nat.lt_succ_iff_lt_or_eq.1 h2 with h | rfl
              · exact HZ.out i h1 h
              · rw [← HY.out]; exact HY0.out, by first | rfl | trivial⟩
            case measure => simp [intOf]; omega
        · have hR0 : R = true := by rw [← hR.out, decide_eq_true_eq]; exact fun i h1 h2 => HZ.out i h2 (by omega)
          have hu : upE X d = 0 := by rw [UE.out, hR0]; rfl
          have HU := Lib.hid hu
          have hge : ¬ (t : Int) < 8 * (d.size : Int) := by omega
          clear hu hR0
          go_wp2_with (fail)
          go_ret2
          exact up_ok HU.out (by rw [← N1.out]; exact HS1.out.2) HS1.out.1
set_option maxRecDepth 100000 in
theorem refun_any (X : List Int) (a : Option Addr) (n c : Nat) (d : ByteArray) (w : World) (hX : Nums .i64 w a n c X) (hn : n ≤ 1000) (hml : d.size ≤ maxLen) :
    Calls Try.prog 26 #[.slice a n c, .string d] w fun e w' => UpPost X d w e w' := by
  have LA := Lib.hid (fun W => long_any d W hml)
  have HX := Lib.hid hX
  by_cases hl : 65536 < d.size
  · have hdl : decide ((65536 : Int) < (d.size : Int)) = true := by rw [decide_eq_true_eq]; omega
    rw [hdl] at LA
    have HU : Hid (upE X d = 3) := Lib.hid (by unfold upE; rw [if_pos hl])
    clear hdl hX
    go_enter Try.func26, Try.ntmps26
    go_wp2_with (fail)
    refine (LA.out _).mono ?_
    rintro e _ ⟨rfl, rfl⟩
    go_wp2_with (fail)
    go_ret2
    exact up_err HU.out (by decide) (Below.refl _ _)
  · have hdl : decide ((65536 : Int) < (d.size : Int)) = false := by rw [decide_eq_false_iff_not]; omega
    rw [hdl] at LA
    have AA := Lib.hid (fun W h => all_any X a n c W h (by omega))
    by_cases hok : okW X
    · by_cases hs : d.size = (offs (wid X) X.length + 7) / 8
      · exact refun_good X a n c d w hX hn (by omega) hok hs
      · have hdo : decide (okW X) = true := by simpa using hok
        rw [hdo] at AA
        have BA := Lib.hid (fun W h => bits_any X a n c W h (by omega) hok)
        have HU : Hid (upE X d = 6) := Lib.hid (by unfold upE; rw [if_neg hl, if_neg (fun h => h hok), if_pos hs])
        have hle := offs_le X hok X.length (Nat.le_refl _)
        have hx1 := hX.1
        obtain ⟨s, hss⟩ : ∃ s, s = offs (wid X) n := ⟨_, rfl⟩
        rw [← hX.1, ← hss] at hs hle
        rw [← hss] at BA
        have hne : ((d.size : Int) != ((s : Int) + 7) / 8) = true := by simp; omega
        clear hX hok hss hdl hdo hs hx1
        go_enter Try.func26, Try.ntmps26
        go_wp2_with (fail)
        refine (LA.out _).mono ?_
        rintro e _ ⟨rfl, rfl⟩
        go_wp2_with (fail)
        refine (AA.out _ HX.out).mono ?_
        rintro e _ ⟨rfl, rfl⟩
        go_wp2_with (fail)
        refine (BA.out _ HX.out).mono ?_
        rintro e _ ⟨rfl, rfl⟩
        go_wp2_with (fail)
        go_ret2
        exact up_err HU.out (by decide) (Below.refl _ _)
    · have hdo : decide (okW X) = false := by simpa using hok
      rw [hdo] at AA
      have HU : Hid (upE X d = 2) := Lib.hid (by unfold upE; rw [if_neg hl, if_pos hok])
      clear hX hok hdl hdo
      go_enter Try.func26, Try.ntmps26
      go_wp2_with (fail)
      refine (LA.out _).mono ?_
      rintro e _ ⟨rfl, rfl⟩
      go_wp2_with (fail)
      refine (AA.out _ HX.out).mono ?_
      rintro e _ ⟨rfl, rfl⟩
      go_wp2_with (fail)
      go_ret2
      exact up_err HU.out (by decide) (Below.refl _ _)
end Go.Proofs.Ytjeaccpocpfkgaa
