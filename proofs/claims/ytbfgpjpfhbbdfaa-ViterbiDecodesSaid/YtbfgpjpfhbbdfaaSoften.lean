/-
  The walks of Soften: what is no symbol list, and the program's. Conditions: strings of at most 100000 bytes.
-/
import Derived.Test.YtbfgpjpfhbbdfaaSften
import Derived.Laws.MakeOwn
namespace Go.Proofs.Ytbfgpjpfhbbdfaa
open Go.RowKit Kit
set_option linter.unusedVariables false
set_option maxHeartbeats 800000 in
theorem rsoften_err (d : ByteArray) (hd : d.size ≤ 100000) (hs : symL d = false) (w : World) : Calls Try.prog 17 #[.string d] w fun e w' => e = .returned (.tuple #[.slice none 0 0, .int .i64 6]) ∧ Below w.heap.size w w' := by
  have LA := Lib.hid (list_any d (by unfold maxLen; omega))
  rw [hs] at LA
  clear hs
  go_enter Try.func17, Try.ntmps17
  go_wp2_with (fail)
  refine (LA.out _).mono ?_
  rintro e _ ⟨rfl, rfl⟩
  go_wp2_with (fail)
  go_ret2
  exact ⟨rfl, Below.refl _ _⟩
def SofQ (d : ByteArray) (w : World) (e : Ending) (w' : World) : Prop := ((symL d = true ∧ ∃ v, e = .returned (.tuple #[v, .int .i64 0]) ∧ w'.ownsRow w.heap.size 3 1 v d.size ((sf d d.size).map (Value.int .i64))) ∨ (symL d = false ∧ e = .returned (.tuple #[.slice none 0 0, .int .i64 6]))) ∧ Below w.heap.size w w'
set_option maxRecDepth 100000 in
set_option maxHeartbeats 800000 in
theorem soften_any (d : ByteArray) (hd : d.size ≤ 100000) (w : World) : Calls Try.prog 16 #[.string d] w fun e w' => SofQ d w e w' := by
  obtain ⟨i0, hi, hz0, hz1, hz2⟩ := info_parts inf3
  have SY := Lib.hid (symL_yes (d := d))
  have SN := Lib.hid (fun k => symL_no (d := d) (k := k))
  have P1 : Hid (∀ v w', symL d = true → w'.ownsRow w.heap.size 3 1 v d.size ((sf d d.size).map (Value.int .i64)) → Below w.heap.size w w' → SofQ d w (.returned (.tuple #[v, .int .i64 0])) w') := Lib.hid (fun v w' h1 h2 h3 => ⟨.inl ⟨h1, v, rfl, h2⟩, h3⟩)
  have P2 : Hid (∀ w', symL d = false → Below w.heap.size w w' → SofQ d w (.returned (.tuple #[.slice none 0 0, .int .i64 6])) w') := Lib.hid (fun w' h1 h3 => ⟨.inr ⟨h1, rfl⟩, h3⟩)
  go_enter Try.func16, Try.ntmps16
  go_wp2_with (at_make; refine wpList_make_own _ rfl _ _ 22 rfl w.heap.size 3 i0 (.int .i64 0) 1 Try.underlying22 hi hz0 hz1 _ _ _ d.size rfl rfl rfl (by rw [hz2]; omega) (by unfold maxLen; omega) (Nat.le_refl _) ?_; intro w3 hown hgrow; have b3 := Lib.hid ((Below.refl w.heap.size w).grown hgrow (Nat.le_refl _) (fun x e => by simp at e)); replace hown := Lib.hid hown; clear hgrow)
  go_loopw [4, 5, 11] (fun v _ i wr => ∃ k : Nat, k ≤ d.size ∧ i = .int .i64 k ∧ (∀ i, i < k → byteAt d i ≤ 1) ∧ wr.ownsRow w.heap.size 3 1 v k ((sf d k).map (Value.int .i64)) ∧ Below w.heap.size w wr) (fun _ _ i _ => d.size - (intOf i).toNat)
  case atStart => exact ⟨0, by omega, rfl, fun i hi => by omega, hown.out, b3.out⟩
  case round =>
    clear hown b3
    obtain ⟨k, hk, rfl, hall, hown, hB⟩ := hrel
    have OW := Lib.hid hown; have HB := Lib.hid hB; have HA := Lib.hid hall
    have hws := hB.size
    clear hown hB hall
    by_cases hlt : k < d.size
    · have BG := Lib.hid (byte_get d k hlt)
      have BG' : (d[k]'hlt).toNat = byteAt d k := by have := BG.out; omega
      by_cases h0 : byteAt d k = 0
      · have g1 : (((d[k]'hlt).toNat : Int) == 0) = true := by rw [BG.out, h0]; rfl
        have g2 : ((d[k]'hlt).toNat == 0) = true := by rw [BG', h0]; rfl
        have ES : Hid ((sf d k).map (Value.int .i64) ++ [Value.int .i64 (-7)] = (sf d (k + 1)).map (Value.int .i64)) := Lib.hid (by rw [sf_succ, List.map_append]; simp [sfI, h0])
        have H0 := Lib.hid h0
        clear h0 BG'
        go_wp2_with (at_builtin; refine wpList_append_own _ rfl _ _ 22 rfl w.heap.size 3 i0 _ 1 8 Try.underlying22 hi hz0 hz1 hz2 rfl (by decide) _ k _ rfl (OW.out.alloc _) ⟨wr.heap.size, 0, none⟩ 1 1 [_] rfl rfl (cells_new wr [_] 3) (by simp [Value.oneCell']) (by unfold maxLen; omega) (by omega) (by simp; omega) ?_; intro v6 w6 hown6 hg6 _; rw [ES.out] at hown6; have B6 := Lib.hid ((bl_alloc HB.out (.cells #[Value.int .i64 (-7)] 3)).grown hg6 (by simp; omega) (fun x e => ((OW.out.alloc (.cells #[Value.int .i64 (-7)] 3)).lt x e).1)); replace hown6 := Lib.hid hown6; clear hg6)
        go_roundw
        case rel => exact ⟨k + 1, by omega, by simp, fun i hi => by
          rcases Nat.lt_succ_iff_lt_or_eq.1 hi with h | rfl
          · exact HA.out i h
          · rw [H0.out]; omega, hown6.out, B6.out⟩
        case measure => simp [intOf]; omega
      · have g1 : (((d[k]'hlt).toNat : Int) == 0) = false := by rw [BG.out]; simp; omega
        have g2 : ((d[k]'hlt).toNat == 0) = false := by rw [BG']; simpa using h0
        by_cases h1 : byteAt d k = 1
        · have q1 : (((d[k]'hlt).toNat : Int) == 1) = true := by rw [BG.out, h1]; rfl
          have q2 : ((d[k]'hlt).toNat == 1) = true := by rw [BG', h1]; rfl
          have ES : Hid ((sf d k).map (Value.int .i64) ++ [Value.int .i64 7] = (sf d (k + 1)).map (Value.int .i64)) := Lib.hid (by rw [sf_succ, List.map_append]; simp [sfI, h1])
          have H1 := Lib.hid h1
          clear h0 h1 BG'
          go_wp2_with (at_builtin; refine wpList_append_own _ rfl _ _ 22 rfl w.heap.size 3 i0 _ 1 8 Try.underlying22 hi hz0 hz1 hz2 rfl (by decide) _ k _ rfl (OW.out.alloc _) ⟨wr.heap.size, 0, none⟩ 1 1 [_] rfl rfl (cells_new wr [_] 3) (by simp [Value.oneCell']) (by unfold maxLen; omega) (by omega) (by simp; omega) ?_; intro v6 w6 hown6 hg6 _; rw [ES.out] at hown6; have B6 := Lib.hid ((bl_alloc HB.out (.cells #[Value.int .i64 7] 3)).grown hg6 (by simp; omega) (fun x e => ((OW.out.alloc (.cells #[Value.int .i64 7] 3)).lt x e).1)); replace hown6 := Lib.hid hown6; clear hg6)
          go_roundw
          case rel => exact ⟨k + 1, by omega, by simp, fun i hi => by
            rcases Nat.lt_succ_iff_lt_or_eq.1 hi with h | rfl
            · exact HA.out i h
            · rw [H1.out]; omega, hown6.out, B6.out⟩
          case measure => simp [intOf]; omega
        · have q1 : (((d[k]'hlt).toNat : Int) == 1) = false := by rw [BG.out]; simp; omega
          have q2 : ((d[k]'hlt).toNat == 1) = false := by rw [BG']; simpa using h1
          have e := Lib.hid (SN.out k hlt (by omega))
          clear h0 h1 BG'
          go_wp2_with (fail)
          go_ret2
          exact P2.out _ e.out HB.out
    · have e : k = d.size := by omega
      subst e
      have e := Lib.hid (SY.out HA.out)
      go_wp2_with (fail)
      go_ret2
      exact P1.out _ _ e.out OW.out HB.out
end Go.Proofs.Ytbfgpjpfhbbdfaa
