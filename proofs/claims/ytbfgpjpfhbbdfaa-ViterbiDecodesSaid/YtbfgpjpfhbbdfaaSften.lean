/-
  The walk of the specification's Soften. Conditions: strings of at most 100000 bytes.
-/
import Derived.Test.YtbfgpjpfhbbdfaaList
import Derived.Test.YtbfgpjpfhbbdfaaRefEnc
namespace Go.Proofs.Ytbfgpjpfhbbdfaa
open Go.RowKit Kit
set_option linter.unusedVariables false
def sfI (d : ByteArray) (i : Nat) : Int := 14 * (byteAt d i : Int) - 7
def sf (d : ByteArray) (k : Nat) : List Int := (List.range k).map (sfI d)
theorem sf_succ (d : ByteArray) (k : Nat) : sf d (k + 1) = sf d k ++ [sfI d k] := by simp [sf, List.range_succ]
theorem sf_len (d : ByteArray) (k : Nat) : (sf d k).length = k := by simp [sf]
set_option maxRecDepth 100000 in
set_option maxHeartbeats 800000 in
theorem rsoften_ok (d : ByteArray) (hd : d.size ≤ 100000) (hs : symL d = true) (w : World) : Calls Try.prog 17 #[.string d] w fun e w' => ∃ v, e = .returned (.tuple #[v, .int .i64 0]) ∧ w'.ownsRow w.heap.size 3 1 v d.size ((sf d d.size).map (Value.int .i64)) ∧ Below w.heap.size w w' := by
  have LA := Lib.hid (list_any d (by unfold maxLen; omega))
  rw [hs] at LA
  obtain ⟨i0, hi, hz0, hz1, hz2⟩ := info_parts inf3
  clear hs
  go_enter Try.func17, Try.ntmps17
  go_wp2_with (fail)
  refine (LA.out _).mono ?_
  rintro e _ ⟨rfl, rfl⟩
  go_wp2_with (fail)
  go_loopw [4, 5] (fun v i wr => ∃ k : Nat, k ≤ d.size ∧ i = .int .i64 k ∧ wr.ownsRow w.heap.size 3 1 v k ((sf d k).map (Value.int .i64)) ∧ Below w.heap.size w wr) (fun _ i _ => d.size - (intOf i).toNat)
  case atStart => exact ⟨0, by omega, rfl, World.ownsRow_nil _ _ _ _, Below.refl _ _⟩
  case round =>
    obtain ⟨k, hk, rfl, hown, hB⟩ := hrel
    have OW := Lib.hid hown; have HB := Lib.hid hB
    have hws := hB.size
    clear hown hB
    by_cases hlt : k < d.size
    · have BG := Lib.hid (byte_get d k hlt)
      have hb := byteAt_lt d k
      have W1 := IntWalk.i64_in (14 * ((d[k]'hlt).toNat : Int)) (by rw [BG.out]; omega)
      have W2 := IntWalk.i64_in (14 * ((d[k]'hlt).toNat : Int) - 7) (by rw [BG.out]; omega)
      have W3 := IntWalk.i64_in ((d[k]'hlt).toNat : Int) (by rw [BG.out]; omega)
      have ES : Hid ((sf d k).map (Value.int .i64) ++ [Value.int .i64 (14 * ((d[k]'hlt).toNat : Int) - 7)] = (sf d (k + 1)).map (Value.int .i64)) := Lib.hid (by rw [sf_succ, List.map_append, BG.out]; rfl)
      clear hb
      go_wp2_with (at_builtin; refine wpList_append_own _ rfl _ _ 22 rfl w.heap.size 3 i0 _ 1 8 Try.underlying22 hi hz0 hz1 hz2 rfl (by decide) _ k _ rfl (OW.out.alloc _) ⟨wr.heap.size, 0, none⟩ 1 1 [_] rfl rfl (cells_new wr [_] 3) (by simp [Value.oneCell']) (by unfold maxLen; omega) (by omega) (by simp; omega) ?_; intro v6 w6 hown6 hg6 _; rw [ES.out] at hown6; have B6 := Lib.hid ((bl_alloc HB.out (.cells #[Value.int .i64 (14 * ((d[k]'hlt).toNat : Int) - 7)] 3)).grown hg6 (by simp; omega) (fun x e => ((OW.out.alloc (.cells #[Value.int .i64 (14 * ((d[k]'hlt).toNat : Int) - 7)] 3)).lt x e).1)); replace hown6 := Lib.hid hown6; clear hg6)
      go_roundw
      case rel => exact ⟨k + 1, by omega, by simp, hown6.out, B6.out⟩
      case measure => simp [intOf]; omega
    · have e : k = d.size := by omega
      subst e
      go_wp2_with (fail)
      go_ret2
      exact ⟨_, rfl, OW.out, HB.out⟩
end Go.Proofs.Ytbfgpjpfhbbdfaa
