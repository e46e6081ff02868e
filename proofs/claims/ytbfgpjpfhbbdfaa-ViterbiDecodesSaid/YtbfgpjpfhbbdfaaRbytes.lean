/-
  The walk of the specification's bytes. Conditions: messages of at most 1100 bytes.
-/
import Derived.Test.YtbfgpjpfhbbdfaaPaths
namespace Go.Proofs.Ytbfgpjpfhbbdfaa
open Go.RowKit Kit
set_option linter.unusedVariables false
def cB (f : Nat → Nat) (j : Nat) : Nat → Nat
  | 0 => 0
  | r + 1 => 2 * cB f j r + f (8 * j + r)
theorem cB_lt (f : Nat → Nat) (hf : ∀ i, f i < 2) (j : Nat) : ∀ r, cB f j r < 2 ^ r
  | 0 => by simp [cB]
  | r + 1 => by have := cB_lt f hf j r; have := hf (8 * j + r); simp only [cB, Nat.pow_succ]; omega
theorem cB_128 (f : Nat → Nat) (hf : ∀ i, f i < 2) (j r : Nat) (hr : r < 8) : cB f j r < 128 :=
  Nat.lt_of_lt_of_le (cB_lt f hf j r) (Nat.le_trans (Nat.pow_le_pow_right (by omega) (show r ≤ 7 by omega)) (by decide))
theorem cB_eight (f : Nat → Nat) (j : Nat) : cB f j 8 = obv f 0 j := by
  simp only [cB, obv, Nat.zero_le, if_true, Nat.add_zero]; omega
def oL (f : Nat → Nat) (n : Nat) : List Value := (List.range n).map fun j => Value.int .u8 (obv f 0 j)
theorem oL_succ (f : Nat → Nat) (n : Nat) : oL f (n + 1) = oL f n ++ [.int .u8 (obv f 0 n)] := by simp [oL, List.range_succ]
theorem byte_of (D : ByteArray) (i : Nat) (h : i < D.size) : ((D[i]'h).toNat : Int) = ((byteAt D i : Nat) : Int) := by have := byte_get D i h; omega
theorem own_str {wr : World} {base j : Nat} {v : Value} {f : Nat → Nat} (h : wr.ownsRow base 5 1 v j (oL f j)) : (convert 37 9 v).run Try.prog wr = .ok (.string (strF (obv f 0) j)) wr := by
  rcases h.2 with ⟨rfl, h0⟩ | ⟨g, cap, cur, rfl, _, _, _⟩
  · subst h0
    have := run_convert_bytes_nil (P := Try.prog) (w := wr) 37 5 Try.underlying37 Try.underlying5 0 0 9 Try.underlying9
    exact this
  · exact run_convert_bytes_arg wr 37 5 Try.underlying37 Try.underlying5 g 0 j cap ((List.range j).map fun i => ((obv f 0 i : Nat) : Int)) (by simp) (fun i hi => by
      rw [Nat.zero_add, own_cell h (by unfold oL; rw [List.getElem?_map, List.getElem?_range hi]; rfl)]
      simp [List.getD_eq_getElem?_getD, hi]) 9 Try.underlying9
set_option maxRecDepth 100000 in
set_option maxHeartbeats 1600000 in
theorem bytes_ok (k M : Nat) (hk : k ≤ 1100) (w : World) : Calls Try.prog 31 #[.string (bstr (8 * k + 6) M), .int .i64 k] w fun e w' => e = .returned (.string (msg k M)) ∧ Below w.heap.size w w' := by
  obtain ⟨D, hD⟩ : ∃ D, D = bstr (8 * k + 6) M := ⟨_, rfl⟩
  have hDs : D.size = 8 * k + 6 := by rw [hD, bstr_size]
  have HB : Hid (∀ x, x < 8 * k + 6 → byteAt D x = fM k M x) := Lib.hid (fun x hx => by rw [hD, bstr_at _ _ _ hx]; unfold fM; rw [show 8 * k + 6 - 1 - x = 8 * k + 5 - x by omega])
  have HM : Hid (msg k M = strF (obv (fM k M) 0) k) := Lib.hid rfl
  have F2 := Lib.hid (fM_lt k M)
  rw [← hD]
  generalize fM k M = f at HB HM F2
  generalize msg k M = out at HM
  obtain ⟨i0, hi, hz0, hz1, hz2⟩ := info_parts info5
  have HDS := Lib.hid hDs
  clear hD hDs
  go_enter Try.func31, Try.ntmps31
  go_wp2_with (fail)
  go_loopw [5, 6] (fun v i wr => ∃ j : Nat, j ≤ k ∧ i = .int .i64 j ∧ wr.ownsRow w.heap.size 5 1 v j (oL f j) ∧ Below w.heap.size w wr) (fun _ i _ => k - (intOf i).toNat)
  case atStart => exact ⟨0, by omega, rfl, World.ownsRow_nil _ _ _ _, Below.refl _ _⟩
  case round =>
    obtain ⟨j, hj, rfl, hown, hB⟩ := hrel
    have OW := Lib.hid hown; have BL := Lib.hid hB
    have hws := hB.size
    clear hown hB
    by_cases hlt : j < k
    · have dj : decide ((j : Int) < (k : Int)) = true := by simp; omega
      obtain ⟨wo, hwo⟩ : ∃ wo : World, wo = wr := ⟨_, rfl⟩
      subst hwo
      go_wp2_with (fail)
      go_loopw [7, 8] (fun c r wr => ∃ m : Nat, m ≤ 8 ∧ r = .int .i64 m ∧ c = .int .u8 (cB f j m) ∧ wo = wr) (fun _ r _ => 8 - (intOf r).toNat)
      case atStart => exact ⟨0, by omega, rfl, rfl, rfl⟩
      case round =>
        obtain ⟨m, hm, rfl, rfl, rfl⟩ := hrel
        by_cases hm8 : m < 8
        · have dm : decide ((m : Int) < 8) = true := by simp; omega
          have hu : 8 * j + m < D.size := by have := HDS.out; omega
          have b1 := cB_128 f F2.out j m hm8
          have b2 := F2.out (8 * j + m)
          have BG := Lib.hid (byte_of D (8 * j + m) hu)
          have HB1 := HB.out (8 * j + m) (by omega)
          have BV : Hid ((((cB f j m : Nat) : Int) * 2 + ((f (8 * j + m) : Nat) : Int)) % 256 = ((cB f j (m + 1) : Nat) : Int)) := Lib.hid (by simp only [cB]; omega)
          go_wp2_with (fail)
          refine ⟨⟨m + 1, by omega, by go_num, ?_, trivial⟩, by simp [intOf]; omega⟩
          rw [BG.out, HB1, BV.out]
        · have e : m = 8 := by omega
          subst e
          have E := Lib.hid (cB_eight f j)
          go_wp2_with (at_builtin; refine wpList_append_own _ rfl _ _ 37 rfl w.heap.size 5 i0 _ 1 1 Try.underlying37 hi hz0 hz1 hz2 rfl (by decide) _ j _ rfl (OW.out.alloc _) ⟨wo.heap.size, 0, none⟩ 1 1 [_] rfl rfl (cells_new wo [_] 5) (by simp [Value.oneCell']) (by unfold maxLen; omega) (by omega) (by simp; omega) ?_; intro v6 w6 hown6 hg6 _; rw [E.out, ← oL_succ] at hown6; have B6 := Lib.hid ((bl_alloc BL.out (.cells #[Value.int .u8 (cB f j 8)] 5)).grown hg6 (by simp; omega) (fun x e => ((OW.out.alloc (.cells #[Value.int .u8 (cB f j 8)] 5)).lt x e).1)); replace hown6 := Lib.hid hown6; clear hg6)
          exact ⟨⟨j + 1, by omega, by go_num, hown6.out, B6.out⟩, by simp [intOf]; omega⟩
    · have e : j = k := by omega
      subst e
      have dj : decide ((j : Int) < (j : Int)) = false := by simp
      have cv : (convert 37 9 u5).run Try.prog wr = .ok (.string out) wr := by
        rw [HM.out]
        exact own_str OW.out
      go_wp2_with (fail)
      go_ret
      exact ⟨rfl, BL.out⟩
end Go.Proofs.Ytbfgpjpfhbbdfaa
