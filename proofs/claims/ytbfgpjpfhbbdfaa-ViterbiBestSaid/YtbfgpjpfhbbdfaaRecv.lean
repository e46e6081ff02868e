/-
  The walk of received: soft values in the right number, whatever the noise. Conditions: messages of at most 1100 bytes.
-/
import Derived.Test.YtbfgpjpfhbbdfaaScoreAll
import Derived.Test.YtbfgpjpfhbbdfaaPlain
import Derived.BigQuiet
namespace Go.Proofs.Ytbfgpjpfhbbdfaa
open Go.RowKit Kit
set_option linter.unusedVariables false
/-- A slice of small numbers. -/
def N8 (w : World) (a : Option Addr) (n c : Nat) : Prop := n ≤ c ∧ c ≤ maxLen ∧ ∀ i, i < n → ∃ b off, ∃ y : Int, a = some ⟨b, off, none⟩ ∧ b < w.heap.size ∧ w.cell? ⟨b, off + i, none⟩ = some (.int .i8 y) ∧ -128 ≤ y ∧ y ≤ 127
theorem N8.below {w w' : World} {a : Option Addr} {n c : Nat} (h : N8 w a n c) (hb : Below w.heap.size w w') : N8 w' a n c := by
  refine ⟨h.1, h.2.1, fun i hi => ?_⟩
  obtain ⟨b, off, y, rfl, hl, hc, h1, h2⟩ := h.2.2 i hi
  exact ⟨b, off, y, rfl, Nat.lt_of_lt_of_le hl hb.size, (hb.cell (p := ⟨b, off + i, none⟩) hl).trans hc, h1, h2⟩
theorem slIn_n8 {w : World} {v : Value} (h : SlIn [.inl .i8] w v) : ∃ a n c, v = .slice a n c ∧ N8 w a n c := by
  rcases h with rfl | ⟨a, rfl⟩ | ⟨b, off, len, cap, C, rfl, h1, h2, h3, h4, h5, h6⟩
  · exact ⟨none, 0, 0, rfl, by omega, by simp [maxLen], fun i hi => by omega⟩
  · exact ⟨a, 0, 0, rfl, by omega, by simp [maxLen], fun i hi => by omega⟩
  · refine ⟨_, _, _, rfl, h2, h3, fun i hi => ?_⟩
    obtain ⟨y, cs, e, hw, hs⟩ := scAll_int (h5 i (by omega))
    have := h6 i 0 (by omega) (by simp)
    rw [e] at this
    refine ⟨b, off, y, rfl, h4, by simpa using this, ?_⟩
    simpa [Lit.wf, IntKind.min, IntKind.max, IntKind.signed, IntKind.bits] using hw
theorem symL_F (d : ByteArray) (n : Nat) : symL (strF (outF (bitAt d)) n) = true := by
  refine symL_yes fun i hi => ?_
  have := outF_lt (bitAt d) i
  rw [strF_at _ _ _ (by omega)]
  split <;> omega
theorem softL_sf (d : ByteArray) (h : symL d = true) : softL (sf d d.size) = true := by
  refine softL_yes fun i hi => ?_
  rw [sf_len] at hi
  have e : pv (sf d d.size) i = sfI d i := by unfold pv sf; simp [List.getD_eq_getElem?_getD, hi]
  have h1 : byteAt d i ≤ 1 := by
    rcases Nat.lt_or_ge 1 (byteAt d i) with h' | h'
    · rw [symL_no hi h'] at h; cases h
    · exact h'
  rw [e]
  unfold sfI sOk
  simp; omega
theorem softL_set {X : List Int} (h : softL X = true) (i : Nat) (v : Int) (h1 : -8 ≤ v) (h2 : v ≤ 7) : softL (X.set i v) = true := by
  unfold softL at *
  rw [List.all_eq_true] at *
  intro x hx
  rcases List.mem_or_eq_of_mem_set hx with h' | rfl
  · exact h x h'
  · unfold sOk; simp; omega
/-- The call's own row of soft values. -/
def Soft (w : World) (v : Value) (n : Nat) (L : List Int) (w' : World) : Prop := L.length = n ∧ softL L = true ∧ w'.ownsRow w.heap.size 3 1 v n (L.map (Value.int .i64)) ∧ Below w.heap.size w w'
theorem Soft.drew {w wr : World} {v : Value} {n : Nat} {L : List Int} (h : Soft w v n L wr) : Soft w v n L wr.drew := ⟨h.1, h.2.1, own_drewN h.2.2.1 1, below_drewN h.2.2.2 1⟩
def RecvQ (w : World) (n : Nat) (e : Ending) (w' : World) : Prop := ∃ v L, e = .returned v ∧ Soft w v n L w'
set_option maxRecDepth 100000 in
set_option maxHeartbeats 1600000 in
theorem received_any (d : ByteArray) (hd : d.size ≤ 1100) (a : Option Addr) (m c : Nat) (w : World) (hN : N8 w a m c) (n : Nat) (hn : n = 16 * d.size + 12) :
    Calls Try.prog 19 #[.string d, .slice a m c] w fun e w' => RecvQ w n e w' := by
  have EN := Lib.hid (refencode_idx d d.size rfl hd)
  rw [← hn] at EN
  obtain ⟨S, hS⟩ : ∃ S, S = strF (outF (bitAt d)) n := ⟨_, rfl⟩
  have hSs : S.size = n := by rw [hS, strF_size]
  have hSy : symL S = true := by rw [hS]; exact symL_F d n
  rw [← hS] at EN
  have RS := Lib.hid (rsoften_ok S (by omega) hSy)
  have LS := softL_sf S hSy
  have LL := sf_len S S.size
  rw [hSs] at RS LS LL
  have HS := Lib.hid hSs
  have hn2 : n ≤ 20000 := by omega
  have hn0 : 0 < n := by omega
  have HN := Lib.hid hN
  have LSh := Lib.hid LS
  have LLh := Lib.hid LL
  clear hS hSs hSy LS LL hn hd hN
  go_enter Try.func19, Try.ntmps19
  go_wp2_with (fail)
  refine (EN.out w).mono ?_
  rintro e w1 ⟨rfl, b1⟩
  have B1 := Lib.hid b1
  clear b1 EN
  go_wp2_with (fail)
  refine (RS.out w1).mono ?_
  rintro e w2 ⟨v, rfl, hown, b2⟩
  have hown2 := own_rebase hown B1.out.size
  have B2 := Lib.hid (bl_step B1.out b2)
  have H0 : Hid (Soft w v n (sf S n) w2) := Lib.hid ⟨LLh.out, LSh.out, hown2, B2.out⟩
  have hv : ∃ g cap, v = .slice (some ⟨g, 0, none⟩) n cap ∧ n ≤ cap ∧ cap ≤ maxLen := by
    rcases hown2.2 with ⟨_, h0⟩ | ⟨g, cap, cur, rfl, _, _, h1, h2, _⟩
    · omega
    · exact ⟨g, cap, rfl, h1, h2⟩
  obtain ⟨g, cap, rfl, hc1, hc2⟩ := hv
  unfold maxLen at hc2
  clear hown hown2 b2 B1 RS
  go_wp2_with (fail)
  go_loopw [9] (fun i wr => ∃ k : Nat, ∃ L, k ≤ n ∧ i = .int .i64 k ∧ Soft w (.slice (some ⟨g, 0, none⟩) n cap) n L wr ∧ (k = 0 ∨ True)) (fun i _ => n - (intOf i).toNat)
  case atStart => exact ⟨0, _, by omega, rfl, H0.out, by simp⟩
  case round =>
    clear H0
    obtain ⟨k, L, hk, rfl, hS, _⟩ := hrel
    have HS' := Lib.hid hS
    clear hS
    have hm63 : m ≤ 9223372036854775807 := by have := HN.out.1; have := HN.out.2.1; unfold maxLen at this; omega
    by_cases hlt : k < n
    · have dk : decide ((k : Int) < (n : Int)) = true := by simp; omega
      by_cases hm0 : 0 < m
      · have dm : decide ((0 : Int) < (m : Int)) = true := by simp; omega
        have hmne : ¬ m = 0 := by omega
        have dm' : decide (0 < m) = true := by simp; omega
        obtain ⟨x, hx⟩ : ∃ x, x = k % m := ⟨_, rfl⟩
        have hxm : x < m := by rw [hx]; exact Nat.mod_lt _ hm0
        have hxe : (k : Int) % (m : Int) = (x : Int) := by rw [hx]; omega
        have hxt : (k : Int).tmod (m : Int) = (x : Int) := by rw [hx]; rfl
        obtain ⟨b, off, y, rfl, hbl, cy, hy1, hy2⟩ := HN.out.2.2 x hxm
        have cy' := (HS'.out.2.2.2.cell (p := ⟨b, off + x, none⟩) hbl).trans cy
        have hLk : L[k]? = some (pv L k) := pv_get (by rw [HS'.out.1]; exact hlt)
        have ck : wr.cell? ⟨g, k, none⟩ = some (.int .i64 (pv L k)) := own_cell HS'.out.2.2.1 (by rw [List.getElem?_map, hLk]; rfl)
        have fk : wr.frozen? ⟨g, k, none⟩ = false := own_free HS'.out.2.2.1 k
        have hp := soft_at HS'.out.2.1 (i := k) (by rw [HS'.out.1]; exact hlt)
        obtain ⟨z, hz⟩ : ∃ z, z = mn 7 (mx (-8) (pv L k + y)) := ⟨_, rfl⟩
        have hz1 : -8 ≤ z ∧ z ≤ 7 := by rw [hz]; unfold mn mx; omega
        have HZ := Lib.hid hz
        have NX : Hid (Soft w (.slice (some ⟨g, 0, none⟩) n cap) n (L.set k z) (wr.setCell ⟨g, k, none⟩ (.int .i64 z))) := Lib.hid ⟨by simp [HS'.out.1], softL_set HS'.out.2.1 k z hz1.1 hz1.2, by rw [List.map_set]; exact own_set HS'.out.2.2.1 (by omega) _, bl_set HS'.out.2.2.2 (own_lt HS'.out.2.2.1).1 _⟩
        generalize pv L k = q at *
        have W1 := IntWalk.i64_in (q + y) (by omega)
        have W2 := IntWalk.wrap64_in (q + y) (by omega)
        have W3 := IntWalk.wrap64_in y (by omega)
        have W4 := IntWalk.i64_in y (by omega)
        have gmx := fun w => run_max_mx Try.prog w #[3, 3] 3 .i64 .i64 (-8) (q + y)
        have gmn := fun w => run_min_mn Try.prog w #[3, 3] 3 .i64 .i64 7 (mx (-8) (q + y))
        clear hx hz hLk cy hz1 hy1 hy2 hp
        go_wp2_with (fail)
        refine region_still_tail 18 (by kernel_rfl) (by kernel_rfl) ?_
        simp only [List.take_succ_cons, List.take_zero, List.drop_succ_cons, List.drop_zero]
        (repeat still_step)
        refine wpStill_nil ?_
        go_wp2_with (fail)
        have NX' := NX.out.drew
        rw [HZ.out] at NX'
        exact ⟨⟨k + 1, _, by omega, by go_num, NX', by simp⟩, by simp [intOf]; omega⟩
      · have hm0 : m = 0 := by omega
        subst hm0
        go_wp2_with (fail)
        go_ret
        exact ⟨_, L, rfl, HS'.out⟩
    · have e : k = n := by omega
      subst e
      go_wp2_with (fail)
      go_ret
      exact ⟨_, L, rfl, HS'.out⟩
end Go.Proofs.Ytbfgpjpfhbbdfaa
