/-
  The walks of the specification's Bits and Encode. Conditions: messages of at most 1100 bytes, or over-long.
-/
import Derived.Test.YtbfgpjpfhbbdfaaEnc
namespace Go.Proofs.Ytbfgpjpfhbbdfaa
open Go.RowKit Kit
set_option linter.unusedVariables false
def rbits (d : ByteArray) (n : Nat) : List Value := (List.range n).map fun j => Value.int .i64 (bitAt d j)
theorem rbits_length (d : ByteArray) (n : Nat) : (rbits d n).length = n := by simp [rbits]
theorem rbits_succ (d : ByteArray) (n : Nat) : rbits d (n + 1) = rbits d n ++ [.int .i64 (bitAt d n)] := by simp [rbits, List.range_succ]
theorem info3 : (Try.prog.info? 3).map (fun i => (i.zero, i.size, i.bytes)) = some (some (.int .i64 0), 1, 8) := by kernel_rfl
def BitsAt (d : ByteArray) (w : World) (n : Nat) (v : Value) (wr : World) : Prop := wr.ownsRow w.heap.size 3 1 v n (rbits d n) ∧ Below w.heap.size w wr
theorem bit_byte (d : ByteArray) (i m : Nat) (hb : i < d.size) (hm : m < 8) : ((bitAt d (8 * i + m) : Nat) : Int) = ((d[i]'hb).toNat : Int) / 2 ^ (7 - m) % 2 := by
  unfold bitAt
  have e1 : (8 * i + m) / 8 = i := by omega
  have e2 : (8 * i + m) % 8 = m := by omega
  rw [if_pos (by omega), e1, e2]
  have : d.data.toList.getD i 0 = d[i]'hb := by
    rw [List.getD_eq_getElem?_getD, List.getElem?_eq_getElem (by simpa using hb)]; rfl
  rw [this]
  simp
theorem bit_ref (d : ByteArray) (i m j : Nat) (hb : i < d.size) (hm : m + j = 7) : (wrap64 ((d[i]'hb).toNat : Int) / 2 ^ j).tmod 2 = ((bitAt d (8 * i + m) : Nat) : Int) := by
  have e3 : wrap64 ((d[i]'hb).toNat : Int) = ((d[i]'hb).toNat : Int) := IntWalk.wrap64_in _ ⟨by omega, by have : (d[i]'hb).toNat < 256 := UInt8.toNat_lt _; omega⟩
  rw [bit_byte d i m hb (by omega), e3, show 7 - m = j by omega]
  have : (0 : Int) ≤ ((d[i]'hb).toNat : Int) / 2 ^ j := Int.ediv_nonneg (by omega) (by exact Int.pow_nonneg (by omega))
  rw [Int.tmod_eq_emod_of_nonneg this]
theorem rbits_tail (d : ByteArray) : rbits d (8 * d.size + 6) = rbits d (8 * d.size) ++ [.int .i64 0, .int .i64 0, .int .i64 0, .int .i64 0, .int .i64 0, .int .i64 0] := by
  have h : ∀ j, ((bitAt d (8 * d.size + j) : Nat) : Int) = 0 := fun j => by unfold bitAt; rw [if_neg (by omega)]; rfl
  have h0 := h 0; rw [Nat.add_zero] at h0; have h1 := h 1; have h2 := h 2; have h3 := h 3; have h4 := h 4; have h5 := h 5
  rw [show 8 * d.size + 6 = 8 * d.size + 0 + 1 + 1 + 1 + 1 + 1 + 1 by omega]
  simp only [rbits_succ, Nat.add_assoc, Nat.reduceAdd, h0, h1, h2, h3, h4, h5, List.append_assoc, List.cons_append, List.nil_append, Nat.add_zero]
theorem bits_step {d : ByteArray} {w wr w1 : World} {n m : Nat} {v v' : Value} {o : Obj} {news : List Value} (h : BitsAt d w n v wr) (hg : (wr.alloc o).grownBy w1 v.ownBlock) (h' : w1.ownsRow w.heap.size 3 1 v' m (rbits d n ++ news)) (hr : rbits d m = rbits d n ++ news) : BitsAt d w m v' w1 :=
  ⟨hr ▸ h', (bl_alloc h.2 _).grown hg (by have := h.2.size; simp; omega) (fun k e => (h.1.lt k e).1)⟩
set_option maxRecDepth 100000 in
set_option maxHeartbeats 1600000 in
theorem refbits_any (d : ByteArray) (hd : d.size ≤ 1100) (w : World) :
    Calls Try.prog 34 #[.string d] w fun e w' => ∃ v, e = .returned v ∧ BitsAt d w (8 * d.size + 6) v w' := by
  obtain ⟨i0, hi, hz0, hz1, hz2⟩ := info_parts info3
  go_enter Try.func34, Try.ntmps34
  go_wp2_with (fail)
  go_loopw [3, 4] (fun v i wr => ∃ k : Nat, k ≤ d.size ∧ i = .int .i64 k ∧ BitsAt d w (8 * k) v wr) (fun _ i _ => d.size - (intOf i).toNat)
  case atStart => exact ⟨0, by omega, rfl, ⟨World.ownsRow_nil _ _ _ _, Below.refl _ _⟩⟩
  case round =>
    obtain ⟨k, hk, rfl, hB⟩ := hrel
    have HB := Lib.hid hB; clear hB
    by_cases hlt : k < d.size
    · obtain ⟨wo, hwo⟩ : ∃ wo : World, wo = wr := ⟨_, rfl⟩
      subst hwo
      go_wp2_with (fail)
      go_loopw [3, 5] (fun v j wr => ∃ m : Nat, m ≤ 8 ∧ j = .int .i64 (7 - (m : Int)) ∧ BitsAt d w (8 * k + m) v wr) (fun _ j _ => (intOf j + 1).toNat)
      case atStart => exact ⟨0, by omega, rfl, HB.out⟩
      case round =>
        clear HB
        obtain ⟨m, hm, rfl, hB⟩ := hrel
        have HB := Lib.hid hB; clear hB
        by_cases hm8 : m < 8
        · obtain ⟨j, hj⟩ : ∃ j : Nat, (7 : Int) - (m : Int) = (j : Int) := ⟨7 - m, by omega⟩
          have J : Hid (m + j = 7) := Lib.hid (by omega)
          have hj7 : j ≤ 7 := by omega
          rw [hj]
          have HJ := Lib.hid hj; clear hj
          have hown := Lib.hid HB.out.1
          have hb := Lib.hid HB.out.2
          go_wp2_with (at_builtin; refine wpList_append_own _ rfl _ _ 22 rfl w.heap.size 3 i0 (.int .i64 0) 1 8 Try.underlying22 hi hz0 hz1 hz2 rfl (by decide) _ _ _ rfl (hown.out.alloc _) ⟨wr.heap.size, 0, none⟩ 1 1 [.int .i64 _] rfl rfl (cells_newE wr [_] 3) (by simp [Value.oneCell']) (by unfold maxLen; omega) (by omega) (by have := hb.out.size; simp; omega) ?_; intro v' w1 hown' hgrow _)
          refine ⟨⟨m + 1, by omega, by have := J.out; rw [show ((j : Int) - 1) = 7 - ((m + 1 : Nat) : Int) by omega], bits_step HB.out hgrow hown' ?_⟩, by simp [intOf]⟩
          rw [bit_ref d k m j hlt J.out, ← rbits_succ]; rfl
        · have he : m = 8 := by omega
          subst he
          go_wp2_with (fail)
          refine ⟨⟨k + 1, by omega, by go_num, HB.out⟩, by simp [intOf]; omega⟩
    · have he : k = d.size := by omega
      subst he
      have hown := Lib.hid HB.out.1
      have hb := Lib.hid HB.out.2
      go_wp2_with (at_builtin; refine wpList_append_own _ rfl _ _ 22 rfl w.heap.size 3 i0 (.int .i64 0) 1 8 Try.underlying22 hi hz0 hz1 hz2 rfl (by decide) _ _ _ rfl (hown.out.alloc _) ⟨wr.heap.size, 0, none⟩ 6 6 [_, _, _, _, _, _] rfl rfl (cells_newE wr [_, _, _, _, _, _] 3) (by simp [Value.oneCell']) (by unfold maxLen; omega) (by omega) (by have := hb.out.size; simp; omega) ?_; intro v' w1 hown' hgrow _)
      go_ret
      exact ⟨_, rfl, bits_step HB.out hgrow hown' (rbits_tail d)⟩
theorem rows_apart {W : World} {base e e' size size' n n' : Nat} {v v' : Value} {xs xs' : List Value} (h : W.ownsRow base e size v n xs) (h' : W.ownsRow base e' size' v' n' xs') (hne : e ≠ e') : v.ownBlock = none ∨ v.ownBlock ≠ v'.ownBlock := by
  rcases h.2 with ⟨rfl, _⟩ | ⟨g, cap, cur, rfl, _, hg, _⟩
  · left; rfl
  · right
    rcases h'.2 with ⟨rfl, _⟩ | ⟨g', cap', cur', rfl, _, hg', _⟩
    · simp [Value.ownBlock]
    · intro e0
      obtain rfl : g = g' := by simpa [Value.ownBlock] using e0
      have := hg.symm.trans hg'
      simp at this
      exact hne this.2
def encV (d : ByteArray) (k : Nat) : List Value := (encS (bitL d k)).2.map (Value.int .u8)
def REnc (d : ByteArray) (w : World) (l : Value) (N : Nat) (k : Nat) (v : Value) (wr : World) : Prop :=
  wr.ownsRow w.heap.size 5 1 v (2 * k) (encV d k) ∧ wr.ownsRow w.heap.size 3 1 l N (rbits d N) ∧ Below w.heap.size w wr
theorem renc_step {d : ByteArray} {w wr w1 : World} {N k : Nat} {l v v' : Value} {o : Obj} (h : REnc d w l N k v wr) (hg : (wr.alloc o).grownBy w1 v.ownBlock) (a b : Int) (ha : a = o1 (encS (bitL d k)).1 (bitAt d k)) (hb : b = o2 (encS (bitL d k)).1 (bitAt d k))
    (h' : w1.ownsRow w.heap.size 5 1 v' (2 * k + 1 + 1) (encV d k ++ [.int .u8 a, .int .u8 b])) : REnc d w l N (k + 1) v' w1 := by
  subst ha hb
  refine ⟨?_, (h.2.1.alloc _).kept hg (rows_apart h.2.1 h.1 (by decide)), (bl_alloc h.2.2 _).grown hg (by have := h.2.2.size; simp; omega) (fun k e => (h.1.lt k e).1)⟩
  have : encV d (k + 1) = encV d k ++ [.int .u8 (o1 (encS (bitL d k)).1 (bitAt d k)), .int .u8 (o2 (encS (bitL d k)).1 (bitAt d k))] := by
    unfold encV; rw [bitL_succ, encS_snoc]; simp
  rw [this]
  exact h'
set_option maxRecDepth 100000 in
set_option maxHeartbeats 1600000 in
theorem refencode_any (d : ByteArray) (hd : d.size ≤ 1100) (w : World) :
    Calls Try.prog 21 #[.string d] w fun e w' => e = .returned (.tuple #[.string (strOfNums (encS (bitL d (8 * d.size + 6))).2), .int .i64 0]) ∧ Below w.heap.size w w' := by
  obtain ⟨i0, hi, hz0, hz1, hz2⟩ := info_parts info5
  have hd' : (d.size : Int) ≤ 1100 := by omega
  go_enter Try.func21, Try.ntmps21
  go_wp2_with (fail)
  refine (refbits_any d hd _).mono ?_
  rintro e w1 ⟨l, rfl, hB⟩
  obtain ⟨N, hN⟩ : ∃ N, N = 8 * d.size + 6 := ⟨_, rfl⟩
  have hl1 := hB.1
  rw [← hN, show N = (N - 1) + 1 by omega] at hl1
  obtain ⟨g, cap, rfl⟩ := ownsRow_succ hl1
  clear hl1
  rw [show N - 1 + 1 = N by omega] at hB ⊢
  rw [← hN] at hB
  have HB := Lib.hid hB; clear hB
  have HN := Lib.hid hN
  have hN6 : 6 ≤ N := by omega
  have hN9 : N ≤ 10000 := by omega
  clear hN
  go_wp2_with (fail)
  go_loopw [4, 5, 7] (fun v s i wr => ∃ k : Nat, k ≤ N ∧ i = .int .i64 k ∧ s = .int .i64 (encS (bitL d k)).1 ∧ REnc d w (.slice (some ⟨g, 0, none⟩) N cap) N k v wr) (fun _ _ i _ => N - (intOf i).toNat)
  case atStart => exact ⟨0, by omega, rfl, rfl, ⟨World.ownsRow_nil _ _ _ _, HB.out.1, HB.out.2⟩⟩
  case round =>
    clear HB
    obtain ⟨k, hk, rfl, rfl, hB⟩ := hrel
    have HB := Lib.hid hB; clear hB
    by_cases hlt : k < N
    · obtain ⟨s, hs⟩ : ∃ s, Hid (s = (encS (bitL d k)).1) := ⟨_, Lib.hid rfl⟩
      obtain ⟨b, hb⟩ : ∃ s, Hid (s = bitAt d k) := ⟨_, Lib.hid rfl⟩
      have hc : wr.cell? ⟨g, k, none⟩ = some (.int .i64 b) := by
        rw [HB.out.2.1.cellAt k (by omega), hb.out]
        simp [rbits, hlt]
      have hs64 : s < 64 := by rw [hs.out]; exact encS_lt _
      have hb2 : b < 2 := by rw [hb.out]; exact bitAt_lt _ _
      rw [← hs.out]
      go_wp2_with (fail)
      refine (refstep_in s b hs64 hb2 _).mono ?_
      rintro e _ ⟨rfl, rfl⟩
      obtain ⟨n1, hn1⟩ : ∃ n, Hid (n = nx s b) := ⟨_, Lib.hid rfl⟩
      obtain ⟨a1, ha1⟩ : ∃ n, Hid (n = o1 s b) := ⟨_, Lib.hid rfl⟩
      obtain ⟨a2, ha2⟩ : ∃ n, Hid (n = o2 s b) := ⟨_, Lib.hid rfl⟩
      have l1 : a1 < 2 := by rw [ha1.out]; exact par_lt _
      have l2 : a2 < 2 := by rw [ha2.out]; unfold o2; omega
      rw [← hn1.out, ← ha1.out, ← ha2.out]
      have u1 : IntKind.u8.wrap (a1 : Int) = a1 := IntWalk.u8_in _ (by omega)
      have u2 : IntKind.u8.wrap (a2 : Int) = a2 := IntWalk.u8_in _ (by omega)
      have hown := Lib.hid HB.out.1
      have hbl := Lib.hid HB.out.2.2
      go_wp2_with (at_builtin; refine wpList_append_own _ rfl _ _ 37 rfl w.heap.size 5 i0 (.int .u8 0) 1 1 Try.underlying37 hi hz0 hz1 hz2 rfl (by decide) _ _ _ rfl (hown.out.alloc _) ⟨wr.heap.size, 0, none⟩ 2 2 [_, _] rfl rfl (cells_newE wr [_, _] 5) (by simp [Value.oneCell']) (by unfold maxLen; omega) (by omega) (by have := hbl.out.size; simp; omega) ?_; intro v' w1 hown' hgrow _)
      refine ⟨⟨k + 1, by omega, by go_num, ?_, renc_step HB.out hgrow _ _ (by rw [ha1.out, hs.out, hb.out]) (by rw [ha2.out, hs.out, hb.out]) hown'⟩, by simp [intOf]; omega⟩
      rw [hn1.out, hs.out, hb.out, bitL_succ, encS_snoc]
    · have he : k = N := by omega
      subst he
      have hrow := HB.out.1
      obtain ⟨L', hL'⟩ : ∃ L, L = 2 * k - 1 := ⟨_, rfl⟩
      rw [show 2 * k = L' + 1 by omega] at hrow
      obtain ⟨g', cap', rfl⟩ := ownsRow_succ hrow
      obtain ⟨L, hL⟩ : ∃ L, L = L' + 1 := ⟨_, rfl⟩
      obtain ⟨xs, hxs⟩ : ∃ xs, xs = (encS (bitL d k)).2 := ⟨_, rfl⟩
      unfold encV at hrow
      rw [← hL, ← hxs] at hrow
      rw [← hL]
      have lx : xs.length = L := by rw [hxs, encS_len, bitL_length]; omega
      have hcv := run_convert_bytes_arg wr 37 5 Try.underlying37 Try.underlying5 g' 0 L cap' xs lx (fun i hi => by
        rw [Nat.zero_add, hrow.cellAt i (by omega)]
        simp [List.getD, List.getElem?_eq_getElem (show i < xs.length by omega)]) 9 Try.underlying9
      have LX := Lib.hid lx
      have XS := Lib.hid hxs
      clear hrow hL hL' lx hxs
      obtain ⟨S, hS⟩ : ∃ S, strOfNums xs = S := ⟨_, rfl⟩
      rw [hS] at hcv
      have HS := Lib.hid hS; clear hS
      go_wp2_with (fail)
      go_ret2
      refine ⟨?_, HB.out.2.2⟩
      rw [← HS.out, XS.out, ← HN.out]
      rfl
theorem refencode_long (d : ByteArray) (hd : 1100 < d.size) (w : World) :
    Calls Try.prog 21 #[.string d] w fun e w' => e = .returned (.tuple #[.string ⟨#[]⟩, .int .i64 3]) ∧ w = w' := by
  have h : (1100 : Int) < (d.size : Int) := by omega
  clear hd
  go_enter Try.func21, Try.ntmps21
  go_wp2_with (fail)
  go_ret2
  exact ⟨rfl, rfl⟩
end Go.Proofs.Ytbfgpjpfhbbdfaa
