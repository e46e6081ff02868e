/-
  The walk of the law WheelsPlays. Conditions: none.
-/
import Derived.Test.YtcmmjikkoebboaaAwake
import Derived.Test.YtcmmjikkoebboaaRefm
import Derived.Test.YtcmmjikkoebboaaRefn
namespace Go.Proofs.Ytcmmjikkoebboaa
open Go.RowKit Kit
set_option linter.unusedVariables false
set_option maxHeartbeats 1600000 in
theorem same_any (b : Nat) (s0 s1 s2 s3 f : Int) (w : World) (ok : okS s0 s1 s2 s3 f) (h : w.heap[b]? = some (setO s0 s1 s2 s3 f)) :
    Calls Try.prog 21 #[.pointer (some ⟨b, 0, none⟩), .agg #[.int .i64 s0, .int .i64 s1, .int .i64 s2, .int .i64 s3, .int .i64 f]] w fun e w' => e = .returned (.bool true) ∧ Below w.heap.size w w' := by
  obtain ⟨c1, c2, c3, c4, c5, c6, c7, c8⟩ := okS_bd ok
  have HO := Lib.hid ok
  have H := Lib.hid (hp_old h (.cells #[.int .i64 s0, .int .i64 s1, .int .i64 s2, .int .i64 s3, .int .i64 f] 44))
  clear h ok
  have SP : ∀ x : Ext, Calls Try.prog 19 #[.pointer (some ⟨b, 0, none⟩)] (ext (w.alloc (.cells #[.int .i64 s0, .int .i64 s1, .int .i64 s2, .int .i64 s3, .int .i64 f] 44)) x) fun e w' => e = .returned (.agg #[.int .i64 s0, .int .i64 s1, .int .i64 s2, .int .i64 s3]) ∧ Below (ext (w.alloc (.cells #[.int .i64 s0, .int .i64 s1, .int .i64 s2, .int .i64 s3, .int .i64 f] 44)) x).heap.size (ext (w.alloc (.cells #[.int .i64 s0, .int .i64 s1, .int .i64 s2, .int .i64 s3, .int .i64 f] 44)) x) w' := fun x => speeds_any _ _ _ _ _ _ _ (hp_ext H.out x)
  have HS := Lib.hid SP; clear SP
  go_enter Try.func21, Try.ntmps21
  go_wp2_with (fail)
  refine region_calm (by kernel_rfl) (by kernel_rfl) ?_
  repeat (quiet_step ((first | (go_at_call 19; exact calm_of (HS.out _)) | (go_at_call 26; exact calm_same (failed_any _ _ _ _ _ _ _ (hp_ext H.out _))) | (go_at_call 27; exact calm_of (sum_any _ _ _ _ _ _ _ HO.out (hp_ext H.out _))) | (go_at_call 34; exact calm_of (refsum_any _ _ _ _ _ (by omega) (by omega) (by omega) (by omega) (by omega) (by omega) (by omega) (by omega))))))
  refine wpQuiet_nil ?_; intro _ hw'; obtain ⟨xq, hw''⟩ := hw'; subst hw''
  go_wp2_with (fail)
  go_ret
  exact ⟨rfl, bl_step (bl_alloc (Below.refl _ _) _) (below_ext _ _)⟩
theorem bl_go {a b c : World} {B : Nat} (g : Below a.heap.size a b) (h : Below B b c) (hB : a.heap.size ≤ B) : Below a.heap.size a c := g.trans (h.mono hB)
theorem below_of_ext {w w' : World} (h : ∃ x, w' = ext w x) : Below w.heap.size w w' := by obtain ⟨x, rfl⟩ := h; exact below_ext w x
def refO (s0 s1 s2 s3 f : Int) : Obj := .cells #[.int .i64 s0, .int .i64 s1, .int .i64 s2, .int .i64 s3, .int .i64 f] 44
/-- What holds at each round's head. -/
def Play (w : World) (S R len : Nat) (i : Value) (wr : World) : Prop :=
  ∃ (k : Nat) (s0 s1 s2 s3 f : Int), k ≤ len ∧ i = .int .i64 k ∧ okS s0 s1 s2 s3 f ∧ wr.heap[S]? = some (setO s0 s1 s2 s3 f) ∧ wr.heap[R]? = some (refO s0 s1 s2 s3 f) ∧ Below w.heap.size w wr
theorem stepI_bd (s c : Int) : -16777216 ≤ stepI s c ∧ stepI s c ≤ 16777216 := by unfold stepI clampI; omega
theorem okS_step {s0 s1 s2 s3 f : Int} (ok : okS s0 s1 s2 s3 f) (c0 c1 c2 c3 : Int) : okS (if f = 0 then s0 else stepI s0 c0) (if f = 1 then s1 else stepI s1 c1) (if f = 2 then s2 else stepI s2 c2) (if f = 3 then s3 else stepI s3 c3) f := by
  have h0 := stepI_bd s0 c0
  have h1 := stepI_bd s1 c1
  have h2 := stepI_bd s2 c2
  have h3 := stepI_bd s3 c3
  unfold okS at *
  refine ⟨?_, ?_, ?_, ?_, ok.2.2.2.2.1, ?_, ?_, ?_, ?_⟩ <;> split <;> omega
theorem okS_fail {s0 s1 s2 s3 f i : Int} (ok : okS s0 s1 s2 s3 f) (he : failE f i = 0) : okS (if i = 0 then 0 else s0) (if i = 1 then 0 else s1) (if i = 2 then 0 else s2) (if i = 3 then 0 else s3) i := by
  have hi : 0 ≤ i ∧ i ≤ 3 := by unfold failE at he; split at he; omega; split at he <;> omega
  unfold okS at *
  refine ⟨?_, ?_, ?_, ?_, by omega, ?_, ?_, ?_, ?_⟩ <;> split <;> omega
theorem fails_any (b : Nat) (s0 s1 s2 s3 f i : Int) (w : World) (h : w.heap[b]? = some (setO s0 s1 s2 s3 f)) :
    ∃ n0 n1 n2 n3 g : Int, (okS s0 s1 s2 s3 f → okS n0 n1 n2 n3 g) ∧
    (Calls Try.prog 23 #[.pointer (some ⟨b, 0, none⟩), .int .i64 i] w fun e w' => e = .returned (.int .i64 (failE f i)) ∧ w'.heap[b]? = some (setO n0 n1 n2 n3 g) ∧ Mod (fun x => x = b) w w') ∧
    (∀ w, Calls Try.prog 24 #[.agg #[.int .i64 s0, .int .i64 s1, .int .i64 s2, .int .i64 s3, .int .i64 f], .int .i64 i] w fun e w' =>
      e = .returned (.tuple #[.agg #[.int .i64 n0, .int .i64 n1, .int .i64 n2, .int .i64 n3, .int .i64 g], .int .i64 (failE f i)]) ∧ Below w.heap.size w w') := by
  by_cases he : failE f i = 0
  · refine ⟨_, _, _, _, _, fun ok => okS_fail ok he, ?_, fun w => ?_⟩
    · rw [he]; exact fail_yes b s0 s1 s2 s3 f i w h he
    · have := reffail_any s0 s1 s2 s3 f i w
      rw [if_pos he] at this
      rw [he]; exact this
  · refine ⟨_, _, _, _, _, fun ok => ok, ?_, fun w => ?_⟩
    · exact (fail_no b s0 s1 s2 s3 f i w h he).mono fun e w' ⟨h1, h2⟩ => ⟨h1, h2 ▸ h, h2 ▸ Mod.refl _ _⟩
    · have := reffail_any s0 s1 s2 s3 f i w
      rw [if_neg he] at this
      exact this
set_option maxRecDepth 100000 in
set_option maxHeartbeats 6400000 in
theorem plays_some (a0 a1 a2 a3 g : Int) (w : World) (b off len cap : Nat) (C : Nat → List Value) (ok : okS a0 a1 a2 a3 g) (h60 : len ≤ 60) (hlc : len ≤ cap) (hb : b < w.heap.size)
    (hC : ∀ i, i < cap → scAll [.inl .i64, .inl .i64, .inl .i64, .inl .i64, .inl .i64, .inl .i64] (C i)) (hcell : ∀ i j, i < cap → j < 6 → w.cell? ⟨b, off + (i * 6 + j), none⟩ = (C i)[j]?) :
    Calls Try.prog 7 #[.agg #[.int .i64 a0, .int .i64 a1, .int .i64 a2, .int .i64 a3], .int .i64 g, .slice (some ⟨b, off, none⟩) len cap] w fun e w' => e = .returned (.bool true) ∧ Below w.heap.size w w' := by
  have HO := Lib.hid ok
  have RN : refNewV a0 a1 a2 a3 g = .tuple #[.agg #[.int .i64 a0, .int .i64 a1, .int .i64 a2, .int .i64 a3, .int .i64 g], .int .i64 0] := by unfold refNewV; rw [if_pos ok]
  have HN := Lib.hid RN; clear RN ok
  have XC := Lib.hid hcell
  have XS := Lib.hid hC
  clear hcell hC
  have h60' : decide ((60 : Int) < (len : Int)) = false := by simp; omega
  go_enter Try.func7, Try.ntmps7
  go_wp2_with (fail)
  go_wp2_with (fail)
  refine (new_ok HO.out _).mono ?_
  rintro e w1 ⟨rfl, ho1, hz1, hb1⟩
  obtain ⟨hc, hf⟩ := bcell hb1
  have hs1 := hb1.size
  try simp only [World.size_alloc] at hs1 hc hf hb1 ho1 hz1
  have B1 := Lib.hid hb1; clear hb1
  have O1 := Lib.hid ho1; clear ho1
  have x1_0 : w1.cell? ⟨w.heap.size, 0, none⟩ = some (.int .i64 a0) := by rw [hc _ _ (by omega)]; go_simp
  have x1_1 : w1.cell? ⟨w.heap.size, 1, none⟩ = some (.int .i64 a1) := by rw [hc _ _ (by omega)]; go_simp
  have x1_2 : w1.cell? ⟨w.heap.size, 2, none⟩ = some (.int .i64 a2) := by rw [hc _ _ (by omega)]; go_simp
  have x1_3 : w1.cell? ⟨w.heap.size, 3, none⟩ = some (.int .i64 a3) := by rw [hc _ _ (by omega)]; go_simp
  have l1 : w.heap.size < w1.heap.size := by omega
  have hg : w.heap.size ≤ w1.heap.size := by omega
  have HS := O1; clear O1
  have lS : w.heap.size + 1 + 1 < w1.heap.size := by omega
  have bS : w.heap.size ≤ w.heap.size + 1 + 1 := by omega
  clear hc hf
  go_wp2_with (fail)
  refine (refnew_any _ _ _ _ _ _).mono ?_
  rw [HN.out]
  rintro e w2 ⟨rfl, hb2⟩
  obtain ⟨hc, hf⟩ := bcell hb2
  have hs2 := hb2.size
  have B2 := Lib.hid hb2; clear hb2
  replace x1_0 : w2.cell? ⟨w.heap.size, 0, none⟩ = some (.int .i64 a0) := by rw [hc _ _ (by omega)]; go_simp
  replace x1_1 : w2.cell? ⟨w.heap.size, 1, none⟩ = some (.int .i64 a1) := by rw [hc _ _ (by omega)]; go_simp
  replace x1_2 : w2.cell? ⟨w.heap.size, 2, none⟩ = some (.int .i64 a2) := by rw [hc _ _ (by omega)]; go_simp
  replace x1_3 : w2.cell? ⟨w.heap.size, 3, none⟩ = some (.int .i64 a3) := by rw [hc _ _ (by omega)]; go_simp
  replace l1 : w.heap.size < w2.heap.size := by omega
  replace hg : w.heap.size ≤ w2.heap.size := by omega
  have P := Lib.hid (below_keeps B2.out HS.out (by omega)); clear HS; have HS := P; clear P
  replace lS : w.heap.size + 1 + 1 < w2.heap.size := by omega
  clear hc hf
  go_wp2_with (fail)
  have BL := Lib.hid (show Below w.heap.size w (w2.alloc (refO a0 a1 a2 a3 g)) from (bl_alloc (bl_go (bl_go (bl_alloc (Below.refl _ _) _) B1.out (by omega)) B2.out (by omega)) _))
  go_loopw [11] (fun i wr => Play w (w.heap.size + 1 + 1) w2.heap.size len i wr) (fun i _ => len - (intOf i).toNat)
  case atStart => exact ⟨0, a0, a1, a2, a3, g, by omega, rfl, HO.out, hp_old HS.out _, hp_new _ _, BL.out⟩
  case round =>
    clear HS HN lS
    obtain ⟨k, s0, s1, s2, s3, f, hk, rfl, ok, hS, hR, hW⟩ := hrel
    have HO := Lib.hid ok
    have HS := Lib.hid hS
    have HR := Lib.hid hR
    have BW := Lib.hid hW
    have hg : w.heap.size ≤ wr.heap.size := hW.size
    have lS := lt_of_obj hS
    have lR := lt_of_obj hR
    have lS0 := lS
    have lR0 := lR
    have x1_0 : wr.cell? ⟨w2.heap.size, 0, none⟩ = some (.int .i64 s0) := cell_of hR rfl
    have x1_1 : wr.cell? ⟨w2.heap.size, 1, none⟩ = some (.int .i64 s1) := cell_of hR rfl
    have x1_2 : wr.cell? ⟨w2.heap.size, 2, none⟩ = some (.int .i64 s2) := cell_of hR rfl
    have x1_3 : wr.cell? ⟨w2.heap.size, 3, none⟩ = some (.int .i64 s3) := cell_of hR rfl
    have x1_4 : wr.cell? ⟨w2.heap.size, 4, none⟩ = some (.int .i64 f) := cell_of hR rfl
    have z1_0 : wr.frozen? ⟨w2.heap.size, 0, none⟩ = false := free_of hR
    have z1_1 : wr.frozen? ⟨w2.heap.size, 1, none⟩ = false := free_of hR
    have z1_2 : wr.frozen? ⟨w2.heap.size, 2, none⟩ = false := free_of hR
    have z1_3 : wr.frozen? ⟨w2.heap.size, 3, none⟩ = false := free_of hR
    have z1_4 : wr.frozen? ⟨w2.heap.size, 4, none⟩ = false := free_of hR
    have l1 := lR
    have hne : w.heap.size + 1 + 1 ≠ w2.heap.size := by omega
    clear hS hR
    by_cases hlt : k < len
    · skip
      obtain ⟨m, c0, e0, _, t0⟩ := scAll_int (XS.out k (by omega))
      obtain ⟨q0, c1, e1, _, t1⟩ := scAll_int t0
      obtain ⟨q1, c2, e2, _, t2⟩ := scAll_int t1
      obtain ⟨q2, c3, e3, _, t3⟩ := scAll_int t2
      obtain ⟨q3, c4, e4, _, t4⟩ := scAll_int t3
      obtain ⟨j, c5, e5, _, t5⟩ := scAll_int t4
      have t6 := scAll_nil t5
      subst t6 e5 e4 e3 e2 e1
      have y0 : wr.cell? ⟨b, off + k * 6, none⟩ = some (.int .i64 m) := by rw [show off + k * 6 = off + (k * 6 + 0) by omega, BW.out.cell (p := ⟨b, off + (k * 6 + 0), none⟩) hb, XC.out k 0 (by omega) (by omega), e0]; rfl
      have y1 : wr.cell? ⟨b, off + k * 6 + 1, none⟩ = some (.int .i64 q0) := by rw [show off + k * 6 + 1 = off + (k * 6 + 1) by omega, BW.out.cell (p := ⟨b, off + (k * 6 + 1), none⟩) hb, XC.out k 1 (by omega) (by omega), e0]; rfl
      have y2 : wr.cell? ⟨b, off + k * 6 + 2, none⟩ = some (.int .i64 q1) := by rw [show off + k * 6 + 2 = off + (k * 6 + 2) by omega, BW.out.cell (p := ⟨b, off + (k * 6 + 2), none⟩) hb, XC.out k 2 (by omega) (by omega), e0]; rfl
      have y3 : wr.cell? ⟨b, off + k * 6 + 3, none⟩ = some (.int .i64 q2) := by rw [show off + k * 6 + 3 = off + (k * 6 + 3) by omega, BW.out.cell (p := ⟨b, off + (k * 6 + 3), none⟩) hb, XC.out k 3 (by omega) (by omega), e0]; rfl
      have y4 : wr.cell? ⟨b, off + k * 6 + 4, none⟩ = some (.int .i64 q3) := by rw [show off + k * 6 + 4 = off + (k * 6 + 4) by omega, BW.out.cell (p := ⟨b, off + (k * 6 + 4), none⟩) hb, XC.out k 4 (by omega) (by omega), e0]; rfl
      have y5 : wr.cell? ⟨b, off + k * 6 + 5, none⟩ = some (.int .i64 j) := by rw [show off + k * 6 + 5 = off + (k * 6 + 5) by omega, BW.out.cell (p := ⟨b, off + (k * 6 + 5), none⟩) hb, XC.out k 5 (by omega) (by omega), e0]; rfl
      clear e0 hW
      obtain ⟨k0, K0⟩ : ∃ k, Hid (k = if f = 0 then (0 : Int) else cmdI s0 q0) := ⟨_, rfl⟩
      obtain ⟨k1, K1⟩ : ∃ k, Hid (k = if f = 1 then (0 : Int) else cmdI s1 q1) := ⟨_, rfl⟩
      obtain ⟨k2, K2⟩ : ∃ k, Hid (k = if f = 2 then (0 : Int) else cmdI s2 q2) := ⟨_, rfl⟩
      obtain ⟨k3, K3⟩ : ∃ k, Hid (k = if f = 3 then (0 : Int) else cmdI s3 q3) := ⟨_, rfl⟩
      have KR : ∀ w, Calls Try.prog 22 #[.agg #[.int .i64 s0, .int .i64 s1, .int .i64 s2, .int .i64 s3, .int .i64 f], .agg #[.int .i64 q0, .int .i64 q1, .int .i64 q2, .int .i64 q3]] w fun e w' => e = .returned (.agg #[.int .i64 k0, .int .i64 k1, .int .i64 k2, .int .i64 k3]) ∧ Below w.heap.size w w' := by
        intro w; have := refcommand_any s0 s1 s2 s3 f q0 q1 q2 q3 w HO.out; unfold four at this; rw [← K0.out, ← K1.out, ← K2.out, ← K3.out] at this; exact this
      have KR := Lib.hid KR
      go_wp2_with (fail)
      refine (command_any _ _ _ _ _ _ _ _ _ _ _ HO.out (hp_old HS.out _)).mono ?_
      unfold four; rw [← K0.out, ← K1.out, ← K2.out, ← K3.out]
      rintro e w3 ⟨rfl, hb3⟩
      obtain ⟨hc, hf⟩ := bcell hb3
      have hs3 := hb3.size
      try simp only [World.size_alloc] at hs3 hc hf hb3
      have B3 := Lib.hid hb3; clear hb3
      replace x1_0 : w3.cell? ⟨w2.heap.size, 0, none⟩ = some (.int .i64 s0) := by rw [hc _ _ (by omega)]; go_simp
      replace z1_0 : w3.frozen? ⟨w2.heap.size, 0, none⟩ = false := by rw [hf _ _ (by omega)]; go_simp
      replace x1_1 : w3.cell? ⟨w2.heap.size, 1, none⟩ = some (.int .i64 s1) := by rw [hc _ _ (by omega)]; go_simp
      replace z1_1 : w3.frozen? ⟨w2.heap.size, 1, none⟩ = false := by rw [hf _ _ (by omega)]; go_simp
      replace x1_2 : w3.cell? ⟨w2.heap.size, 2, none⟩ = some (.int .i64 s2) := by rw [hc _ _ (by omega)]; go_simp
      replace z1_2 : w3.frozen? ⟨w2.heap.size, 2, none⟩ = false := by rw [hf _ _ (by omega)]; go_simp
      replace x1_3 : w3.cell? ⟨w2.heap.size, 3, none⟩ = some (.int .i64 s3) := by rw [hc _ _ (by omega)]; go_simp
      replace z1_3 : w3.frozen? ⟨w2.heap.size, 3, none⟩ = false := by rw [hf _ _ (by omega)]; go_simp
      replace x1_4 : w3.cell? ⟨w2.heap.size, 4, none⟩ = some (.int .i64 f) := by rw [hc _ _ (by omega)]; go_simp
      replace z1_4 : w3.frozen? ⟨w2.heap.size, 4, none⟩ = false := by rw [hf _ _ (by omega)]; go_simp
      replace l1 : w2.heap.size < w3.heap.size := by omega
      have x2_0 : w3.cell? ⟨wr.heap.size, 0, none⟩ = some (.int .i64 m) := by rw [hc _ _ (by omega)]; go_simp
      have x2_1 : w3.cell? ⟨wr.heap.size, 1, none⟩ = some (.int .i64 q0) := by rw [hc _ _ (by omega)]; go_simp
      have x2_2 : w3.cell? ⟨wr.heap.size, 2, none⟩ = some (.int .i64 q1) := by rw [hc _ _ (by omega)]; go_simp
      have x2_3 : w3.cell? ⟨wr.heap.size, 3, none⟩ = some (.int .i64 q2) := by rw [hc _ _ (by omega)]; go_simp
      have x2_4 : w3.cell? ⟨wr.heap.size, 4, none⟩ = some (.int .i64 q3) := by rw [hc _ _ (by omega)]; go_simp
      have x2_5 : w3.cell? ⟨wr.heap.size, 5, none⟩ = some (.int .i64 j) := by rw [hc _ _ (by omega)]; go_simp
      have l2 : wr.heap.size < w3.heap.size := by omega
      replace hg : w.heap.size ≤ w3.heap.size := by omega
      have P := Lib.hid (below_keeps B3.out (hp_old HS.out _) (by omega)); clear HS; have HS := P; clear P
      replace lS : w.heap.size + 1 + 1 < w3.heap.size := by omega
      have P := Lib.hid (below_keeps B3.out (hp_old HR.out _) (by omega)); clear HR; have HR := P; clear P
      replace lR : w2.heap.size < w3.heap.size := by omega
      clear hc hf
      clear y0 y1 y2 y3 y4 y5
      go_wp2_with (fail)
      refine region_calm (by kernel_rfl) (by kernel_rfl) ?_
      repeat (quiet_step ((first | (go_at_call 21; exact calm_of (same_any _ _ _ _ _ _ _ HO.out (hp_ext (hp_old HS.out _) _))) | (go_at_call 22; exact calm_of (KR.out _)))))
      refine wpQuiet_nil ?_; intro w4 hw'; have hb4 := below_of_ext hw'; clear hw'
      obtain ⟨hc, hf⟩ := bcell hb4
      have hs4 := hb4.size
      try simp only [World.size_alloc] at hs4 hc hf hb4
      have B4 := Lib.hid hb4; clear hb4
      replace x1_0 : w4.cell? ⟨w2.heap.size, 0, none⟩ = some (.int .i64 s0) := by rw [hc _ _ (by omega)]; go_simp
      replace z1_0 : w4.frozen? ⟨w2.heap.size, 0, none⟩ = false := by rw [hf _ _ (by omega)]; go_simp
      replace x1_1 : w4.cell? ⟨w2.heap.size, 1, none⟩ = some (.int .i64 s1) := by rw [hc _ _ (by omega)]; go_simp
      replace z1_1 : w4.frozen? ⟨w2.heap.size, 1, none⟩ = false := by rw [hf _ _ (by omega)]; go_simp
      replace x1_2 : w4.cell? ⟨w2.heap.size, 2, none⟩ = some (.int .i64 s2) := by rw [hc _ _ (by omega)]; go_simp
      replace z1_2 : w4.frozen? ⟨w2.heap.size, 2, none⟩ = false := by rw [hf _ _ (by omega)]; go_simp
      replace x1_3 : w4.cell? ⟨w2.heap.size, 3, none⟩ = some (.int .i64 s3) := by rw [hc _ _ (by omega)]; go_simp
      replace z1_3 : w4.frozen? ⟨w2.heap.size, 3, none⟩ = false := by rw [hf _ _ (by omega)]; go_simp
      replace x1_4 : w4.cell? ⟨w2.heap.size, 4, none⟩ = some (.int .i64 f) := by rw [hc _ _ (by omega)]; go_simp
      replace z1_4 : w4.frozen? ⟨w2.heap.size, 4, none⟩ = false := by rw [hf _ _ (by omega)]; go_simp
      replace l1 : w2.heap.size < w4.heap.size := by omega
      replace x2_0 : w4.cell? ⟨wr.heap.size, 0, none⟩ = some (.int .i64 m) := by rw [hc _ _ (by omega)]; go_simp
      replace x2_1 : w4.cell? ⟨wr.heap.size, 1, none⟩ = some (.int .i64 q0) := by rw [hc _ _ (by omega)]; go_simp
      replace x2_2 : w4.cell? ⟨wr.heap.size, 2, none⟩ = some (.int .i64 q1) := by rw [hc _ _ (by omega)]; go_simp
      replace x2_3 : w4.cell? ⟨wr.heap.size, 3, none⟩ = some (.int .i64 q2) := by rw [hc _ _ (by omega)]; go_simp
      replace x2_4 : w4.cell? ⟨wr.heap.size, 4, none⟩ = some (.int .i64 q3) := by rw [hc _ _ (by omega)]; go_simp
      replace x2_5 : w4.cell? ⟨wr.heap.size, 5, none⟩ = some (.int .i64 j) := by rw [hc _ _ (by omega)]; go_simp
      replace l2 : wr.heap.size < w4.heap.size := by omega
      have x3_0 : w4.cell? ⟨w3.heap.size, 0, none⟩ = some (.int .i64 k0) := by rw [hc _ _ (by omega)]; go_simp
      have x3_1 : w4.cell? ⟨w3.heap.size, 1, none⟩ = some (.int .i64 k1) := by rw [hc _ _ (by omega)]; go_simp
      have x3_2 : w4.cell? ⟨w3.heap.size, 2, none⟩ = some (.int .i64 k2) := by rw [hc _ _ (by omega)]; go_simp
      have x3_3 : w4.cell? ⟨w3.heap.size, 3, none⟩ = some (.int .i64 k3) := by rw [hc _ _ (by omega)]; go_simp
      have l3 : w3.heap.size < w4.heap.size := by omega
      replace hg : w.heap.size ≤ w4.heap.size := by omega
      have P := Lib.hid (below_keeps B4.out (hp_old HS.out _) (by omega)); clear HS; have HS := P; clear P
      replace lS : w.heap.size + 1 + 1 < w4.heap.size := by omega
      have P := Lib.hid (below_keeps B4.out (hp_old HR.out _) (by omega)); clear HR; have HR := P; clear P
      replace lR : w2.heap.size < w4.heap.size := by omega
      clear hc hf
      by_cases c1 : m.tmod 3 = 1
      · skip
        have cb : (m.tmod 3 == 1) = true := by simp [c1]
        clear c1
        obtain ⟨n0, n1, n2, n3, g2, okf, FA, FR⟩ := fails_any _ s0 s1 s2 s3 f j _ HS.out
        have NO := Lib.hid (okf HO.out)
        have FA := Lib.hid FA
        have FR := Lib.hid FR
        clear okf
        go_wp2_with (fail)
        refine (FA.out).mono ?_
        rintro e w5 ⟨rfl, ho5, hb5⟩
        obtain ⟨hc, hf⟩ := mcell hb5
        have hs5 := hb5.size
        have B5 := Lib.hid hb5; clear hb5
        have O5 := Lib.hid ho5; clear ho5
        replace x1_0 : w5.cell? ⟨w2.heap.size, 0, none⟩ = some (.int .i64 s0) := by rw [hc _ _ (by omega) (by omega)]; go_simp
        replace z1_0 : w5.frozen? ⟨w2.heap.size, 0, none⟩ = false := by rw [hf _ _ (by omega) (by omega)]; go_simp
        replace x1_1 : w5.cell? ⟨w2.heap.size, 1, none⟩ = some (.int .i64 s1) := by rw [hc _ _ (by omega) (by omega)]; go_simp
        replace z1_1 : w5.frozen? ⟨w2.heap.size, 1, none⟩ = false := by rw [hf _ _ (by omega) (by omega)]; go_simp
        replace x1_2 : w5.cell? ⟨w2.heap.size, 2, none⟩ = some (.int .i64 s2) := by rw [hc _ _ (by omega) (by omega)]; go_simp
        replace z1_2 : w5.frozen? ⟨w2.heap.size, 2, none⟩ = false := by rw [hf _ _ (by omega) (by omega)]; go_simp
        replace x1_3 : w5.cell? ⟨w2.heap.size, 3, none⟩ = some (.int .i64 s3) := by rw [hc _ _ (by omega) (by omega)]; go_simp
        replace z1_3 : w5.frozen? ⟨w2.heap.size, 3, none⟩ = false := by rw [hf _ _ (by omega) (by omega)]; go_simp
        replace x1_4 : w5.cell? ⟨w2.heap.size, 4, none⟩ = some (.int .i64 f) := by rw [hc _ _ (by omega) (by omega)]; go_simp
        replace z1_4 : w5.frozen? ⟨w2.heap.size, 4, none⟩ = false := by rw [hf _ _ (by omega) (by omega)]; go_simp
        replace l1 : w2.heap.size < w5.heap.size := by omega
        replace x2_0 : w5.cell? ⟨wr.heap.size, 0, none⟩ = some (.int .i64 m) := by rw [hc _ _ (by omega) (by omega)]; go_simp
        replace x2_1 : w5.cell? ⟨wr.heap.size, 1, none⟩ = some (.int .i64 q0) := by rw [hc _ _ (by omega) (by omega)]; go_simp
        replace x2_2 : w5.cell? ⟨wr.heap.size, 2, none⟩ = some (.int .i64 q1) := by rw [hc _ _ (by omega) (by omega)]; go_simp
        replace x2_3 : w5.cell? ⟨wr.heap.size, 3, none⟩ = some (.int .i64 q2) := by rw [hc _ _ (by omega) (by omega)]; go_simp
        replace x2_4 : w5.cell? ⟨wr.heap.size, 4, none⟩ = some (.int .i64 q3) := by rw [hc _ _ (by omega) (by omega)]; go_simp
        replace x2_5 : w5.cell? ⟨wr.heap.size, 5, none⟩ = some (.int .i64 j) := by rw [hc _ _ (by omega) (by omega)]; go_simp
        replace l2 : wr.heap.size < w5.heap.size := by omega
        replace x3_0 : w5.cell? ⟨w3.heap.size, 0, none⟩ = some (.int .i64 k0) := by rw [hc _ _ (by omega) (by omega)]; go_simp
        replace x3_1 : w5.cell? ⟨w3.heap.size, 1, none⟩ = some (.int .i64 k1) := by rw [hc _ _ (by omega) (by omega)]; go_simp
        replace x3_2 : w5.cell? ⟨w3.heap.size, 2, none⟩ = some (.int .i64 k2) := by rw [hc _ _ (by omega) (by omega)]; go_simp
        replace x3_3 : w5.cell? ⟨w3.heap.size, 3, none⟩ = some (.int .i64 k3) := by rw [hc _ _ (by omega) (by omega)]; go_simp
        replace l3 : w3.heap.size < w5.heap.size := by omega
        replace hg : w.heap.size ≤ w5.heap.size := by omega
        have P := Lib.hid (B5.out.keeps HR.out (by omega)); clear HR; have HR := P; clear P
        replace lR : w2.heap.size < w5.heap.size := by omega
        clear HS; have HS := O5; clear O5
        replace lS : w.heap.size + 1 + 1 < w5.heap.size := by omega
        clear hc hf
        go_wp2_with (fail)
        refine (FR.out _).mono ?_
        rintro e w6 ⟨rfl, hb6⟩
        obtain ⟨hc, hf⟩ := bcell hb6
        have hs6 := hb6.size
        have B6 := Lib.hid hb6; clear hb6
        replace x1_0 : w6.cell? ⟨w2.heap.size, 0, none⟩ = some (.int .i64 s0) := by rw [hc _ _ (by omega)]; go_simp
        replace z1_0 : w6.frozen? ⟨w2.heap.size, 0, none⟩ = false := by rw [hf _ _ (by omega)]; go_simp
        replace x1_1 : w6.cell? ⟨w2.heap.size, 1, none⟩ = some (.int .i64 s1) := by rw [hc _ _ (by omega)]; go_simp
        replace z1_1 : w6.frozen? ⟨w2.heap.size, 1, none⟩ = false := by rw [hf _ _ (by omega)]; go_simp
        replace x1_2 : w6.cell? ⟨w2.heap.size, 2, none⟩ = some (.int .i64 s2) := by rw [hc _ _ (by omega)]; go_simp
        replace z1_2 : w6.frozen? ⟨w2.heap.size, 2, none⟩ = false := by rw [hf _ _ (by omega)]; go_simp
        replace x1_3 : w6.cell? ⟨w2.heap.size, 3, none⟩ = some (.int .i64 s3) := by rw [hc _ _ (by omega)]; go_simp
        replace z1_3 : w6.frozen? ⟨w2.heap.size, 3, none⟩ = false := by rw [hf _ _ (by omega)]; go_simp
        replace x1_4 : w6.cell? ⟨w2.heap.size, 4, none⟩ = some (.int .i64 f) := by rw [hc _ _ (by omega)]; go_simp
        replace z1_4 : w6.frozen? ⟨w2.heap.size, 4, none⟩ = false := by rw [hf _ _ (by omega)]; go_simp
        replace l1 : w2.heap.size < w6.heap.size := by omega
        replace x2_0 : w6.cell? ⟨wr.heap.size, 0, none⟩ = some (.int .i64 m) := by rw [hc _ _ (by omega)]; go_simp
        replace x2_1 : w6.cell? ⟨wr.heap.size, 1, none⟩ = some (.int .i64 q0) := by rw [hc _ _ (by omega)]; go_simp
        replace x2_2 : w6.cell? ⟨wr.heap.size, 2, none⟩ = some (.int .i64 q1) := by rw [hc _ _ (by omega)]; go_simp
        replace x2_3 : w6.cell? ⟨wr.heap.size, 3, none⟩ = some (.int .i64 q2) := by rw [hc _ _ (by omega)]; go_simp
        replace x2_4 : w6.cell? ⟨wr.heap.size, 4, none⟩ = some (.int .i64 q3) := by rw [hc _ _ (by omega)]; go_simp
        replace x2_5 : w6.cell? ⟨wr.heap.size, 5, none⟩ = some (.int .i64 j) := by rw [hc _ _ (by omega)]; go_simp
        replace l2 : wr.heap.size < w6.heap.size := by omega
        replace x3_0 : w6.cell? ⟨w3.heap.size, 0, none⟩ = some (.int .i64 k0) := by rw [hc _ _ (by omega)]; go_simp
        replace x3_1 : w6.cell? ⟨w3.heap.size, 1, none⟩ = some (.int .i64 k1) := by rw [hc _ _ (by omega)]; go_simp
        replace x3_2 : w6.cell? ⟨w3.heap.size, 2, none⟩ = some (.int .i64 k2) := by rw [hc _ _ (by omega)]; go_simp
        replace x3_3 : w6.cell? ⟨w3.heap.size, 3, none⟩ = some (.int .i64 k3) := by rw [hc _ _ (by omega)]; go_simp
        replace l3 : w3.heap.size < w6.heap.size := by omega
        replace hg : w.heap.size ≤ w6.heap.size := by omega
        have P := Lib.hid (below_keeps B6.out HS.out (by omega)); clear HS; have HS := P; clear P
        replace lS : w.heap.size + 1 + 1 < w6.heap.size := by omega
        have P := Lib.hid (below_keeps B6.out HR.out (by omega)); clear HR; have HR := P; clear P
        replace lR : w2.heap.size < w6.heap.size := by omega
        clear hc hf
        go_wp2_with (fail)
        go_roundw
        case rel =>
          refine ⟨k + 1, n0, n1, n2, n3, g2, by omega, by go_num, NO.out, ?_, ?_, ?_⟩
          · repeat' (first | (with_reducible exact HS.out) | (with_reducible refine hp_set_ne ?_ hne _))
          · apply hp_as
            focus
              repeat' (with_reducible apply hp_set)
              exact HR.out
            rfl
          · exact (bl_set (bl_set (bl_set (bl_set (bl_set (bl_go (bl_mod (bl_go (bl_alloc (bl_go (bl_alloc BW.out _) B3.out (by omega)) _) B4.out (by omega)) B5.out (by omega)) B6.out (by omega)) (by omega) _) (by omega) _) (by omega) _) (by omega) _) (by omega) _)
        case measure => simp [intOf]; omega
      · by_cases c2 : m.tmod 3 = 2
        · skip
          have ca : (m.tmod 3 == 1) = false := by simp [c1]
          have cb : (m.tmod 3 == 2) = true := by simp [c2]
          clear c1 c2
          obtain ⟨n0, N0⟩ : ∃ n, Hid (n = if f = 0 then s0 else stepI s0 k0) := ⟨_, rfl⟩
          obtain ⟨n1, N1⟩ : ∃ n, Hid (n = if f = 1 then s1 else stepI s1 k1) := ⟨_, rfl⟩
          obtain ⟨n2, N2⟩ : ∃ n, Hid (n = if f = 2 then s2 else stepI s2 k2) := ⟨_, rfl⟩
          obtain ⟨n3, N3⟩ : ∃ n, Hid (n = if f = 3 then s3 else stepI s3 k3) := ⟨_, rfl⟩
          have NO := Lib.hid (okS_step HO.out k0 k1 k2 k3)
          rw [← N0.out, ← N1.out, ← N2.out, ← N3.out] at NO
          go_wp2_with (fail)
          refine (step_any _ _ _ _ _ _ _ _ _ _ _ HO.out HS.out).mono ?_
          rw [← N0.out, ← N1.out, ← N2.out, ← N3.out]
          rintro e w5 ⟨rfl, ho5, hb5⟩
          obtain ⟨hc, hf⟩ := mcell hb5
          have hs5 := hb5.size
          have B5 := Lib.hid hb5; clear hb5
          have O5 := Lib.hid ho5; clear ho5
          replace x1_0 : w5.cell? ⟨w2.heap.size, 0, none⟩ = some (.int .i64 s0) := by rw [hc _ _ (by omega) (by omega)]; go_simp
          replace z1_0 : w5.frozen? ⟨w2.heap.size, 0, none⟩ = false := by rw [hf _ _ (by omega) (by omega)]; go_simp
          replace x1_1 : w5.cell? ⟨w2.heap.size, 1, none⟩ = some (.int .i64 s1) := by rw [hc _ _ (by omega) (by omega)]; go_simp
          replace z1_1 : w5.frozen? ⟨w2.heap.size, 1, none⟩ = false := by rw [hf _ _ (by omega) (by omega)]; go_simp
          replace x1_2 : w5.cell? ⟨w2.heap.size, 2, none⟩ = some (.int .i64 s2) := by rw [hc _ _ (by omega) (by omega)]; go_simp
          replace z1_2 : w5.frozen? ⟨w2.heap.size, 2, none⟩ = false := by rw [hf _ _ (by omega) (by omega)]; go_simp
          replace x1_3 : w5.cell? ⟨w2.heap.size, 3, none⟩ = some (.int .i64 s3) := by rw [hc _ _ (by omega) (by omega)]; go_simp
          replace z1_3 : w5.frozen? ⟨w2.heap.size, 3, none⟩ = false := by rw [hf _ _ (by omega) (by omega)]; go_simp
          replace x1_4 : w5.cell? ⟨w2.heap.size, 4, none⟩ = some (.int .i64 f) := by rw [hc _ _ (by omega) (by omega)]; go_simp
          replace z1_4 : w5.frozen? ⟨w2.heap.size, 4, none⟩ = false := by rw [hf _ _ (by omega) (by omega)]; go_simp
          replace l1 : w2.heap.size < w5.heap.size := by omega
          replace x2_0 : w5.cell? ⟨wr.heap.size, 0, none⟩ = some (.int .i64 m) := by rw [hc _ _ (by omega) (by omega)]; go_simp
          replace x2_1 : w5.cell? ⟨wr.heap.size, 1, none⟩ = some (.int .i64 q0) := by rw [hc _ _ (by omega) (by omega)]; go_simp
          replace x2_2 : w5.cell? ⟨wr.heap.size, 2, none⟩ = some (.int .i64 q1) := by rw [hc _ _ (by omega) (by omega)]; go_simp
          replace x2_3 : w5.cell? ⟨wr.heap.size, 3, none⟩ = some (.int .i64 q2) := by rw [hc _ _ (by omega) (by omega)]; go_simp
          replace x2_4 : w5.cell? ⟨wr.heap.size, 4, none⟩ = some (.int .i64 q3) := by rw [hc _ _ (by omega) (by omega)]; go_simp
          replace x2_5 : w5.cell? ⟨wr.heap.size, 5, none⟩ = some (.int .i64 j) := by rw [hc _ _ (by omega) (by omega)]; go_simp
          replace l2 : wr.heap.size < w5.heap.size := by omega
          replace x3_0 : w5.cell? ⟨w3.heap.size, 0, none⟩ = some (.int .i64 k0) := by rw [hc _ _ (by omega) (by omega)]; go_simp
          replace x3_1 : w5.cell? ⟨w3.heap.size, 1, none⟩ = some (.int .i64 k1) := by rw [hc _ _ (by omega) (by omega)]; go_simp
          replace x3_2 : w5.cell? ⟨w3.heap.size, 2, none⟩ = some (.int .i64 k2) := by rw [hc _ _ (by omega) (by omega)]; go_simp
          replace x3_3 : w5.cell? ⟨w3.heap.size, 3, none⟩ = some (.int .i64 k3) := by rw [hc _ _ (by omega) (by omega)]; go_simp
          replace l3 : w3.heap.size < w5.heap.size := by omega
          replace hg : w.heap.size ≤ w5.heap.size := by omega
          have P := Lib.hid (B5.out.keeps HR.out (by omega)); clear HR; have HR := P; clear P
          replace lR : w2.heap.size < w5.heap.size := by omega
          clear HS; have HS := O5; clear O5
          replace lS : w.heap.size + 1 + 1 < w5.heap.size := by omega
          clear hc hf
          go_wp2_with (fail)
          refine (refstep_any _ _ _ _ _ _ _ _ _ _ HO.out).mono ?_
          rw [← N0.out, ← N1.out, ← N2.out, ← N3.out]
          rintro e w6 ⟨rfl, hb6⟩
          obtain ⟨hc, hf⟩ := bcell hb6
          have hs6 := hb6.size
          have B6 := Lib.hid hb6; clear hb6
          replace x1_0 : w6.cell? ⟨w2.heap.size, 0, none⟩ = some (.int .i64 s0) := by rw [hc _ _ (by omega)]; go_simp
          replace z1_0 : w6.frozen? ⟨w2.heap.size, 0, none⟩ = false := by rw [hf _ _ (by omega)]; go_simp
          replace x1_1 : w6.cell? ⟨w2.heap.size, 1, none⟩ = some (.int .i64 s1) := by rw [hc _ _ (by omega)]; go_simp
          replace z1_1 : w6.frozen? ⟨w2.heap.size, 1, none⟩ = false := by rw [hf _ _ (by omega)]; go_simp
          replace x1_2 : w6.cell? ⟨w2.heap.size, 2, none⟩ = some (.int .i64 s2) := by rw [hc _ _ (by omega)]; go_simp
          replace z1_2 : w6.frozen? ⟨w2.heap.size, 2, none⟩ = false := by rw [hf _ _ (by omega)]; go_simp
          replace x1_3 : w6.cell? ⟨w2.heap.size, 3, none⟩ = some (.int .i64 s3) := by rw [hc _ _ (by omega)]; go_simp
          replace z1_3 : w6.frozen? ⟨w2.heap.size, 3, none⟩ = false := by rw [hf _ _ (by omega)]; go_simp
          replace x1_4 : w6.cell? ⟨w2.heap.size, 4, none⟩ = some (.int .i64 f) := by rw [hc _ _ (by omega)]; go_simp
          replace z1_4 : w6.frozen? ⟨w2.heap.size, 4, none⟩ = false := by rw [hf _ _ (by omega)]; go_simp
          replace l1 : w2.heap.size < w6.heap.size := by omega
          replace x2_0 : w6.cell? ⟨wr.heap.size, 0, none⟩ = some (.int .i64 m) := by rw [hc _ _ (by omega)]; go_simp
          replace x2_1 : w6.cell? ⟨wr.heap.size, 1, none⟩ = some (.int .i64 q0) := by rw [hc _ _ (by omega)]; go_simp
          replace x2_2 : w6.cell? ⟨wr.heap.size, 2, none⟩ = some (.int .i64 q1) := by rw [hc _ _ (by omega)]; go_simp
          replace x2_3 : w6.cell? ⟨wr.heap.size, 3, none⟩ = some (.int .i64 q2) := by rw [hc _ _ (by omega)]; go_simp
          replace x2_4 : w6.cell? ⟨wr.heap.size, 4, none⟩ = some (.int .i64 q3) := by rw [hc _ _ (by omega)]; go_simp
          replace x2_5 : w6.cell? ⟨wr.heap.size, 5, none⟩ = some (.int .i64 j) := by rw [hc _ _ (by omega)]; go_simp
          replace l2 : wr.heap.size < w6.heap.size := by omega
          replace x3_0 : w6.cell? ⟨w3.heap.size, 0, none⟩ = some (.int .i64 k0) := by rw [hc _ _ (by omega)]; go_simp
          replace x3_1 : w6.cell? ⟨w3.heap.size, 1, none⟩ = some (.int .i64 k1) := by rw [hc _ _ (by omega)]; go_simp
          replace x3_2 : w6.cell? ⟨w3.heap.size, 2, none⟩ = some (.int .i64 k2) := by rw [hc _ _ (by omega)]; go_simp
          replace x3_3 : w6.cell? ⟨w3.heap.size, 3, none⟩ = some (.int .i64 k3) := by rw [hc _ _ (by omega)]; go_simp
          replace l3 : w3.heap.size < w6.heap.size := by omega
          replace hg : w.heap.size ≤ w6.heap.size := by omega
          have P := Lib.hid (below_keeps B6.out HS.out (by omega)); clear HS; have HS := P; clear P
          replace lS : w.heap.size + 1 + 1 < w6.heap.size := by omega
          have P := Lib.hid (below_keeps B6.out HR.out (by omega)); clear HR; have HR := P; clear P
          replace lR : w2.heap.size < w6.heap.size := by omega
          clear hc hf
          go_wp2_with (fail)
          go_roundw
          case rel =>
            refine ⟨k + 1, n0, n1, n2, n3, f, by omega, by go_num, NO.out, ?_, ?_, ?_⟩
            · repeat' (first | (with_reducible exact HS.out) | (with_reducible refine hp_set_ne ?_ hne _))
            · apply hp_as
              focus
                repeat' (with_reducible apply hp_set)
                exact HR.out
              rfl
            · exact (bl_set (bl_set (bl_set (bl_set (bl_set (bl_go (bl_mod (bl_go (bl_alloc (bl_go (bl_alloc BW.out _) B3.out (by omega)) _) B4.out (by omega)) B5.out (by omega)) B6.out (by omega)) (by omega) _) (by omega) _) (by omega) _) (by omega) _) (by omega) _)
          case measure => simp [intOf]; omega
        · skip
          have ca : (m.tmod 3 == 1) = false := by simp [c1]
          have cb : (m.tmod 3 == 2) = false := by simp [c2]
          clear c1 c2
          obtain ⟨n0, N0⟩ : ∃ n, Hid (n = if f = 0 then s0 else stepI s0 q0) := ⟨_, rfl⟩
          obtain ⟨n1, N1⟩ : ∃ n, Hid (n = if f = 1 then s1 else stepI s1 q1) := ⟨_, rfl⟩
          obtain ⟨n2, N2⟩ : ∃ n, Hid (n = if f = 2 then s2 else stepI s2 q2) := ⟨_, rfl⟩
          obtain ⟨n3, N3⟩ : ∃ n, Hid (n = if f = 3 then s3 else stepI s3 q3) := ⟨_, rfl⟩
          have NO := Lib.hid (okS_step HO.out q0 q1 q2 q3)
          rw [← N0.out, ← N1.out, ← N2.out, ← N3.out] at NO
          go_wp2_with (fail)
          refine (step_any _ _ _ _ _ _ _ _ _ _ _ HO.out HS.out).mono ?_
          rw [← N0.out, ← N1.out, ← N2.out, ← N3.out]
          rintro e w5 ⟨rfl, ho5, hb5⟩
          obtain ⟨hc, hf⟩ := mcell hb5
          have hs5 := hb5.size
          have B5 := Lib.hid hb5; clear hb5
          have O5 := Lib.hid ho5; clear ho5
          replace x1_0 : w5.cell? ⟨w2.heap.size, 0, none⟩ = some (.int .i64 s0) := by rw [hc _ _ (by omega) (by omega)]; go_simp
          replace z1_0 : w5.frozen? ⟨w2.heap.size, 0, none⟩ = false := by rw [hf _ _ (by omega) (by omega)]; go_simp
          replace x1_1 : w5.cell? ⟨w2.heap.size, 1, none⟩ = some (.int .i64 s1) := by rw [hc _ _ (by omega) (by omega)]; go_simp
          replace z1_1 : w5.frozen? ⟨w2.heap.size, 1, none⟩ = false := by rw [hf _ _ (by omega) (by omega)]; go_simp
          replace x1_2 : w5.cell? ⟨w2.heap.size, 2, none⟩ = some (.int .i64 s2) := by rw [hc _ _ (by omega) (by omega)]; go_simp
          replace z1_2 : w5.frozen? ⟨w2.heap.size, 2, none⟩ = false := by rw [hf _ _ (by omega) (by omega)]; go_simp
          replace x1_3 : w5.cell? ⟨w2.heap.size, 3, none⟩ = some (.int .i64 s3) := by rw [hc _ _ (by omega) (by omega)]; go_simp
          replace z1_3 : w5.frozen? ⟨w2.heap.size, 3, none⟩ = false := by rw [hf _ _ (by omega) (by omega)]; go_simp
          replace x1_4 : w5.cell? ⟨w2.heap.size, 4, none⟩ = some (.int .i64 f) := by rw [hc _ _ (by omega) (by omega)]; go_simp
          replace z1_4 : w5.frozen? ⟨w2.heap.size, 4, none⟩ = false := by rw [hf _ _ (by omega) (by omega)]; go_simp
          replace l1 : w2.heap.size < w5.heap.size := by omega
          replace x2_0 : w5.cell? ⟨wr.heap.size, 0, none⟩ = some (.int .i64 m) := by rw [hc _ _ (by omega) (by omega)]; go_simp
          replace x2_1 : w5.cell? ⟨wr.heap.size, 1, none⟩ = some (.int .i64 q0) := by rw [hc _ _ (by omega) (by omega)]; go_simp
          replace x2_2 : w5.cell? ⟨wr.heap.size, 2, none⟩ = some (.int .i64 q1) := by rw [hc _ _ (by omega) (by omega)]; go_simp
          replace x2_3 : w5.cell? ⟨wr.heap.size, 3, none⟩ = some (.int .i64 q2) := by rw [hc _ _ (by omega) (by omega)]; go_simp
          replace x2_4 : w5.cell? ⟨wr.heap.size, 4, none⟩ = some (.int .i64 q3) := by rw [hc _ _ (by omega) (by omega)]; go_simp
          replace x2_5 : w5.cell? ⟨wr.heap.size, 5, none⟩ = some (.int .i64 j) := by rw [hc _ _ (by omega) (by omega)]; go_simp
          replace l2 : wr.heap.size < w5.heap.size := by omega
          replace x3_0 : w5.cell? ⟨w3.heap.size, 0, none⟩ = some (.int .i64 k0) := by rw [hc _ _ (by omega) (by omega)]; go_simp
          replace x3_1 : w5.cell? ⟨w3.heap.size, 1, none⟩ = some (.int .i64 k1) := by rw [hc _ _ (by omega) (by omega)]; go_simp
          replace x3_2 : w5.cell? ⟨w3.heap.size, 2, none⟩ = some (.int .i64 k2) := by rw [hc _ _ (by omega) (by omega)]; go_simp
          replace x3_3 : w5.cell? ⟨w3.heap.size, 3, none⟩ = some (.int .i64 k3) := by rw [hc _ _ (by omega) (by omega)]; go_simp
          replace l3 : w3.heap.size < w5.heap.size := by omega
          replace hg : w.heap.size ≤ w5.heap.size := by omega
          have P := Lib.hid (B5.out.keeps HR.out (by omega)); clear HR; have HR := P; clear P
          replace lR : w2.heap.size < w5.heap.size := by omega
          clear HS; have HS := O5; clear O5
          replace lS : w.heap.size + 1 + 1 < w5.heap.size := by omega
          clear hc hf
          go_wp2_with (fail)
          refine (refstep_any _ _ _ _ _ _ _ _ _ _ HO.out).mono ?_
          rw [← N0.out, ← N1.out, ← N2.out, ← N3.out]
          rintro e w6 ⟨rfl, hb6⟩
          obtain ⟨hc, hf⟩ := bcell hb6
          have hs6 := hb6.size
          have B6 := Lib.hid hb6; clear hb6
          replace x1_0 : w6.cell? ⟨w2.heap.size, 0, none⟩ = some (.int .i64 s0) := by rw [hc _ _ (by omega)]; go_simp
          replace z1_0 : w6.frozen? ⟨w2.heap.size, 0, none⟩ = false := by rw [hf _ _ (by omega)]; go_simp
          replace x1_1 : w6.cell? ⟨w2.heap.size, 1, none⟩ = some (.int .i64 s1) := by rw [hc _ _ (by omega)]; go_simp
          replace z1_1 : w6.frozen? ⟨w2.heap.size, 1, none⟩ = false := by rw [hf _ _ (by omega)]; go_simp
          replace x1_2 : w6.cell? ⟨w2.heap.size, 2, none⟩ = some (.int .i64 s2) := by rw [hc _ _ (by omega)]; go_simp
          replace z1_2 : w6.frozen? ⟨w2.heap.size, 2, none⟩ = false := by rw [hf _ _ (by omega)]; go_simp
          replace x1_3 : w6.cell? ⟨w2.heap.size, 3, none⟩ = some (.int .i64 s3) := by rw [hc _ _ (by omega)]; go_simp
          replace z1_3 : w6.frozen? ⟨w2.heap.size, 3, none⟩ = false := by rw [hf _ _ (by omega)]; go_simp
          replace x1_4 : w6.cell? ⟨w2.heap.size, 4, none⟩ = some (.int .i64 f) := by rw [hc _ _ (by omega)]; go_simp
          replace z1_4 : w6.frozen? ⟨w2.heap.size, 4, none⟩ = false := by rw [hf _ _ (by omega)]; go_simp
          replace l1 : w2.heap.size < w6.heap.size := by omega
          replace x2_0 : w6.cell? ⟨wr.heap.size, 0, none⟩ = some (.int .i64 m) := by rw [hc _ _ (by omega)]; go_simp
          replace x2_1 : w6.cell? ⟨wr.heap.size, 1, none⟩ = some (.int .i64 q0) := by rw [hc _ _ (by omega)]; go_simp
          replace x2_2 : w6.cell? ⟨wr.heap.size, 2, none⟩ = some (.int .i64 q1) := by rw [hc _ _ (by omega)]; go_simp
          replace x2_3 : w6.cell? ⟨wr.heap.size, 3, none⟩ = some (.int .i64 q2) := by rw [hc _ _ (by omega)]; go_simp
          replace x2_4 : w6.cell? ⟨wr.heap.size, 4, none⟩ = some (.int .i64 q3) := by rw [hc _ _ (by omega)]; go_simp
          replace x2_5 : w6.cell? ⟨wr.heap.size, 5, none⟩ = some (.int .i64 j) := by rw [hc _ _ (by omega)]; go_simp
          replace l2 : wr.heap.size < w6.heap.size := by omega
          replace x3_0 : w6.cell? ⟨w3.heap.size, 0, none⟩ = some (.int .i64 k0) := by rw [hc _ _ (by omega)]; go_simp
          replace x3_1 : w6.cell? ⟨w3.heap.size, 1, none⟩ = some (.int .i64 k1) := by rw [hc _ _ (by omega)]; go_simp
          replace x3_2 : w6.cell? ⟨w3.heap.size, 2, none⟩ = some (.int .i64 k2) := by rw [hc _ _ (by omega)]; go_simp
          replace x3_3 : w6.cell? ⟨w3.heap.size, 3, none⟩ = some (.int .i64 k3) := by rw [hc _ _ (by omega)]; go_simp
          replace l3 : w3.heap.size < w6.heap.size := by omega
          replace hg : w.heap.size ≤ w6.heap.size := by omega
          have P := Lib.hid (below_keeps B6.out HS.out (by omega)); clear HS; have HS := P; clear P
          replace lS : w.heap.size + 1 + 1 < w6.heap.size := by omega
          have P := Lib.hid (below_keeps B6.out HR.out (by omega)); clear HR; have HR := P; clear P
          replace lR : w2.heap.size < w6.heap.size := by omega
          clear hc hf
          go_wp2_with (fail)
          go_roundw
          case rel =>
            refine ⟨k + 1, n0, n1, n2, n3, f, by omega, by go_num, NO.out, ?_, ?_, ?_⟩
            · repeat' (first | (with_reducible exact HS.out) | (with_reducible refine hp_set_ne ?_ hne _))
            · apply hp_as
              focus
                repeat' (with_reducible apply hp_set)
                exact HR.out
              rfl
            · exact (bl_set (bl_set (bl_set (bl_set (bl_set (bl_go (bl_mod (bl_go (bl_alloc (bl_go (bl_alloc BW.out _) B3.out (by omega)) _) B4.out (by omega)) B5.out (by omega)) B6.out (by omega)) (by omega) _) (by omega) _) (by omega) _) (by omega) _) (by omega) _)
          case measure => simp [intOf]; omega
    · have hkl : k = len := by omega
      subst hkl
      clear hlt hW
      have hkk : ¬ k < k := by omega
      go_wp2_with (fail)
      refine (same_any _ _ _ _ _ _ _ HO.out HS.out).mono ?_
      rintro e w3 ⟨rfl, hb3⟩
      obtain ⟨hc, hf⟩ := bcell hb3
      have hs3 := hb3.size
      have B3 := Lib.hid hb3; clear hb3
      replace x1_0 : w3.cell? ⟨w2.heap.size, 0, none⟩ = some (.int .i64 s0) := by rw [hc _ _ (by omega)]; go_simp
      replace z1_0 : w3.frozen? ⟨w2.heap.size, 0, none⟩ = false := by rw [hf _ _ (by omega)]; go_simp
      replace x1_1 : w3.cell? ⟨w2.heap.size, 1, none⟩ = some (.int .i64 s1) := by rw [hc _ _ (by omega)]; go_simp
      replace z1_1 : w3.frozen? ⟨w2.heap.size, 1, none⟩ = false := by rw [hf _ _ (by omega)]; go_simp
      replace x1_2 : w3.cell? ⟨w2.heap.size, 2, none⟩ = some (.int .i64 s2) := by rw [hc _ _ (by omega)]; go_simp
      replace z1_2 : w3.frozen? ⟨w2.heap.size, 2, none⟩ = false := by rw [hf _ _ (by omega)]; go_simp
      replace x1_3 : w3.cell? ⟨w2.heap.size, 3, none⟩ = some (.int .i64 s3) := by rw [hc _ _ (by omega)]; go_simp
      replace z1_3 : w3.frozen? ⟨w2.heap.size, 3, none⟩ = false := by rw [hf _ _ (by omega)]; go_simp
      replace x1_4 : w3.cell? ⟨w2.heap.size, 4, none⟩ = some (.int .i64 f) := by rw [hc _ _ (by omega)]; go_simp
      replace z1_4 : w3.frozen? ⟨w2.heap.size, 4, none⟩ = false := by rw [hf _ _ (by omega)]; go_simp
      replace l1 : w2.heap.size < w3.heap.size := by omega
      replace hg : w.heap.size ≤ w3.heap.size := by omega
      have P := Lib.hid (below_keeps B3.out HS.out (by omega)); clear HS; have HS := P; clear P
      replace lS : w.heap.size + 1 + 1 < w3.heap.size := by omega
      clear hc hf
      go_wp2_with (fail)
      refine (awake_any _).mono ?_
      rintro e w4 ⟨rfl, hb4⟩
      obtain ⟨hc, hf⟩ := bcell hb4
      have hs4 := hb4.size
      have B4 := Lib.hid hb4; clear hb4
      replace hg : w.heap.size ≤ w4.heap.size := by omega
      have P := Lib.hid (below_keeps B4.out HS.out (by omega)); clear HS; have HS := P; clear P
      replace lS : w.heap.size + 1 + 1 < w4.heap.size := by omega
      clear hc hf
      go_wp2_with (fail)
      go_ret
      exact ⟨rfl, (bl_go (bl_go BW.out B3.out (by omega)) B4.out (by omega))⟩

def SlLen (v : Value) (n : Nat) : Prop := ∃ a c, v = .slice a n c
set_option maxHeartbeats 1600000 in
theorem plays_long (a0 a1 a2 a3 g : Int) (w : World) (a : Option Addr) (n c : Nat) (h : 60 < n) (hn : n ≤ 9223372036854775807) :
    Calls Try.prog 7 #[.agg #[.int .i64 a0, .int .i64 a1, .int .i64 a2, .int .i64 a3], .int .i64 g, .slice a n c] w fun e w' => e = .returned (.bool true) ∧ Below w.heap.size w w' := by
  have h' : (60 : Int) < (n : Int) := by omega
  go_enter Try.func7, Try.ntmps7
  go_wp2_with (fail)
  refine (awake_any _).mono ?_
  rintro e w1 ⟨rfl, hb1⟩
  go_wp2_with (fail)
  go_ret
  exact ⟨rfl, bl_step (bl_alloc (Below.refl _ _) _) hb1⟩
set_option maxHeartbeats 1600000 in
theorem plays_bad (a0 a1 a2 a3 g : Int) (w : World) (a : Option Addr) (n c : Nat) (h : n ≤ 60) (ok : ¬ okS a0 a1 a2 a3 g) :
    Calls Try.prog 7 #[.agg #[.int .i64 a0, .int .i64 a1, .int .i64 a2, .int .i64 a3], .int .i64 g, .slice a n c] w fun e w' => e = .returned (.bool true) ∧ Below w.heap.size w w' := by
  have HO := Lib.hid ok
  have RN : refNewV a0 a1 a2 a3 g = .tuple #[.agg #[.int .i64 0, .int .i64 0, .int .i64 0, .int .i64 0, .int .i64 0], .int .i64 2] := by unfold refNewV; rw [if_neg ok]
  have HN := Lib.hid RN; clear RN ok
  have h60' : decide ((60 : Int) < (n : Int)) = false := by simp; omega
  go_enter Try.func7, Try.ntmps7
  go_wp2_with (fail)
  go_wp2_with (fail)
  refine (new_bad HO.out _).mono ?_
  rintro e w1 ⟨rfl, hb1⟩
  obtain ⟨hc, hf⟩ := bcell hb1
  have hs1 := hb1.size
  try simp only [World.size_alloc] at hs1 hc hf hb1
  have B1 := Lib.hid hb1; clear hb1
  have x1_0 : w1.cell? ⟨w.heap.size, 0, none⟩ = some (.int .i64 a0) := by rw [hc _ _ (by omega)]; go_simp
  have x1_1 : w1.cell? ⟨w.heap.size, 1, none⟩ = some (.int .i64 a1) := by rw [hc _ _ (by omega)]; go_simp
  have x1_2 : w1.cell? ⟨w.heap.size, 2, none⟩ = some (.int .i64 a2) := by rw [hc _ _ (by omega)]; go_simp
  have x1_3 : w1.cell? ⟨w.heap.size, 3, none⟩ = some (.int .i64 a3) := by rw [hc _ _ (by omega)]; go_simp
  have l1 : w.heap.size < w1.heap.size := by omega
  have hg : w.heap.size ≤ w1.heap.size := by omega
  clear hc hf
  go_wp2_with (fail)
  refine (refnew_any _ _ _ _ _ _).mono ?_
  rw [HN.out]
  rintro e w2 ⟨rfl, hb2⟩
  obtain ⟨hc, hf⟩ := bcell hb2
  have hs2 := hb2.size
  have B2 := Lib.hid hb2; clear hb2
  replace x1_0 : w2.cell? ⟨w.heap.size, 0, none⟩ = some (.int .i64 a0) := by rw [hc _ _ (by omega)]; go_simp
  replace x1_1 : w2.cell? ⟨w.heap.size, 1, none⟩ = some (.int .i64 a1) := by rw [hc _ _ (by omega)]; go_simp
  replace x1_2 : w2.cell? ⟨w.heap.size, 2, none⟩ = some (.int .i64 a2) := by rw [hc _ _ (by omega)]; go_simp
  replace x1_3 : w2.cell? ⟨w.heap.size, 3, none⟩ = some (.int .i64 a3) := by rw [hc _ _ (by omega)]; go_simp
  replace l1 : w.heap.size < w2.heap.size := by omega
  replace hg : w.heap.size ≤ w2.heap.size := by omega
  clear hc hf
  go_wp2_with (fail)
  refine (awake_any _).mono ?_
  rintro e w3 ⟨rfl, hb3⟩
  obtain ⟨hc, hf⟩ := bcell hb3
  have hs3 := hb3.size
  try simp only [World.size_alloc] at hs3 hc hf hb3
  have B3 := Lib.hid hb3; clear hb3
  replace hg : w.heap.size ≤ w3.heap.size := by omega
  clear hc hf
  go_wp2_with (fail)
  go_ret
  exact ⟨rfl, (bl_go (bl_alloc (bl_go (bl_go (bl_alloc (Below.refl _ _) _) B1.out (by omega)) B2.out (by omega)) _) B3.out (by omega))⟩
set_option maxHeartbeats 1600000 in
theorem plays_none (a0 a1 a2 a3 g : Int) (w : World) (a : Option Addr) (ok : okS a0 a1 a2 a3 g) :
    Calls Try.prog 7 #[.agg #[.int .i64 a0, .int .i64 a1, .int .i64 a2, .int .i64 a3], .int .i64 g, .slice a 0 0] w fun e w' => e = .returned (.bool true) ∧ Below w.heap.size w w' := by
  have HO := Lib.hid ok
  have RN : refNewV a0 a1 a2 a3 g = .tuple #[.agg #[.int .i64 a0, .int .i64 a1, .int .i64 a2, .int .i64 a3, .int .i64 g], .int .i64 0] := by unfold refNewV; rw [if_pos ok]
  have HN := Lib.hid RN; clear RN ok
  go_enter Try.func7, Try.ntmps7
  go_wp2_with (fail)
  go_wp2_with (fail)
  refine (new_ok HO.out _).mono ?_
  rintro e w1 ⟨rfl, ho1, hz1, hb1⟩
  obtain ⟨hc, hf⟩ := bcell hb1
  have hs1 := hb1.size
  try simp only [World.size_alloc] at hs1 hc hf hb1 ho1 hz1
  have B1 := Lib.hid hb1; clear hb1
  have O1 := Lib.hid ho1; clear ho1
  have x1_0 : w1.cell? ⟨w.heap.size, 0, none⟩ = some (.int .i64 a0) := by rw [hc _ _ (by omega)]; go_simp
  have x1_1 : w1.cell? ⟨w.heap.size, 1, none⟩ = some (.int .i64 a1) := by rw [hc _ _ (by omega)]; go_simp
  have x1_2 : w1.cell? ⟨w.heap.size, 2, none⟩ = some (.int .i64 a2) := by rw [hc _ _ (by omega)]; go_simp
  have x1_3 : w1.cell? ⟨w.heap.size, 3, none⟩ = some (.int .i64 a3) := by rw [hc _ _ (by omega)]; go_simp
  have l1 : w.heap.size < w1.heap.size := by omega
  have hg : w.heap.size ≤ w1.heap.size := by omega
  have HS := O1; clear O1
  have lS : w.heap.size + 1 + 1 < w1.heap.size := by omega
  have bS : w.heap.size ≤ w.heap.size + 1 + 1 := by omega
  clear hc hf
  go_wp2_with (fail)
  refine (refnew_any _ _ _ _ _ _).mono ?_
  rw [HN.out]
  rintro e w2 ⟨rfl, hb2⟩
  obtain ⟨hc, hf⟩ := bcell hb2
  have hs2 := hb2.size
  have B2 := Lib.hid hb2; clear hb2
  replace x1_0 : w2.cell? ⟨w.heap.size, 0, none⟩ = some (.int .i64 a0) := by rw [hc _ _ (by omega)]; go_simp
  replace x1_1 : w2.cell? ⟨w.heap.size, 1, none⟩ = some (.int .i64 a1) := by rw [hc _ _ (by omega)]; go_simp
  replace x1_2 : w2.cell? ⟨w.heap.size, 2, none⟩ = some (.int .i64 a2) := by rw [hc _ _ (by omega)]; go_simp
  replace x1_3 : w2.cell? ⟨w.heap.size, 3, none⟩ = some (.int .i64 a3) := by rw [hc _ _ (by omega)]; go_simp
  replace l1 : w.heap.size < w2.heap.size := by omega
  replace hg : w.heap.size ≤ w2.heap.size := by omega
  have P := Lib.hid (below_keeps B2.out HS.out (by omega)); clear HS; have HS := P; clear P
  replace lS : w.heap.size + 1 + 1 < w2.heap.size := by omega
  clear hc hf
  go_wp2_with (fail)
  refine wp_loop_rounds 1 ?_
  rw [rounds_succ]
  go_wp2_with (fail)
  refine (same_any _ _ _ _ _ _ _ HO.out (hp_old HS.out _)).mono ?_
  rintro e w3 ⟨rfl, hb3⟩
  obtain ⟨hc, hf⟩ := bcell hb3
  have hs3 := hb3.size
  try simp only [World.size_alloc] at hs3 hc hf hb3
  have B3 := Lib.hid hb3; clear hb3
  have x2_0 : w3.cell? ⟨w2.heap.size, 0, none⟩ = some (.int .i64 a0) := by rw [hc _ _ (by omega)]; go_simp
  have z2_0 : w3.frozen? ⟨w2.heap.size, 0, none⟩ = false := by rw [hf _ _ (by omega)]; go_simp
  have x2_1 : w3.cell? ⟨w2.heap.size, 1, none⟩ = some (.int .i64 a1) := by rw [hc _ _ (by omega)]; go_simp
  have z2_1 : w3.frozen? ⟨w2.heap.size, 1, none⟩ = false := by rw [hf _ _ (by omega)]; go_simp
  have x2_2 : w3.cell? ⟨w2.heap.size, 2, none⟩ = some (.int .i64 a2) := by rw [hc _ _ (by omega)]; go_simp
  have z2_2 : w3.frozen? ⟨w2.heap.size, 2, none⟩ = false := by rw [hf _ _ (by omega)]; go_simp
  have x2_3 : w3.cell? ⟨w2.heap.size, 3, none⟩ = some (.int .i64 a3) := by rw [hc _ _ (by omega)]; go_simp
  have z2_3 : w3.frozen? ⟨w2.heap.size, 3, none⟩ = false := by rw [hf _ _ (by omega)]; go_simp
  have x2_4 : w3.cell? ⟨w2.heap.size, 4, none⟩ = some (.int .i64 g) := by rw [hc _ _ (by omega)]; go_simp
  have z2_4 : w3.frozen? ⟨w2.heap.size, 4, none⟩ = false := by rw [hf _ _ (by omega)]; go_simp
  have l2 : w2.heap.size < w3.heap.size := by omega
  replace hg : w.heap.size ≤ w3.heap.size := by omega
  have P := Lib.hid (below_keeps B3.out (hp_old HS.out _) (by omega)); clear HS; have HS := P; clear P
  replace lS : w.heap.size + 1 + 1 < w3.heap.size := by omega
  clear hc hf
  go_wp2_with (fail)
  refine (awake_any _).mono ?_
  rintro e w4 ⟨rfl, hb4⟩
  obtain ⟨hc, hf⟩ := bcell hb4
  have hs4 := hb4.size
  have B4 := Lib.hid hb4; clear hb4
  replace hg : w.heap.size ≤ w4.heap.size := by omega
  have P := Lib.hid (below_keeps B4.out HS.out (by omega)); clear HS; have HS := P; clear P
  replace lS : w.heap.size + 1 + 1 < w4.heap.size := by omega
  clear hc hf
  go_wp2_with (fail)
  go_ret
  exact ⟨rfl, (bl_go (bl_go (bl_alloc (bl_go (bl_go (bl_alloc (Below.refl _ _) _) B1.out (by omega)) B2.out (by omega)) _) B3.out (by omega)) B4.out (by omega))⟩
theorem WheelsPlays_walk (a0_0 : Int) (a0_1 : Int) (a0_2 : Int) (a0_3 : Int) (a1 : Int) (a2 : Value) (w : World) (w0_0 : (Lit.int .i64 a0_0).wf = true) (w0_1 : (Lit.int .i64 a0_1).wf = true) (w0_2 : (Lit.int .i64 a0_2).wf = true) (w0_3 : (Lit.int .i64 a0_3).wf = true) (w1 : (Lit.int .i64 a1).wf = true) (w2 : Kit.SlIn [.inl .i64, .inl .i64, .inl .i64, .inl .i64, .inl .i64, .inl .i64] w a2) :
    Calls Try.prog 7 #[.agg #[.int .i64 a0_0, .int .i64 a0_1, .int .i64 a0_2, .int .i64 a0_3], .int .i64 a1, a2] w fun e w' => e = .returned (.bool true) ∧ Below w.heap.size w w' := by
  by_cases ok : okS a0_0 a0_1 a0_2 a0_3 a1
  · rcases w2 with rfl | ⟨a, rfl⟩ | ⟨b, off, len, cap, C, rfl, _, hlc, hm, hb, hC, hcell⟩
    · exact plays_none _ _ _ _ _ _ _ ok
    · exact plays_none _ _ _ _ _ _ _ ok
    · by_cases h : 60 < len
      · exact plays_long _ _ _ _ _ _ _ _ _ h (by unfold maxLen at hm; omega)
      · exact plays_some _ _ _ _ _ _ b off len cap C ok (by omega) hlc hb hC hcell
  · rcases w2 with rfl | ⟨a, rfl⟩ | ⟨b, off, len, cap, C, rfl, _, hlc, hm, hb, hC, hcell⟩
    · exact plays_bad _ _ _ _ _ _ _ _ _ (by omega) ok
    · exact plays_bad _ _ _ _ _ _ _ _ _ (by omega) ok
    · by_cases h : 60 < len
      · exact plays_long _ _ _ _ _ _ _ _ _ h (by unfold maxLen at hm; omega)
      · exact plays_bad _ _ _ _ _ _ _ _ _ (by omega) ok
end Go.Proofs.Ytcmmjikkoebboaa

