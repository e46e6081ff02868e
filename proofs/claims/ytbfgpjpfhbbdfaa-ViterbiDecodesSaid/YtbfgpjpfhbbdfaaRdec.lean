/-
  The walk of the specification's Decode at soft values in the right number. Conditions: those, and at most 20 000 values.
-/
import Derived.Test.YtbfgpjpfhbbdfaaRreg
import Derived.BigRegion
import Derived.BigQuiet
import Derived.OwnWalk
namespace Go.Proofs.Ytbfgpjpfhbbdfaa
open Go.RowKit Kit
set_option linter.unusedVariables false
set_option maxRecDepth 100000 in
set_option maxHeartbeats 1600000 in
theorem refdec_ok (X : List Int) (a : Option Addr) (n c k : Nat) (w : World) (hX : NS w a n c X) (hk : k ≤ 1100) (hn : n = 16 * k + 12) (hs : softL X = true) (vv : Int) (M : Nat) (hP : P X (8 * k) (8 * k + 6) 0 = some (vv, M)) :
    Calls Try.prog 12 #[.slice a n c, .int .i64 k] w fun e w' => e = .returned (.tuple #[.string (msg k M), .int .i64 vv, .int .i64 0]) ∧ Below w.heap.size w w' := by
  have HPP := Lib.hid hP
  clear hP
  have SY := Lib.hid (refsymbols_any k)
  have SA := Lib.hid (fun W (h : NS W a n c X) => rsoft_any X a n c W h)
  rw [hs] at SA
  have HX := Lib.hid hX
  have e0 : symN k = (n : Int) := by unfold symN; rw [if_pos (by omega)]; omega
  rw [e0] at SY
  have g0 : ¬ (k : Int) < 0 := by omega
  have g1 : ¬ (1100 : Int) < (k : Int) := by omega
  have g2 : ((n : Int) != (n : Int)) = false := by simp
  have HN := Lib.hid hn
  have D0 := Lib.hid (PD.new w w 0 (Below.refl _ _))
  have mk := make65 w
  obtain ⟨w1, hw1⟩ : ∃ w1, w.alloc (.cells (pRow 0 fun _ => none) 67) = w1 := ⟨_, rfl⟩
  obtain ⟨g, hg⟩ : ∃ g, w.heap.size = g := ⟨_, rfl⟩
  rw [hw1] at D0 mk
  rw [hg] at D0 mk
  have f0 : ∀ i, w1.frozen? ⟨g, i, none⟩ = false := fun i => free_of D0.out.row
  obtain ⟨c0, c1, c2⟩ := D0.out.cell 0 (by omega)
  simp only [Nat.zero_mul, Nat.zero_add] at c0 c1 c2
  have D1 : Hid (PD w g 0 (P X (8 * k) 0) _) := Lib.hid D0.out.first
  have MK := Lib.hid make65
  clear e0 hn hX hw1 hg D0
  go_enter Try.func12, Try.ntmps12
  go_wp2_with (fail)
  refine (SY.out _).mono ?_
  rintro e _ ⟨rfl, rfl⟩
  go_wp2_with (fail)
  refine (SA.out _ HX.out).mono ?_
  rintro e _ ⟨rfl, rfl⟩
  go_wp2_with (fail)
  generalize ((w1.setCell ⟨g, 0, none⟩ (.bool true)).setCell ⟨g, 1, none⟩ (.int .i64 0)).setCell ⟨g, 2, none⟩ (.string ⟨#[]⟩) = w2 at D1 ⊢
  obtain ⟨N, hN⟩ : ∃ N, N = 8 * k + 6 := ⟨_, rfl⟩
  have HNN := Lib.hid hN
  have hN9 : N ≤ 9000 := by omega
  clear f0 c0 c1 c2 mk SY SA g2 hN
  go_loopw [7, 8] (fun b i wr => ∃ m g : Nat, m ≤ N ∧ b = .slice (some ⟨g, 0, none⟩) 64 64 ∧ i = .int .i64 m ∧ PD w g m (P X (8 * k) m) wr) (fun _ i _ => N - (intOf i).toNat)
  case atStart => exact ⟨0, g, by omega, rfl, rfl, D1.out⟩
  case round =>
    clear D1
    obtain ⟨m, g, hm, rfl, rfl, hD⟩ := hrel
    by_cases hlt : m < N
    · have dm : decide ((m : Int) < 8 * (k : Int) + 6) = true := by have := HNN.out; simp; omega
      have D0 := Lib.hid (PD.new w wr (m + 1) hD.below)
      have DA := Lib.hid (hD.alloc (.cells (pRow 0 fun _ => none) 67))
      have hgh : g < wr.heap.size := lt_of_obj hD.row
      have mk := MK.out wr
      clear hD
      obtain ⟨w3, hw3⟩ : ∃ w3, wr.alloc (.cells (pRow 0 fun _ => none) 67) = w3 := ⟨_, rfl⟩
      obtain ⟨h, hh⟩ : ∃ h, wr.heap.size = h := ⟨_, rfl⟩
      rw [hw3] at D0 DA mk
      rw [hh] at D0 mk hgh
      have DB : Hid (PD w h (m + 1) (Nx X (8 * k) m (2 * 0)) w3) := Lib.hid (D0.out.congr fun t ht => (Nx_zero X (8 * k) m t).symm)
      clear hw3 hh D0
      go_wp2_with (fail)
      go_loopw [10] (fun i wr => ∃ s : Nat, s ≤ 64 ∧ i = .int .i64 s ∧ PD w g m (P X (8 * k) m) wr ∧ PD w h (m + 1) (Nx X (8 * k) m (2 * s)) wr) (fun i _ => 64 - (intOf i).toNat)
      case atStart => exact ⟨0, by omega, rfl, DA.out, DB.out⟩
      case round =>
        clear DA DB mk
        obtain ⟨s, hs64, rfl, hA, hB⟩ := hrel
        have HA := Lib.hid hA; have HB := Lib.hid hB
        clear hA hB
        by_cases hls : s < 64
        · have ds : decide ((s : Int) < 64) = true := by simp; omega
          go_wp2_with (fail)
          go_loopw [11] (fun i wr => ∃ t : Nat, t ≤ 2 ∧ i = .int .i64 t ∧ PD w g m (P X (8 * k) m) wr ∧ PD w h (m + 1) (Nx X (8 * k) m (2 * s + t)) wr) (fun i _ => 2 - (intOf i).toNat)
          case atStart => exact ⟨0, by omega, rfl, HA.out, HB.out⟩
          case round =>
            clear HA HB
            obtain ⟨t, ht, rfl, hA, hB⟩ := hrel
            have HA := Lib.hid hA; have HB := Lib.hid hB
            have hs1 : g < wr.heap.size := lt_of_obj hA.row
            have hs2 : h < wr.heap.size := lt_of_obj hB.row
            by_cases ht2 : t < 2
            · have dt : decide ((t : Int) < 2) = true := by simp; omega
              obtain ⟨a0, a1, a2⟩ := hA.cell s hls
              clear hA hB
              cases hp : P X (8 * k) m s with
              | none =>
                rw [hp] at a0
                have a0' : wr.cell? ⟨g, s * 3, none⟩ = some (.bool false) := a0
                have HC := Lib.hid hp
                clear a0 a1 a2 hp
                go_wp2_with (fail)
                exact ⟨⟨s + 1, by omega, by go_num, HA.out, HB.out.congr (Nx_none hls ht HC.out)⟩, by simp [intOf]; omega⟩
              | some cc =>
                obtain ⟨c1, c2⟩ := cc
                rw [hp] at a0 a1 a2
                have a0' : wr.cell? ⟨g, s * 3, none⟩ = some (.bool true) := a0
                have a1' : wr.cell? ⟨g, s * 3 + 1, none⟩ = some (.int .i64 c1) := a1
                have a2' : wr.cell? ⟨g, s * 3 + 2, none⟩ = some (.string (bstr m c2)) := a2
                have HC := Lib.hid hp
                clear a0 a1 a2 hp
                by_cases hT : 8 * k ≤ m ∧ t = 1
                · obtain ⟨hT, rfl⟩ := hT
                  have d8 : decide (8 * (k : Int) ≤ (m : Int)) = true := by simp; omega
                  go_wp2_with (fail)
                  exact ⟨⟨2, by omega, rfl, HA.out, HB.out.congr (Nx_over hls hT)⟩, by simp [intOf]⟩
                · have HT : Hid (¬ (8 * k ≤ m ∧ t = 1)) := Lib.hid hT
                  have RS := Lib.hid (refstep_in s t hls ht2)
                  have hun1 : 2 * m + 1 < n := by rw [HN.out]; have := HNN.out; omega
                  have HUN := Lib.hid hun1
                  obtain ⟨b, off, rfl, hbl, lv0⟩ := HX.out.2.2.2 (2 * m) (by omega)
                  obtain ⟨b', off', hb', _, lv1⟩ := HX.out.2.2.2 (2 * m + 1) hun1
                  simp only [Option.some.injEq, Addr.mk.injEq, and_true] at hb'
                  obtain ⟨rfl, rfl⟩ := hb'
                  have HBL : Hid (b < wr.heap.size) := Lib.hid (Nat.lt_of_lt_of_le hbl HA.out.below.size)
                  have bv0 := soft_at hs (i := 2 * m) (by rw [← HX.out.1]; omega)
                  have bv1 := soft_at hs (i := 2 * m + 1) (by rw [← HX.out.1]; exact hun1)
                  have LW0 := Lib.hid ((HA.out.below.cell (p := ⟨b, off + 2 * m, none⟩) hbl).trans lv0)
                  have LW1 := Lib.hid ((HA.out.below.cell (p := ⟨b, off + (2 * m + 1), none⟩) hbl).trans lv1)
                  have BC := P_bound hs (8 * k) m s (c1, c2) (by rw [← HX.out.1, HN.out]; have := HNN.out; omega) HC.out
                  simp only at BC
                  have f2 := o1_lt s t
                  have g2 := o2_lt s t
                  have hto : nx s t < 64 := by unfold nx; omega
                  have HS0 : Hid (c1 + (o1 s t : Int) * pv X (2 * m) + (o2 s t : Int) * pv X (2 * m + 1) = c1 + eW X m s t) := Lib.hid (by unfold eW; rw [Int.add_assoc])
                  generalize pv X (2 * m) = v0 at LW0 bv0 HS0
                  generalize pv X (2 * m + 1) = v1 at LW1 bv1 HS0
                  have WW := Lib.hid (wraps2 c1 v0 v1 (o1 s t) (o2 s t) m (by omega) f2 g2 bv0 bv1 BC.1 BC.2)
                  obtain ⟨z, hz⟩ : ∃ z, nx s t = z := ⟨_, rfl⟩
                  rw [hz] at RS hto
                  have HZ := Lib.hid hz.symm
                  clear hz
                  generalize o1 s t = f at WW RS HS0
                  generalize o2 s t = q at WW RS HS0
                  obtain ⟨S, hS⟩ : ∃ S, S = c1 + (f : Int) * v0 + (q : Int) * v1 := ⟨_, rfl⟩
                  have HS : Hid (S = c1 + eW X m s t) := Lib.hid (hS.trans HS0.out)
                  have W4 : Hid (IntKind.i64.wrap (c1 + (f : Int) * v0 + (q : Int) * v1) = S) := Lib.hid (WW.out.2.2.2.trans hS.symm)
                  clear hS HS0
                  obtain ⟨Bn, hBn⟩ : ∃ Bn, Bn = bstr (m + 1) (2 * c2 + t) := ⟨_, rfl⟩
                  have HBN := Lib.hid hBn
                  have A1 := Lib.hid a1'
                  have A2 := Lib.hid a2'
                  have hd8 : (8 * k ≤ m ∧ t ≠ 1) ∨ m < 8 * k := by omega
                  clear lv0 lv1 hT bv0 bv1 f2 g2 BC hun1 hbl hBn a1' a2'
                  rcases hd8 with ⟨hT, ht1⟩ | hT
                  · have d8 : decide (8 * (k : Int) ≤ (m : Int)) = true := by simp; omega
                    have dt1 : ((t : Int) == 1) = false := by simp; omega
                    have dt1' : (t == 1) = false := by simpa using ht1
                    have dt1'' : decide ((t : Int) = 1) = false := by simp; omega
                    clear hT ht1
                    go_wp2_with (fail)
                    refine (RS.out _).mono ?_
                    rintro e _ ⟨rfl, rfl⟩
                    go_wp2_with (fail)
                    refine r17 hls ht2 (by omega) HUN.out (lt_of_obj HA.out.row) HBL.out A1.out A2.out LW0.out LW1.out WW.out.1 WW.out.2.1 WW.out.2.2.1 W4.out HBN.out HA HB ?_
                    intro pp x76 x77 x78 x79 x80 x81 x82 x83 x84 x85 x86 x87 x88 x89 x90 x91 x92 x93 x94 x95 x96 x97 x98 x99 x100 x101 x102 x103 x104 x105 x106 x107 x108 wx hPW
                    have HPW := Lib.hid hPW
                    clear hPW HA HB
                    go_wp2_with (fail)
                    obtain ⟨tk, htk⟩ : ∃ tk, tk = tkB (Nx X (8 * k) m (2 * s + t) z) S (2 * c2 + t) := ⟨_, rfl⟩
                    have TS := Lib.hid (two_small hls ht2 HC.out)
                    have ES : Hid (∀ e, Nx X (8 * k) m (2 * s + t) z = some e → e.2 < 2 ^ (m + 1)) := Lib.hid (fun e he => Nx_small hto he)
                    have HTK := Lib.hid htk.symm
                    clear htk
                    refine r18 hto HPW HBN.out TS.out ES.out tk HTK.out.symm ?_
                    intro nq x109 x110 x111 x112 x113 x114 x115 x116 x117 x118 x119 x120 x121 x122 x123 x124 x125 x126 x127 x128 x129 x130 x131 x132 x133 x134 x135 x136 x137 x138 x139 x140 x141 x142 x143
                    obtain ⟨wy, hwy⟩ : ∃ wy, wx.drewN nq = wy := ⟨_, rfl⟩
                    have PY := Lib.hid (HPW.out.drewN nq)
                    rw [hwy] at PY ⊢
                    clear hwy HPW
                    cases tk with
                    | true =>
                      have NP := Lib.hid (nx_put hls ht2 HC.out HT.out HZ.out HS.out (tk_put HTK.out))
                      have p0 : wy.cell? ⟨pp, 0, none⟩ = some (.bool true) := cell_of PY.out.p rfl
                      have p1 : wy.cell? ⟨pp, 1, none⟩ = some (.int .i64 S) := cell_of PY.out.p rfl
                      have p2 : wy.cell? ⟨pp, 2, none⟩ = some (.string Bn) := cell_of PY.out.p rfl
                      have hpp : pp < wy.heap.size := lt_of_obj PY.out.p
                      have hhq : h < wy.heap.size := lt_of_obj PY.out.b.row
                      obtain ⟨m0, m1, m2⟩ := PY.out.b.cell z hto
                      generalize pT (Nx X (8 * k) m (2 * s + t) z) = y0 at m0
                      generalize pS (Nx X (8 * k) m (2 * s + t) z) = y1 at m1
                      generalize pB (m + 1) (Nx X (8 * k) m (2 * s + t) z) = y2 at m2
                      have fz : ∀ i, wy.frozen? ⟨h, i, none⟩ = false := fun i => free_of PY.out.b.row
                      go_wp2_with (fail)
                      have S3 := (PY.out.b.set3 hto (S, 2 * c2 + t)).congr NP.out
                      simp only at S3
                      rw [← HBN.out] at S3
                      exact ⟨⟨t + 1, by omega, by go_num, PY.out.a.other3 (by omega) PY.out.b.ge _ _ _, S3⟩, by simp [intOf]; omega⟩
                    | false =>
                      have NP := Lib.hid (nx_keep hls ht2 HC.out HT.out HZ.out HS.out (tk_keep HTK.out))
                      go_wp2_with (fail)
                      exact ⟨⟨t + 1, by omega, by go_num, PY.out.a, PY.out.b.congr NP.out⟩, by simp [intOf]; omega⟩
                  · have d8 : decide (8 * (k : Int) ≤ (m : Int)) = false := by simp; omega
                    clear hT
                    go_wp2_with (fail)
                    refine (RS.out _).mono ?_
                    rintro e _ ⟨rfl, rfl⟩
                    go_wp2_with (fail)
                    refine r17 hls ht2 (by omega) HUN.out (lt_of_obj HA.out.row) HBL.out A1.out A2.out LW0.out LW1.out WW.out.1 WW.out.2.1 WW.out.2.2.1 W4.out HBN.out HA HB ?_
                    intro pp x76 x77 x78 x79 x80 x81 x82 x83 x84 x85 x86 x87 x88 x89 x90 x91 x92 x93 x94 x95 x96 x97 x98 x99 x100 x101 x102 x103 x104 x105 x106 x107 x108 wx hPW
                    have HPW := Lib.hid hPW
                    clear hPW HA HB
                    go_wp2_with (fail)
                    obtain ⟨tk, htk⟩ : ∃ tk, tk = tkB (Nx X (8 * k) m (2 * s + t) z) S (2 * c2 + t) := ⟨_, rfl⟩
                    have TS := Lib.hid (two_small hls ht2 HC.out)
                    have ES : Hid (∀ e, Nx X (8 * k) m (2 * s + t) z = some e → e.2 < 2 ^ (m + 1)) := Lib.hid (fun e he => Nx_small hto he)
                    have HTK := Lib.hid htk.symm
                    clear htk
                    refine r18 hto HPW HBN.out TS.out ES.out tk HTK.out.symm ?_
                    intro nq x109 x110 x111 x112 x113 x114 x115 x116 x117 x118 x119 x120 x121 x122 x123 x124 x125 x126 x127 x128 x129 x130 x131 x132 x133 x134 x135 x136 x137 x138 x139 x140 x141 x142 x143
                    obtain ⟨wy, hwy⟩ : ∃ wy, wx.drewN nq = wy := ⟨_, rfl⟩
                    have PY := Lib.hid (HPW.out.drewN nq)
                    rw [hwy] at PY ⊢
                    clear hwy HPW
                    cases tk with
                    | true =>
                      have NP := Lib.hid (nx_put hls ht2 HC.out HT.out HZ.out HS.out (tk_put HTK.out))
                      have p0 : wy.cell? ⟨pp, 0, none⟩ = some (.bool true) := cell_of PY.out.p rfl
                      have p1 : wy.cell? ⟨pp, 1, none⟩ = some (.int .i64 S) := cell_of PY.out.p rfl
                      have p2 : wy.cell? ⟨pp, 2, none⟩ = some (.string Bn) := cell_of PY.out.p rfl
                      have hpp : pp < wy.heap.size := lt_of_obj PY.out.p
                      have hhq : h < wy.heap.size := lt_of_obj PY.out.b.row
                      obtain ⟨m0, m1, m2⟩ := PY.out.b.cell z hto
                      generalize pT (Nx X (8 * k) m (2 * s + t) z) = y0 at m0
                      generalize pS (Nx X (8 * k) m (2 * s + t) z) = y1 at m1
                      generalize pB (m + 1) (Nx X (8 * k) m (2 * s + t) z) = y2 at m2
                      have fz : ∀ i, wy.frozen? ⟨h, i, none⟩ = false := fun i => free_of PY.out.b.row
                      go_wp2_with (fail)
                      have S3 := (PY.out.b.set3 hto (S, 2 * c2 + t)).congr NP.out
                      simp only at S3
                      rw [← HBN.out] at S3
                      exact ⟨⟨t + 1, by omega, by go_num, PY.out.a.other3 (by omega) PY.out.b.ge _ _ _, S3⟩, by simp [intOf]; omega⟩
                    | false =>
                      have NP := Lib.hid (nx_keep hls ht2 HC.out HT.out HZ.out HS.out (tk_keep HTK.out))
                      go_wp2_with (fail)
                      exact ⟨⟨t + 1, by omega, by go_num, PY.out.a, PY.out.b.congr NP.out⟩, by simp [intOf]; omega⟩
            · have e : t = 2 := by omega
              subst e
              clear hA hB
              go_wp2_with (fail)
              rw [show 2 * s + 2 = 2 * (s + 1) by omega] at HB
              exact ⟨⟨s + 1, by omega, by go_num, HA.out, HB.out⟩, by simp [intOf]; omega⟩
        · have e : s = 64 := by omega
          subst e
          go_wp2_with (fail)
          exact ⟨⟨m + 1, h, by omega, rfl, by go_num, HB.out.congr fun x hx => Nx_end X (8 * k) m x hx⟩, by simp [intOf]; omega⟩
    · have e : m = N := by omega
      subst e
      have dm : decide ((m : Int) < 8 * (k : Int) + 6) = false := by have := HNN.out; simp; omega
      obtain ⟨c0, c1, c2⟩ := hD.cell 0 (by omega)
      have hpp := HPP.out
      rw [← HNN.out] at hpp
      rw [hpp] at c0 c1 c2
      simp only [Nat.zero_mul, Nat.zero_add] at c0 c1 c2
      have c1' : wr.cell? ⟨g, 1, none⟩ = some (.int .i64 vv) := c1
      have c2' : wr.cell? ⟨g, 2, none⟩ = some (.string (bstr m M)) := c2
      have HB := Lib.hid hD.below
      have hgl : g < wr.heap.size := lt_of_obj hD.row
      have BY := Lib.hid (fun w => bytes_ok k M hk w)
      rw [← HNN.out] at BY
      clear hD c0 c1 c2 hpp
      go_wp2_with (fail)
      refine region_calm (by kernel_rfl) (by kernel_rfl) ?_
      repeat (quiet_step ((go_at_call 31; exact calm_of (BY.out _))))
      refine wpQuiet_nil ?_; intro _ hw'; obtain ⟨xq, hw''⟩ := hw'; subst hw''
      go_wp2_with (fail)
      go_ret3
      exact ⟨rfl, bl_step HB.out (below_ext _ _)⟩
end Go.Proofs.Ytbfgpjpfhbbdfaa
