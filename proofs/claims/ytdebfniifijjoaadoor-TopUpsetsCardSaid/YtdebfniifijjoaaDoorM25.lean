/-
  The walk of step. Conditions: what holds between two steps.
-/
import Derived.Test.YtdebfniifijjoaaDoorM24
import Derived.Test.YtdebfniifijjoaaDoorM07
namespace Go.Proofs.YtdebfniifijjoaaDoor
open Go.RowKit Kit Go.Shelf
set_option linter.unusedVariables false
set_option linter.unusedSimpArgs false
set_option maxRecDepth 100000 in
set_option maxHeartbeats 1600000 in
theorem stp5 {w : World} {N W L : Nat} {d : WD} {x : WX} {u : Nat → Bool} {s : MS} (h : WO w W d x u s) (hL : WLo L W x) (hi : Inv N d u s) (hf : s.fuse = -1) (hN : N < 900) (b : Blow) (hb : b.Ok) (hk : b.what % 7 = 5) :
    Calls Tryd.prog 6 #[.pointer (some ⟨W, 0, none⟩), .agg (blA b)] w fun e w' => StpQ (N + 1) L W w e w' := by
  have H := Lib.hid h
  have HL := Lib.hid hL
  have hW := h.b.obj.lt
  obtain ⟨m1, m2, m3⟩ := what_mod b 5 hk hb.what
  rw [show ((5 : Nat) : Int) = 5 from rfl] at m1 m2 m3
  have V0 := Lib.hid (hp_new w (.cells (blA b) 24))
  have BL0 := Lib.hid (bl_alloc (Below.refl w.heap.size w) (.cells (blA b) 24))
  have v0 : (w.alloc (.cells (blA b) 24)).cell? ⟨w.heap.size, 0, none⟩ = some (.int .u8 b.what) := cell_of V0.out rfl
  have v1 : (w.alloc (.cells (blA b) 24)).cell? ⟨w.heap.size, 1, none⟩ = some (.int .i64 b.word) := cell_of V0.out rfl
  have v2 : (w.alloc (.cells (blA b) 24)).cell? ⟨w.heap.size, 2, none⟩ = some (.int .i64 b.bit) := cell_of V0.out rfl
  have v3 : (w.alloc (.cells (blA b) 24)).cell? ⟨w.heap.size, 3, none⟩ = some (.int .i64 b.value) := cell_of V0.out rfl
  have v4 : (w.alloc (.cells (blA b) 24)).cell? ⟨w.heap.size, 4, none⟩ = some (.string b.text) := cell_of V0.out rfl
  have v5 : (w.alloc (.cells (blA b) 24)).cell? ⟨w.heap.size, 5, none⟩ = some (.int .i64 b.fuse) := cell_of V0.out rfl
  have FL := Lib.hid (fails_w (h.below BL0.out) hL hi hN b hb)
  clear h hL hi hb hf hk
  go_enter Tryd.func6, Tryd.ntmps6
  go_upto_region 1 with (fail)
  generalize w.alloc (.cells (blA b) 24) = w1 at *
  unfold blA at FL
  have l1 := lt_of_obj V0.out
  go_wp2_with (fail)
  refine FL.out.mono ?_
  rintro e w2 ⟨rfl, q, bl2⟩
  have FIN : Hid (StpQ (N + 1) L W w (.returned (.bool true)) w2) := Lib.hid ⟨rfl, q, (BL0.out.mono (H.out.size HL.out)).trans bl2⟩
  clear q bl2
  go_wp2_with (fail)
  go_ret
  exact FIN.out
theorem step_w {w : World} {N W L : Nat} {d : WD} {x : WX} {u : Nat → Bool} {s : MS} (h : WO w W d x u s) (hL : WLo L W x) (hi : Inv N d u s) (hf : s.fuse = -1) (hN : N < 900) (b : Blow) (hb : b.Ok) :
    Calls Tryd.prog 6 #[.pointer (some ⟨W, 0, none⟩), .agg (blA b)] w fun e w' => StpQ (N + 1) L W w e w' := by
  rcases (by omega : b.what % 7 = 0 ∨ b.what % 7 = 1 ∨ b.what % 7 = 2 ∨ b.what % 7 = 3 ∨ b.what % 7 = 4 ∨ b.what % 7 = 5 ∨ b.what % 7 = 6) with hk | hk | hk | hk | hk | hk | hk
  · exact stp0 h hL hi hf hN b hb hk
  · exact stp1 h hL hi hf hN b hb hk
  · exact stp2 h hL hi hf hN b hb hk
  · cases hu : u b.at with
    | true => exact stp3t h hL hi hf hN b hb hk hu
    | false => exact stp3f h hL hi hf hN b hb hk hu
  · exact stp4 h hL hi hf hN b hb hk
  · exact stp5 h hL hi hf hN b hb hk
  · exact stp6 h hL hi hf hN b hb hk
end Go.Proofs.YtdebfniifijjoaaDoor
/-
  Plain lemmas of this seat: an argument that is a slice of flat elements, as a list of the elements' cells. Conditions: none.
-/
namespace Go.Proofs.YtdebfniifijjoaaDoor.Kit
open Go.RowKit
set_option linter.unusedVariables false
/-- A slice of elements of m cells, as a list of the elements' cells. -/
def SlL (m : Nat) (w : World) (v : Value) (X : List (List Value)) : Prop :=
  (∃ b off c, v = .slice (some ⟨b, off, none⟩) X.length c ∧ X.length ≤ c ∧ c ≤ maxLen ∧ b < w.heap.size ∧ ∀ i x, X[i]? = some x → ∀ j, j < m → w.cell? ⟨b, off + i * m + j, none⟩ = x[j]?) ∨ (X = [] ∧ ∃ a, v = .slice a 0 0)
theorem slIn_l {ks : List Sc} {w : World} {v : Value} (h : SlIn ks w v) : ∃ X, SlL ks.length w v X ∧ X.length ≤ maxLen ∧ ∀ x ∈ X, scAll ks x := by
  rcases h with rfl | ⟨a, rfl⟩ | ⟨b, off, len, cap, C, rfl, h1, h2, h3, h4, h5, h6⟩
  · exact ⟨[], .inr ⟨rfl, _, rfl⟩, by simp [maxLen], by simp⟩
  · exact ⟨[], .inr ⟨rfl, _, rfl⟩, by simp [maxLen], by simp⟩
  · refine ⟨(List.range len).map C, .inl ⟨b, off, cap, by simp, by simpa using h2, h3, h4, fun i x hi j hj => ?_⟩, by simp; omega, fun x hx => ?_⟩
    · have hlt : i < len := by
        rcases Nat.lt_or_ge i len with h | h
        · exact h
        · rw [List.getElem?_eq_none (by simp; omega)] at hi; cases hi
      have := h6 i j (by omega) hj
      rw [Nat.add_assoc, this]
      simp [hlt] at hi
      rw [hi]
    · simp at hx
      obtain ⟨i, hi, rfl⟩ := hx
      exact h5 i (by omega)
theorem SlL.shape {m : Nat} {w : World} {v : Value} {X : List (List Value)} (h : SlL m w v X) : ∃ a c, v = .slice a X.length c ∧ X.length ≤ c ∧ c ≤ maxLen := by
  rcases h with ⟨b, off, c, rfl, h1, h2, _⟩ | ⟨rfl, a, rfl⟩
  · exact ⟨_, _, rfl, h1, h2⟩
  · exact ⟨_, _, rfl, by simp, by simp⟩
theorem SlL.row {m : Nat} {w wr : World} {a : Option Addr} {n c : Nat} {X : List (List Value)} {k : Nat} {x : List Value} (h : SlL m w (.slice a n c) X) (hb : Below w.heap.size w wr) (hx : X[k]? = some x) :
    ∃ b off, a = some ⟨b, off, none⟩ ∧ b < w.heap.size ∧ b < wr.heap.size ∧ ∀ j, j < m → wr.cell? ⟨b, off + k * m + j, none⟩ = x[j]? := by
  rcases h with ⟨b, off, c', he, _, _, hl, hc⟩ | ⟨rfl, _⟩
  · simp only [Value.slice.injEq] at he
    refine ⟨b, off, he.1, hl, Nat.lt_of_lt_of_le hl hb.size, fun j hj => ?_⟩
    rw [hb.cell (p := ⟨b, off + k * m + j, none⟩) hl]
    exact hc k x hx j hj
  · simp at hx
theorem SlL.below {m : Nat} {w w' : World} {v : Value} {X : List (List Value)} (h : SlL m w v X) (hb : Below w.heap.size w w') : SlL m w' v X := by
  rcases h with ⟨b, off, c, rfl, h1, h2, hl, hc⟩ | h
  · left
    refine ⟨b, off, c, rfl, h1, h2, Nat.lt_of_lt_of_le hl hb.size, fun i x hx j hj => ?_⟩
    rw [hb.cell (p := ⟨b, off + i * m + j, none⟩) hl]
    exact hc i x hx j hj
  · exact .inr h
theorem some_of {α : Type} {X : List α} {k : Nat} (h : k < X.length) : ∃ x, X[k]? = some x ∧ x ∈ X := ⟨X[k], List.getElem?_eq_getElem h, List.getElem_mem h⟩
end Go.Proofs.YtdebfniifijjoaaDoor.Kit
/-
  The walk of TopUpsets. Conditions: the argument lies; the table of math/bits lies.
-/
namespace Go.Proofs.YtdebfniifijjoaaDoor
open Go.RowKit Kit Go.Shelf
set_option linter.unusedVariables false
set_option linter.unusedSimpArgs false
theorem wf_i64 {x : Int} (h : (Lit.int .i64 x).wf = true) : I64 x := wf64 h
theorem wf_u8 {x : Int} (h : (Lit.int .u8 x).wf = true) : 0 ≤ x ∧ x ≤ 255 := wf8 h
/-- An element is a step. -/
theorem blow_of {x : List Value} (h : scAll [.inl .u8, .inl .i64, .inl .i64, .inl .i64, .inr true, .inl .i64] x) : ∃ b : Blow, x = (blA b).toList ∧ (b.text.size ≤ 64 → b.Ok) ∧ b.text.size ≤ maxLen := by
  obtain ⟨a0, x, rfl, w0, h⟩ := scAll_int h
  obtain ⟨a1, x, rfl, w1, h⟩ := scAll_int h
  obtain ⟨a2, x, rfl, w2, h⟩ := scAll_int h
  obtain ⟨a3, x, rfl, w3, h⟩ := scAll_int h
  obtain ⟨a4, x, rfl, w4, h⟩ := scAll_string h
  obtain ⟨a5, x, rfl, w5, h⟩ := scAll_int h
  obtain rfl := scAll_nil h
  have q0 := wf_u8 w0
  have e0 : ((a0.toNat : Nat) : Int) = a0 := by omega
  refine ⟨⟨a0.toNat, a1, a2, a3, a4, a5⟩, ?_, fun ht => ⟨?_, wf_i64 w1, wf_i64 w2, wf_i64 w3, wf_i64 w5, ht⟩, w4⟩
  · show _ = [Value.int .u8 ((a0.toNat : Nat) : Int), .int .i64 a1, .int .i64 a2, .int .i64 a3, .string a4, .int .i64 a5]
    rw [e0]
  · show a0.toNat < 256
    omega
theorem inv_start {d : WD} (h1 : d.id = 0) (h2 : d.text = emp) (h3 : d.vals = fun _ => 0) (h4 : d.single = fun _ => 0) (h5 : d.ctr = 0) : Inv 0 d (fun _ => false) ms0 := by
  have ga : ∀ a size, goodB ms0.v a size = false := fun a size => by unfold goodB hdF; rfl
  have ac : ∀ base size, actB ms0.v base size = none := fun base size => by unfold actB; rw [ga, ga]; rfl
  have vw : ∀ base size, viewB ms0.v base size = none := fun base size => by unfold viewB; rw [ac]
  have gv : ∀ base size, genV ms0.v base size = 0 := fun base size => by unfold genV; rw [ac]
  refine ⟨⟨by rw [vw, h1]; rfl, by rw [vw, h3]; exact fun _ _ => rfl, fun i hi => by rw [h3]; exact (⟨by decide, by decide⟩ : (-9223372036854775808 : Int) ≤ 0 ∧ (0 : Int) ≤ 9223372036854775807), fun i hi => by rw [h4]; rfl⟩, (by show 0 < 122; omega), fun j hj => absurd rfl hj, by rw [gv]; omega, by rw [gv]; omega, by omega⟩
def TopQ (w : World) (e : Ending) (w' : World) : Prop := e = .returned (.bool true) ∧ Below w.heap.size w w'
set_option maxRecDepth 100000 in
set_option maxHeartbeats 3200000 in
theorem TopUpsets_walk (a0 : Value) (w : World) (w0 : Kit.SlIn [.inl .u8, .inl .i64, .inl .i64, .inl .i64, .inr true, .inl .i64] w a0) (hT : Tab w) :
    Calls Tryd.prog 3 #[a0] w fun e w' => TopQ w e w' := by
  obtain ⟨X, hX, hXl, hsc⟩ := slIn_l w0
  obtain ⟨a, c, rfl, hc1, hc2⟩ := hX.shape
  have HX := Lib.hid hX
  have HS := Lib.hid hsc
  unfold maxLen at hXl hc2
  have NW := Lib.hid (new32_any hT)
  have FE : Hid (∀ w', Below w.heap.size w w' → TopQ w (.returned (.bool true)) w') := Lib.hid (fun w' b => ⟨rfl, b⟩)
  have ROW : Hid (∀ (wr : World) (k : Nat), Below w.heap.size w wr → k < X.length → ∃ (b : Blow) (bb off : Nat), X[k]? = some (blA b).toList ∧ (b.text.size ≤ 64 → b.Ok) ∧ b.text.size ≤ maxLen ∧ a = some ⟨bb, off, none⟩ ∧ bb < wr.heap.size ∧ ∀ j, j < 6 → wr.cell? ⟨bb, off + k * 6 + j, none⟩ = (blA b).toList[j]?) := Lib.hid (fun wr k hb hk => by
    obtain ⟨x, hx, hm⟩ := some_of hk
    obtain ⟨b, rfl, h1, h2⟩ := blow_of (HS.out x hm)
    obtain ⟨bb, off, ha, _, hl, hc⟩ := HX.out.row hb hx
    exact ⟨b, bb, off, hx, h1, h2, ha, hl, hc⟩)
  clear w0 hX hsc hT
  generalize hn : X.length = n at *
  by_cases h60 : (60 : Int) < (n : Int)
  · have d60 : decide ((60 : Int) < (n : Int)) = true := by simp; omega
    have d60' : decide ((n : Int) > (60 : Int)) = true := by simp; omega
    clear hn
    go_enter Tryd.func3, Tryd.ntmps3
    go_wp2_with (fail)
    go_ret
    exact FE.out _ (Below.refl _ _)
  · have d60 : decide ((60 : Int) < (n : Int)) = false := by simp; omega
    have d60' : decide ((n : Int) > (60 : Int)) = false := by simp; omega
    have hn60 : n ≤ 60 := by omega
    have HN := Lib.hid hn
    clear hn
    go_enter Tryd.func3, Tryd.ntmps3
    go_wp2_with (fail)
    go_loopw [3] (fun i wr => ∃ k : Nat, k ≤ n ∧ i = .int .i64 k ∧ (∀ j x, j < k → X[j]? = some x → ∀ b : Blow, x = (blA b).toList → b.text.size ≤ 64) ∧ w = wr) (fun i _ => n - (intOf i).toNat)
    case atStart => exact ⟨0, by omega, rfl, fun j x hj => absurd hj (by omega), rfl⟩
    case round =>
      obtain ⟨k, hk, rfl, hA, rfl⟩ := hrel
      have HA := Lib.hid hA
      clear hA
      by_cases hlt : k < n
      · have dk : decide ((k : Int) < (n : Int)) = true := by simp; omega
        obtain ⟨b, bb, off, hx, hok, htl, rfl, hbl, hcell⟩ := ROW.out w k (Below.refl _ _) hlt
        have c4 : w.cell? ⟨bb, off + k * 6 + 4, none⟩ = some (.string b.text) := hcell 4 (by omega)
        unfold maxLen at htl
        have HX2 := Lib.hid hx
        clear hcell hx hok
        by_cases ht : b.text.size ≤ 64
        · have d64 : decide ((b.text.size : Int) > (64 : Int)) = false := by simp; omega
          have d64' : decide ((64 : Int) < (b.text.size : Int)) = false := by simp; omega
          have HN' : Hid (∀ j x, j < k + 1 → X[j]? = some x → ∀ b : Blow, x = (blA b).toList → b.text.size ≤ 64) := Lib.hid (fun j x hj hjx b' hb' => by
            rcases Nat.lt_or_ge j k with h | h
            · exact HA.out j x h hjx b' hb'
            · obtain rfl : j = k := by omega
              have e : x = (blA b).toList := Option.some.inj (hjx.symm.trans HX2.out)
              rw [e] at hb'
              have : b.text = b'.text := by have := congrArg (fun l => l[4]?) hb'; simpa [blA] using this
              rw [← this]; exact ht)
          go_wp2_with (fail)
          exact ⟨⟨k + 1, by omega, by go_num, HN'.out, trivial⟩, by simp [intOf]; omega⟩
        · have d64 : decide ((b.text.size : Int) > (64 : Int)) = true := by simp; omega
          have d64' : decide ((64 : Int) < (b.text.size : Int)) = true := by simp; omega
          go_wp2_with (fail)
          go_ret
          exact FE.out _ (Below.refl _ _)
      · have e : k = n := by omega
        subst e
        have dk : decide (((k : Nat) : Int) < (k : Int)) = false := by simp
        go_wp2_with (fail)
        refine NW.out.mono ?_
        rintro e w1 ⟨W, x, d, rfl, o1, lo1, g1, g2, g3, g4, g5, bl1⟩
        have I1 := Lib.hid (inv_start g1 g2 g3 g4 g5)
        have O1 := Lib.hid o1; have LO := Lib.hid lo1; have BL1 := Lib.hid bl1
        have SN := Lib.hid (sound_any o1 I1.out.snd)
        clear o1 lo1 bl1 g1 g2 g3 g4 g5
        go_wp2_with (fail)
        refine SN.out.mono ?_
        rintro e w2 ⟨rfl, ⟨s2, l2, o2⟩, k2⟩
        have ST2 : Hid (∃ (d : WD) (x : WX) (u : Nat → Bool) (s : MS), WO w2 W d x u s ∧ WLo w.heap.size W x ∧ Inv 0 d u s ∧ s.fuse = -1) := Lib.hid ⟨_, _, _, _, o2, LO.out, I1.out.le l2, l2.f1 rfl⟩
        have BL2 : Hid (Below w.heap.size w w2) := Lib.hid (BL1.out.trans (k2.lo LO.out (O1.out.size LO.out)))
        clear l2 o2 k2 SN
        go_wp2_with (fail)
        go_loopw [6] (fun i wr => ∃ m : Nat, m ≤ k ∧ i = .int .i64 m ∧ (∃ (d : WD) (x : WX) (u : Nat → Bool) (s : MS), WO wr W d x u s ∧ WLo w.heap.size W x ∧ Inv m d u s ∧ s.fuse = -1) ∧ Below w.heap.size w wr) (fun i _ => k - (intOf i).toNat)
        case atStart => exact ⟨0, by omega, rfl, ST2.out, BL2.out⟩
        case round =>
          clear ST2 BL2
          obtain ⟨m, hm, rfl, ⟨d3, x3, u3, s3, o3, lo3, i3, f3⟩, bl3⟩ := hrel
          have O3 := Lib.hid o3; have LO3 := Lib.hid lo3; have I3 := Lib.hid i3; have F3 := Lib.hid f3; have BL3 := Lib.hid bl3
          clear o3 lo3 i3 f3 bl3
          by_cases hlm : m < k
          · have dm : decide ((m : Int) < (k : Int)) = true := by simp; omega
            obtain ⟨b, bb, off, hx, hok, htl, rfl, hbl, hcell⟩ := ROW.out wr m BL3.out hlm
            have v0 : wr.cell? ⟨bb, off + m * 6, none⟩ = some (.int .u8 b.what) := hcell 0 (by omega)
            have v1 : wr.cell? ⟨bb, off + m * 6 + 1, none⟩ = some (.int .i64 b.word) := hcell 1 (by omega)
            have v2 : wr.cell? ⟨bb, off + m * 6 + 2, none⟩ = some (.int .i64 b.bit) := hcell 2 (by omega)
            have v3 : wr.cell? ⟨bb, off + m * 6 + 3, none⟩ = some (.int .i64 b.value) := hcell 3 (by omega)
            have v4 : wr.cell? ⟨bb, off + m * 6 + 4, none⟩ = some (.string b.text) := hcell 4 (by omega)
            have v5 : wr.cell? ⟨bb, off + m * 6 + 5, none⟩ = some (.int .i64 b.fuse) := hcell 5 (by omega)
            have hb : b.Ok := hok (HA.out m _ hlm hx b rfl)
            have SP := Lib.hid (step_w O3.out LO3.out I3.out F3.out (by omega) b hb)
            unfold blA at SP
            clear hcell hx hok hb htl
            go_wp2_with (fail)
            refine SP.out.mono ?_
            rintro e w4 ⟨rfl, ⟨d4, x4, u4, s4, o4, lo4, i4, f4⟩, bl4⟩
            have O4 := Lib.hid o4; have LO4 := Lib.hid lo4; have I4 := Lib.hid i4; have F4 := Lib.hid f4
            have BL4 : Hid (Below w.heap.size w w4) := Lib.hid (BL3.out.trans bl4)
            have SN := Lib.hid (sound_any o4 i4.snd)
            clear o4 lo4 i4 f4 bl4 SP v0 v1 v2 v3 v4 v5
            go_wp2_with (fail)
            refine SN.out.mono ?_
            rintro e w5 ⟨rfl, ⟨s5, l5, o5⟩, k5⟩
            have ST5 : Hid (∃ (d : WD) (x : WX) (u : Nat → Bool) (s : MS), WO w5 W d x u s ∧ WLo w.heap.size W x ∧ Inv (m + 1) d u s ∧ s.fuse = -1) := Lib.hid ⟨_, _, _, _, o5, LO4.out, I4.out.le l5, l5.f1 F4.out⟩
            have BL5 : Hid (Below w.heap.size w w5) := Lib.hid (BL4.out.trans (k5.lo LO4.out (O4.out.size LO4.out)))
            clear l5 o5 k5 SN
            go_wp2_with (fail)
            exact ⟨⟨m + 1, by omega, by go_num, ST5.out, BL5.out⟩, by simp [intOf]; omega⟩
          · have e : m = k := by omega
            subst e
            have dm : decide (((m : Nat) : Int) < (m : Int)) = false := by simp
            go_wp2_with (fail)
            go_ret
            exact FE.out _ BL3.out
end Go.Proofs.YtdebfniifijjoaaDoor
