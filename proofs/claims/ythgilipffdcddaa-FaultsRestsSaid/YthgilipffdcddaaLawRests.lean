/-
  The walk of the law FaultsRests. Conditions: none.
-/
import Derived.Test.YthgilipffdcddaaShown
namespace Go.Proofs.Ythgilipffdcddaa
open Go.RowKit Kit
set_option linter.unusedVariables false
theorem slIn_ps {w : World} {v : Value} (h : SlIn [.inl .i64] w v) : ∃ P, PS w v P ∧ P.length ≤ maxLen ∧ (∀ x ∈ P, -9223372036854775808 ≤ x ∧ x ≤ 9223372036854775807) ∧ (∀ b, v.ownBlock = some b → P ≠ [] → b < w.heap.size) := by
  rcases h with rfl | ⟨a, rfl⟩ | ⟨b, off, len, cap, C, rfl, h1, h2, h3, h4, h5, h6⟩
  · exact ⟨[], .inr ⟨rfl, _, _, rfl⟩, by simp [maxLen], by simp, by simp⟩
  · exact ⟨[], .inr ⟨rfl, _, _, rfl⟩, by simp [maxLen], by simp, by simp⟩
  · have hx : ∀ i, i < cap → ∃ x, C i = [.int .i64 x] ∧ (Lit.int .i64 x).wf = true := fun i hi => by
      obtain ⟨x, cs', he, hw, h'⟩ := scAll_int (h5 i hi)
      rw [scAll_nil h'] at he; exact ⟨x, he, hw⟩
    refine ⟨(List.range len).map fun i => match C i with | [.int _ x] => x | _ => 0, .inl ⟨b, off, cap, by simp, fun i x hi => ?_⟩, by simp; omega, ?_, ?_⟩
    · have hlt : i < len := by
        rcases Nat.lt_or_ge i len with h | h
        · exact h
        · rw [List.getElem?_eq_none (by simp; omega)] at hi; cases hi
      obtain ⟨y, hy, _⟩ := hx i (by omega)
      simp [hlt, hy] at hi
      subst hi
      have := h6 i 0 (by omega) (by simp)
      simp [hy] at this
      exact this
    · intro x hx'
      obtain ⟨i, hi, rfl⟩ := List.mem_map.1 hx'
      obtain ⟨y, hy, hw⟩ := hx i (by simp at hi; omega)
      rw [hy]
      exact wf64 hw
    · intro b' hb' _
      have : b = b' := by simpa [Value.ownBlock] using hb'
      omega
theorem PS.slice {w : World} {v : Value} {P : List Int} (h : PS w v P) : ∃ a c, v = .slice a P.length c := by
  rcases h with ⟨b, off, c, rfl, _⟩ | ⟨rfl, a, c, rfl⟩
  · exact ⟨_, _, rfl⟩
  · exact ⟨_, _, rfl⟩
/-- The monitor of the law. -/
def eR (p lo hi per t s : Int) (on : Bool) : E := ⟨p, lo, hi, per, t, s, on, 0, false⟩
def LB (w : World) (g : Nat) (P : List Int) : Prop := w.heap[g]? = some (.cells (P.map (Value.int .i64)).toArray 2)
theorem LB.cell {w : World} {g : Nat} {P : List Int} (h : LB w g P) (i : Nat) (hi : i < P.length) : w.cell? ⟨g, i, none⟩ = some (.int .i64 (P.getD i 0)) := cell_of h (by simp [hi])
theorem LB.set {w : World} {g : Nat} {P : List Int} (h : LB w g P) (i : Nat) (x : Int) : LB (w.setCell ⟨g, i, none⟩ (.int .i64 x)) g (P.set i x) := by
  unfold LB
  rw [hp_set h, List.map_set]
  simp
def RsR (w : World) (m g f : Nat) (v : Value) (e : E) (arr : Array Value) (wr : World) : Prop :=
  FO wr f f v [e] ∧ (∃ P, P.length = 64 ∧ LB wr g P) ∧ wr.heap[m]? = some (.cells arr 30) ∧ Below w.heap.size w wr
theorem RsR.mod {w wr w' : World} {m g f : Nat} {v : Value} {e e' : E} {arr : Array Value} (h : RsR w m g f v e arr wr) (hm : Mod (fun j => v.ownBlock = some j) wr w') (F : FO w' f f v [e']) (hmf : m < f) (hwf : w.heap.size ≤ f) : RsR w m g f v e' arr w' := by
  obtain ⟨F0, ⟨P, hP, hg⟩, hM, hB⟩ := h
  refine ⟨F, ⟨P, hP, hm.keeps hg (own_ne_obj F0.row hg (by decide))⟩, hm.keeps hM (fun e => by have := (F0.blk _ e).1; omega), hB.trans (hm.below hB.size (fun k hk => by have := (F0.blk _ hk).1; omega))⟩
theorem RsR.below {w wr w' : World} {m g f : Nat} {v : Value} {e : E} {arr : Array Value} (h : RsR w m g f v e arr wr) (hb : Below wr.heap.size wr w') : RsR w m g f v e arr w' := by
  obtain ⟨F0, ⟨P, hP, hg⟩, hM, hB⟩ := h
  exact ⟨F0.below hb, ⟨P, hP, below_keeps hb hg (lt_of_obj hg)⟩, below_keeps hb hM (lt_of_obj hM), bl_step hB hb⟩
theorem RsR.store {w wr : World} {m g f : Nat} {v : Value} {e : E} {arr : Array Value} (h : RsR w m g f v e arr wr) (i : Nat) (x : Int) (hg2 : w.heap.size ≤ g) : RsR w m g f v e arr (wr.setCell ⟨g, i, none⟩ (.int .i64 x)) := by
  obtain ⟨F0, ⟨P, hP, hg⟩, hM, hB⟩ := h
  refine ⟨F0.mod (mod_at (b := g) (Mod.refl _ wr) _) (fun e => ?_) (fun k hk e => own_ne_obj F0.row hg (by decide) (by rw [hk, e])), ⟨P.set i x, by simp [hP], hg.set i x⟩, hp_set_ne hM (fun e => ?_) _, bl_set hB hg2 _⟩
  · have := F0.obj.symm.trans (e ▸ hg); simp at this
  · have := hM.symm.trans (e ▸ hg); simp at this
theorem RsR.ps {w wr : World} {m g f : Nat} {v : Value} {e : E} {arr : Array Value} (h : RsR w m g f v e arr wr) : ∃ P, P.length = 64 ∧ LB wr g P ∧ PS wr (.slice (some ⟨g, 0, none⟩) 64 64) P ∧ (∀ k, k ≤ 64 → PS wr (.slice (some ⟨g, 0, none⟩) k 64) (P.take k)) ∧ (∀ n c, (Value.slice (some ⟨g, 0, none⟩) n c).ownBlock = none ∨ (Value.slice (some ⟨g, 0, none⟩) n c).ownBlock ≠ v.ownBlock) := by
  obtain ⟨F0, ⟨P, hP, hg⟩, hM, hB⟩ := h
  have ps : PS wr (.slice (some ⟨g, 0, none⟩) 64 64) P := .inl ⟨g, 0, 64, by rw [hP], fun i x hx => by
    have hi : i < P.length := by
      rcases Nat.lt_or_ge i P.length with h | h
      · exact h
      · rw [List.getElem?_eq_none h] at hx; cases hx
    rw [Nat.zero_add, hg.cell i hi, List.getD_eq_getElem?_getD, hx]; rfl⟩
  refine ⟨P, hP, hg, ps, fun k hk => .inl ⟨g, 0, 64, by simp [hP]; omega, fun i x hx => ?_⟩, fun n c => .inr (fun e => own_ne_obj F0.row hg (by decide) e.symm)⟩
  have hik : i < k := by
    rcases Nat.lt_or_ge i k with h | h
    · exact h
    · rw [List.getElem?_eq_none (by simp; omega)] at hx; cases hx
  rw [List.getElem?_take, if_pos hik] at hx
  have hi : i < P.length := by omega
  rw [Nat.zero_add, hg.cell i hi, List.getD_eq_getElem?_getD, hx]; rfl
theorem rest_off {p lo hi per t s : Int} (P : List Int) : trips (eR p lo hi per t s false) P = false ∧ tickE (eR p lo hi per t s false) P = eR p lo hi per t s false := ⟨by simp [trips, eR], by simp [tickE, eR]⟩
theorem rest_in {lo hi per t s : Int} (pn : Nat) (P : List Int) (h : ∀ x, P[pn]? = some x → lo ≤ x ∧ x ≤ hi) : trips (eR pn lo hi per t s true) P = false ∧ tickE (eR pn lo hi per t s true) P = eR pn lo hi per t s true := by
  have hv : viol (eR pn lo hi per t s true) P = false := by
    unfold viol
    simp only [eR, Int.toNat_natCast]
    cases hx : P[pn]? with
    | none => rfl
    | some x =>
      have := h x hx
      show (decide (x < lo) || decide (hi < x)) = false
      simp; omega
  refine ⟨by simp [trips, hv], ?_⟩
  unfold tickE; rw [if_neg (by simp [eR]), if_pos hv]; rfl
theorem tk_one (e : E) (P : List Int) : tk [e] P 1 = [tickE e P] := rfl
theorem rs_one (e : E) (P : List Int) : rsK [e] P 1 = if trips e P then [(0, e.tier, e.seq)] else [] := by
  unfold rsK; simp [List.range_succ, List.filterMap_cons]; split <;> simp_all
/-- A tick that does nothing. -/
theorem quiet_tick {w wr : World} {m g f : Nat} {v pv : Value} {e : E} {arr : Array Value} {P : List Int} (h : RsR w m g f v e arr wr) (hp : PS wr pv P) (hpv : pv.ownBlock = none ∨ pv.ownBlock ≠ v.ownBlock) (hmf : m < f) (hwf : w.heap.size ≤ f) (ht : trips e P = false ∧ tickE e P = e) :
    Calls Try.prog 11 #[.pointer (some ⟨f, 0, none⟩), pv] wr fun en w' => (∃ a c, en = .returned (.tuple #[.slice a 0 c, .int .i64 0])) ∧ RsR w m g f v e arr w' := by
  refine (mtick_any h.1 hp hpv).mono ?_
  rintro en w' ⟨out, rfl, F, ho, hm⟩
  rw [show [e].length = 1 from rfl] at F ho
  rw [tk_one, ht.2] at F
  rw [rs_one, ht.1] at ho
  replace ho : w'.ownsRow _ 38 3 out 0 [] := ho
  obtain ⟨a, c, rfl⟩ := slice_of ho
  exact ⟨⟨a, c, rfl⟩, h.mod hm F hmf hwf⟩
theorem LB.ps {w : World} {g : Nat} {P : List Int} (h : LB w g P) (hP : P.length = 64) : PS w (.slice (some ⟨g, 0, none⟩) 64 64) P :=
  .inl ⟨g, 0, 64, by rw [hP], fun i x hx => by
    have hi : i < P.length := by
      rcases Nat.lt_or_ge i P.length with h | h
      · exact h
      · rw [List.getElem?_eq_none h] at hx; cases hx
    rw [Nat.zero_add, h.cell i hi, List.getD_eq_getElem?_getD, hx]; rfl⟩
theorem lb_made {w : World} {base g : Nat} (h : w.ownsRow base 2 1 (.slice (some ⟨g, 0, none⟩) 64 64) 64 (madeCells (Value.int IntKind.i64 0).cells (64 * 1)).toList) : LB w g (List.replicate 64 0) := by
  obtain ⟨cur, hg, _, _, _, hsz, htake⟩ := own_block h
  unfold LB
  rw [hg]
  rw [show (Value.int IntKind.i64 0).cells = #[.int .i64 0] from rfl, toList_madeCells_one, List.take_of_length_le (by simp [hsz])] at htake
  have : cur = ((List.replicate 64 0).map (Value.int .i64)).toArray := by
    apply Array.toList_inj.1
    rw [htake]; simp
  rw [this]
theorem info2 : (Try.prog.info? 2).map (fun i => (i.zero, i.size, i.bytes)) = some (some (.int .i64 0), 1, 8) := by kernel_rfl
def MA (p lo hi per t s : Int) : Array Value := #[.int .i64 p, .int .i64 lo, .int .i64 hi, .int .i64 per, .int .i64 t, .int .i64 s, .bool false]
section
variable (p lo hi per t s : Int) (on : Bool) (xa : Option Addr) (xc N : Nat) (w : World)
set_option maxRecDepth 100000 in
set_option maxHeartbeats 1600000 in
theorem rests_long (h600 : (300 : Int) < (N : Int)) (hl : (N : Int) ≤ 9223372036854775807) :
    Calls Try.prog 7 #[.agg #[.int .i64 p, .int .i64 lo, .int .i64 hi, .int .i64 per, .int .i64 t, .int .i64 s, .bool on], .slice xa N xc] w fun e w' => e = .returned (.bool true) ∧ Below w.heap.size w w' := by
  go_enter Try.func7, Try.ntmps7
  go_wp2_with (fail)
  refine (shown_any _).mono ?_
  rintro e w1 ⟨rfl, hb1⟩
  have B1 := Lib.hid (bl_step (bl_alloc (Below.refl w.heap.size w) _) hb1); clear hb1
  go_wp2_with (fail)
  go_ret
  exact ⟨rfl, B1.out⟩
set_option maxRecDepth 100000 in
set_option maxHeartbeats 1600000 in
theorem rests_bad (h600 : (N : Int) ≤ 300) (hv : validB p lo hi per t s = false) :
    Calls Try.prog 7 #[.agg #[.int .i64 p, .int .i64 lo, .int .i64 hi, .int .i64 per, .int .i64 t, .int .i64 s, .bool on], .slice xa N xc] w fun e w' => e = .returned (.bool true) ∧ Below w.heap.size w w' := by
  have HV := Lib.hid hv; clear hv
  have hm0 := hp_new w (.cells #[.int .i64 p, .int .i64 lo, .int .i64 hi, .int .i64 per, .int .i64 t, .int .i64 s, .bool on] 30)
  go_enter Try.func7, Try.ntmps7
  go_wp2_with (fail)
  refine (shown_any _).mono ?_
  rintro e w1 ⟨rfl, hb1⟩
  have hm1 := below_keeps hb1 hm0 (by simp)
  have B1 := Lib.hid (bl_step (bl_alloc (Below.refl w.heap.size w) _) hb1); clear hb1 hm0
  have hs1 := B1.out.size
  have hz1 := lt_of_obj hm1
  have c6 := cell_of (i := 6) hm1 rfl
  have f6 := free_of (i := 6) hm1
  have hm2 := hp_set (i := 6) hm1 (.bool false)
  replace hm2 : (w1.setCell ⟨w.heap.size, 6, none⟩ (.bool false)).heap[w.heap.size]? = some (.cells (MA p lo hi per t s) 30) := hm2
  have M1 := Lib.hid hm1; have M2 := Lib.hid hm2
  clear hm1 hm2
  have c0 := cell_of (i := 0) M1.out rfl
  have c1 := cell_of (i := 1) M1.out rfl
  have c2 := cell_of (i := 2) M1.out rfl
  have c3 := cell_of (i := 3) M1.out rfl
  have c4 := cell_of (i := 4) M1.out rfl
  have c5 := cell_of (i := 5) M1.out rfl
  go_wp2_with (fail)
  refine (new_bad (L := [eR p lo hi per t s false]) (ms_lit (e := eR p lo hi per t s false) ⟨rfl, rfl⟩ (by have := hp_new (w1.setCell ⟨w.heap.size, 6, none⟩ (.bool false)) (.cells (MA p lo hi per t s) 30); rw [World.size_setCell] at this; exact this) rfl) (by simp [maxLen]) (by simp [vE, eR, HV.out])).mono ?_
  rintro e w3 ⟨rfl, hb3⟩
  have B3 := Lib.hid (bl_step (bl_alloc (bl_set B1.out (Nat.le_refl _) (.bool false)) (.cells (MA p lo hi per t s) 30)) hb3)
  have M3 := Lib.hid (below_keeps hb3 (hp_old M2.out _) (by simp; omega))
  clear hb3 c0 c1 c2 c3 c4 c5 c6 f6
  have c0 := cell_of (i := 0) M3.out rfl
  have c1 := cell_of (i := 1) M3.out rfl
  have c2 := cell_of (i := 2) M3.out rfl
  have c3 := cell_of (i := 3) M3.out rfl
  have c4 := cell_of (i := 4) M3.out rfl
  have c5 := cell_of (i := 5) M3.out rfl
  have c6 := cell_of (i := 6) M3.out rfl
  go_wp2_with (fail)
  refine (refvalid_any _ _ _ _ _ _ _ _).mono ?_
  rw [HV.out]
  rintro e w4 ⟨rfl, rfl⟩
  go_wp2_with (fail)
  go_ret
  exact ⟨rfl, bl_alloc B3.out _⟩
set_option maxRecDepth 100000 in
set_option maxHeartbeats 6400000 in
theorem rests_good (pn : Nat) (hpn : pn < 64) (V : List Int) (HX : Hid (PS w (.slice xa N xc) V)) (HN : Hid (N = V.length)) (h600 : (N : Int) ≤ 300) (hv : validB pn lo hi per t s = true) (hlo : -9223372036854775808 ≤ lo ∧ lo ≤ 9223372036854775807) (hhi : -9223372036854775808 ≤ hi ∧ hi ≤ 9223372036854775807) (hle : lo ≤ hi) :
    Calls Try.prog 7 #[.agg #[.int .i64 pn, .int .i64 lo, .int .i64 hi, .int .i64 per, .int .i64 t, .int .i64 s, .bool on], .slice xa N xc] w fun e w' => e = .returned (.bool true) ∧ Below w.heap.size w w' := by
  obtain ⟨i0, hi0, hz0, hz1, hz2⟩ := info_parts info2
  have HV := Lib.hid hv; clear hv
  have HLE := Lib.hid hle; clear hle
  have hm0 := hp_new w (.cells #[.int .i64 (pn : Int), .int .i64 lo, .int .i64 hi, .int .i64 per, .int .i64 t, .int .i64 s, .bool on] 30)
  go_enter Try.func7, Try.ntmps7
  go_wp2_with (fail)
  refine (shown_any _).mono ?_
  rintro e w1 ⟨rfl, hb1⟩
  have hm1 := below_keeps hb1 hm0 (by simp)
  have B1 := Lib.hid (bl_step (bl_alloc (Below.refl w.heap.size w) _) hb1); clear hb1 hm0
  have hs1 := B1.out.size
  have hzz1 := lt_of_obj hm1
  have c6 := cell_of (i := 6) hm1 rfl
  have f6 := free_of (i := 6) hm1
  have hm2 := hp_set (i := 6) hm1 (.bool false)
  replace hm2 : (w1.setCell ⟨w.heap.size, 6, none⟩ (.bool false)).heap[w.heap.size]? = some (.cells (MA pn lo hi per t s) 30) := hm2
  have M1 := Lib.hid hm1; have M2 := Lib.hid hm2
  clear hm1 hm2
  have c0 := cell_of (i := 0) M1.out rfl
  have c1 := cell_of (i := 1) M1.out rfl
  have c2 := cell_of (i := 2) M1.out rfl
  have c3 := cell_of (i := 3) M1.out rfl
  have c4 := cell_of (i := 4) M1.out rfl
  have c5 := cell_of (i := 5) M1.out rfl
  go_wp2_with (fail)
  refine (new_good (L := [eR pn lo hi per t s false]) (ms_lit (e := eR pn lo hi per t s false) ⟨rfl, rfl⟩ (by have := hp_new (w1.setCell ⟨w.heap.size, 6, none⟩ (.bool false)) (.cells (MA pn lo hi per t s) 30); rw [World.size_setCell] at this; exact this) rfl) (by simp) (by simp [vE, eR, HV.out])).mono ?_
  rintro e w3 ⟨v, rfl, F3, hb3⟩
  have B3 := Lib.hid (bl_step (bl_alloc (bl_set B1.out (Nat.le_refl _) (.bool false)) (.cells (MA pn lo hi per t s) 30)) hb3)
  have M3 := Lib.hid (below_keeps hb3 (hp_old M2.out _) (by simp; omega))
  simp only [World.size_alloc, World.size_setCell] at F3 ⊢
  obtain ⟨f, hf⟩ : ∃ f, f = w1.heap.size + 1 := ⟨_, rfl⟩
  rw [← hf] at F3 ⊢
  have hwf : w.heap.size ≤ f := by omega
  have hmf : w.heap.size < f := by omega
  have hpi : (pn : Int) < 64 := by omega
  have hpz : (0 : Int) ≤ (pn : Int) := by omega
  have hs3 := B3.out.size
  replace F3 := Lib.hid F3
  clear hb3 c0 c1 c2 c3 c4 c5 c6 f6 hf M1 M2 B1 hs1 hzz1
  go_wp2_with (at_make; refine wpList_make_full _ rfl _ _ 35 rfl w.heap.size 2 i0 (.int .i64 0) 1 Try.underlying35 hi0 hz0 hz1 _ _ _ _ 64 rfl rfl rfl rfl (by rw [hz2]; omega) (by simp [maxLen]) hs3 ?_; intro w4 hown hgrow; replace hown := Lib.hid hown; replace hgrow := Lib.hid hgrow)
  have R0 : Hid (RsR w w.heap.size w3.heap.size f v (eR pn lo hi per t s false) (MA pn lo hi per t s) w4) := by
    have m4 := mod_of_grown (v := .slice none 0 0) hgrow.out
    exact Lib.hid ⟨F3.out.mod m4 (by simp [Value.ownBlock]) (fun k _ => by simp [Value.ownBlock]), ⟨_, by simp, lb_made hown.out⟩, m4.keeps M3.out (by simp [Value.ownBlock]), B3.out.grown hgrow.out hs3 (fun k e => by cases e)⟩
  obtain ⟨g, hg⟩ : ∃ g, g = w3.heap.size := ⟨_, rfl⟩
  rw [← hg] at R0 ⊢
  have hgw : w.heap.size ≤ g := by omega
  obtain ⟨m, hm⟩ : ∃ m, m = w.heap.size := ⟨_, rfl⟩
  have HM := Lib.hid hm
  rw [show RsR w w.heap.size = RsR w m by rw [hm]] at R0
  rw [← hm] at hmf ⊢
  clear hown hgrow F3 M3 B3 hs3 hg hm
  go_loopw [8] (fun i wr => ∃ k : Nat, k ≤ N ∧ i = .int .i64 k ∧ RsR w m g f v (eR pn lo hi per t s false) (MA pn lo hi per t s) wr) (fun i _ => N - (intOf i).toNat)
  case atStart => exact ⟨0, by omega, rfl, R0.out⟩
  case round =>
    clear R0
    obtain ⟨k, hk, rfl, hR⟩ := hrel
    have HR := Lib.hid hR; clear hR
    obtain ⟨P, hP, hgP⟩ := HR.out.2.1
    have q0 : wr.cell? ⟨m, 0, none⟩ = some (.int .i64 (pn : Int)) := cell_of (i := 0) HR.out.2.2.1 rfl
    by_cases hlt : k < N
    · obtain ⟨x, hx⟩ : ∃ x, V[k]? = some x := ⟨_, List.getElem?_eq_getElem (by have := HN.out; omega)⟩
      obtain ⟨b, off, hxa, hcx⟩ : ∃ b off, xa = some ⟨b, off, none⟩ ∧ wr.cell? ⟨b, off + k, none⟩ = some (.int .i64 x) := by
        rcases HX.out.below HR.out.2.2.2 with ⟨b, off, c, he, hc⟩ | ⟨rfl, _⟩
        · simp only [Value.slice.injEq] at he
          exact ⟨b, off, he.1, hc k x hx⟩
        · simp at hx
      subst hxa
      have cg := hgP.cell pn (by omega)
      have fg := free_of (i := pn) hgP
      have R2 := Lib.hid (HR.out.store pn x hgw)
      clear hx hgP
      go_wp2_with (fail)
      refine region_still_tail 8 (by kernel_rfl) (by kernel_rfl) ?_
      simp only [List.take_succ_cons, List.take_zero, List.drop_succ_cons, List.drop_zero]
      (repeat still_step)
      refine wpStill_nil ?_
      go_wp2_with (fail)
      have R3 := R2.out.below (Below.drew (Below.refl _ _))
      obtain ⟨P3, h3, _, h4, _, h5⟩ := R3.ps
      refine (quiet_tick R3 h4 (h5 _ _) hmf hwf (rest_off P3)).mono ?_
      rintro e w5 ⟨⟨oa, oc, rfl⟩, R5⟩
      replace R5 := Lib.hid R5
      clear R3 h3 h4 h5 R2 HR
      go_wp2_with (fail)
      go_roundw
      case rel => exact ⟨k + 1, by omega, by go_num, R5.out⟩
      case measure => simp [intOf]; omega
    · clear q0 hgP hP
      go_wp2_with (fail)
      refine (enable_in 0 true HR.out.1 (e := eR pn lo hi per t s false) rfl).mono ?_
      rintro e w5 ⟨rfl, F5, m5⟩
      have R5 : Hid (RsR w m g f v (eR pn lo hi per t s true) (MA pn lo hi per t s) w5) := Lib.hid (HR.out.mod m5 F5 hmf hwf)
      clear F5 m5 HR
      go_wp2_with (fail)
      go_loopw [11] (fun i wr => ∃ k : Nat, k ≤ N ∧ i = .int .i64 k ∧ RsR w m g f v (eR pn lo hi per t s true) (MA pn lo hi per t s) wr) (fun i _ => N - (intOf i).toNat)
      case atStart => exact ⟨0, by omega, rfl, R5.out⟩
      case round =>
        clear R5 hlt hk
        obtain ⟨k, hk, rfl, hR⟩ := hrel
        have HR := Lib.hid hR; clear hR
        by_cases hlt : k < N
        · obtain ⟨P, hP, hgP⟩ := HR.out.2.1
          obtain ⟨x, hx⟩ : ∃ x, V[k]? = some x := ⟨_, List.getElem?_eq_getElem (by have := HN.out; omega)⟩
          obtain ⟨b, off, hxa, hcx⟩ : ∃ b off, xa = some ⟨b, off, none⟩ ∧ wr.cell? ⟨b, off + k, none⟩ = some (.int .i64 x) := by
            rcases HX.out.below HR.out.2.2.2 with ⟨b, off, c, he, hc⟩ | ⟨rfl, _⟩
            · simp only [Value.slice.injEq] at he
              exact ⟨b, off, he.1, hc k x hx⟩
            · simp at hx
          subst hxa
          have q0 : wr.cell? ⟨m, 0, none⟩ = some (.int .i64 (pn : Int)) := cell_of (i := 0) HR.out.2.2.1 rfl
          have q1 : wr.cell? ⟨m, 1, none⟩ = some (.int .i64 lo) := cell_of (i := 1) HR.out.2.2.1 rfl
          have q2 : wr.cell? ⟨m, 2, none⟩ = some (.int .i64 hi) := cell_of (i := 2) HR.out.2.2.1 rfl
          have cg := hgP.cell pn (by omega)
          have fg := free_of (i := pn) hgP
          have gmn := fun w x y => run_min_mn Try.prog w #[2, 2] 2 .i64 .i64 x y
          have gmx := fun w x y => run_max_mx Try.prog w #[2, 2] 2 .i64 .i64 x y
          have hy : Hid (lo ≤ mx lo (mn hi x) ∧ mx lo (mn hi x) ≤ hi) := Lib.hid (by have := HLE.out; unfold mx mn; omega)
          have R2 := Lib.hid (HR.out.store pn (mx lo (mn hi x)) hgw)
          have L2 := Lib.hid (hgP.set pn (mx lo (mn hi x)))
          have HP := Lib.hid hP
          clear hx hgP hP
          go_wp2_with (fail)
          refine region_still_tail 14 (by kernel_rfl) (by kernel_rfl) ?_
          simp only [List.take_succ_cons, List.take_zero, List.drop_succ_cons, List.drop_zero]
          (repeat still_step)
          refine wpStill_nil ?_
          go_wp2_with (fail)
          clear gmn gmx q1 q2 cg fg hcx
          have R3 := R2.out.below (Below.drew (Below.refl _ _))
          have L3 : LB _ g _ := below_keeps (Below.drew (Below.refl _ _)) L2.out (lt_of_obj L2.out)
          obtain ⟨_, _, _, _, _, h5⟩ := R3.ps
          refine (quiet_tick R3 (L3.ps (by simp [HP.out])) (h5 _ _) hmf hwf (rest_in pn _ (fun z hz => by
            rw [List.getElem?_set_self (by rw [HP.out]; exact hpn)] at hz
            simp at hz
            subst hz
            exact hy.out))).mono ?_
          rintro e w5 ⟨⟨oa, oc, rfl⟩, R5⟩
          replace R5 := Lib.hid R5
          clear R3 L3 h5 R2 HR L2
          have q0 : w5.cell? ⟨m, 0, none⟩ = some (.int .i64 (pn : Int)) := cell_of (i := 0) R5.out.2.2.1 rfl
          go_wp2_with (fail)
          obtain ⟨P5, _, _, _, p5, h5⟩ := R5.out.ps
          refine (quiet_tick R5.out (p5 pn (by omega)) (h5 _ _) hmf hwf (rest_in pn _ (fun z hz => by
            rw [List.getElem?_eq_none (by simp; omega)] at hz; cases hz))).mono ?_
          rintro e w6 ⟨⟨oa2, oc2, rfl⟩, R6⟩
          replace R6 := Lib.hid R6
          clear p5 h5 R5 q0
          go_wp2_with (fail)
          refine (mwatches_any R6.out.1).mono ?_
          rintro e w7 ⟨out, rfl, hb7, ho⟩
          have R7 := Lib.hid (R6.out.below hb7)
          replace ho : w7.ownsRow _ 69 2 out 1 [.int .i64 0, .bool false] := ho
          have HO := Lib.hid ho
          obtain ⟨oa3, oc3, rfl⟩ := slice_of ho
          clear ho hb7 R6
          go_wp2_with (fail)
          refine (sameW_any (l1 := [s1]) (l2 := [s1]) (by simp) (HO.out.alloc _) (own_lit (hp_new w7 _) rfl (by simp [maxLen]))).mono ?_
          rintro e w8 ⟨rfl, hb8⟩
          have R8 := Lib.hid (R7.out.below (bl_step (bl_alloc (Below.refl _ _) _) hb8))
          clear hb8 R7 HO
          go_wp2_with (fail)
          go_roundw
          case rel => exact ⟨k + 1, by omega, by go_num, R8.out⟩
          case measure => simp [intOf]; omega
        · go_wp2_with (fail)
          go_ret
          exact ⟨rfl, HR.out.2.2.2⟩
end
theorem FaultsRests_walk (a0_0 : Int) (a0_1 : Int) (a0_2 : Int) (a0_3 : Int) (a0_4 : Int) (a0_5 : Int) (a0_6 : Bool) (a1 : Value) (w : World) (w0_0 : (Lit.int .i64 a0_0).wf = true) (w0_1 : (Lit.int .i64 a0_1).wf = true) (w0_2 : (Lit.int .i64 a0_2).wf = true) (w0_3 : (Lit.int .i64 a0_3).wf = true) (w0_4 : (Lit.int .i64 a0_4).wf = true) (w0_5 : (Lit.int .i64 a0_5).wf = true) (w1 : Kit.SlIn [.inl .i64] w a1) :
    Calls Try.prog 7 #[.agg #[.int .i64 a0_0, .int .i64 a0_1, .int .i64 a0_2, .int .i64 a0_3, .int .i64 a0_4, .int .i64 a0_5, .bool a0_6], a1] w fun e w' => e = .returned (.bool true) ∧ Below w.heap.size w w' := by
  obtain ⟨V, hV, hl, _, _⟩ := slIn_ps w1
  unfold maxLen at hl
  obtain ⟨xa, xc, rfl⟩ := hV.slice
  have h1 := wf64 w0_1
  have h2 := wf64 w0_2
  by_cases h600 : (300 : Int) < (V.length : Int)
  · exact rests_long _ _ _ _ _ _ _ _ _ _ _ h600 (by omega)
  · cases hv : validB a0_0 a0_1 a0_2 a0_3 a0_4 a0_5 with
    | false => exact rests_bad _ _ _ _ _ _ _ _ _ _ _ (by omega) hv
    | true =>
      have hh := validB_iff.1 hv
      obtain ⟨pn, rfl⟩ : ∃ pn : Nat, a0_0 = pn := ⟨a0_0.toNat, by omega⟩
      exact rests_good _ _ _ _ _ _ _ _ _ _ pn (by omega) V (Lib.hid hV) (Lib.hid rfl) (by omega) hv h1 h2 (by omega)
end Go.Proofs.Ythgilipffdcddaa
