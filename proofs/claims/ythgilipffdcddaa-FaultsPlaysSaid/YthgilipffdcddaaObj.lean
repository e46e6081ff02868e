/-
  The walks of the methods of faults on an object that New has made. Conditions: at most 32 valid monitors.
-/
import Derived.Test.YthgilipffdcddaaSel
namespace Go.Proofs.Ythgilipffdcddaa
open Go.RowKit Kit
set_option linter.unusedVariables false
/-- An object with monitors L: its own cells in block f, the monitors in v's block. -/
structure FO (w : World) (base f : Nat) (v : Value) (L : List E) : Prop where
  obj : w.heap[f]? = some (.cells #[.bool true, v] 64)
  row : w.ownsRow base 72 9 v L.length (L.flatMap ec)
  ok : ∀ e ∈ L, okE e
  le : L.length ≤ 32
  base : base ≤ f
theorem FO.mod {S : Nat → Prop} {w w' : World} {base f : Nat} {v : Value} {L : List E} (h : FO w base f v L) (hm : Mod S w w') (h1 : ¬ S f) (h2 : ∀ k, v.ownBlock = some k → ¬ S k) : FO w' base f v L :=
  ⟨hm.keeps h.obj h1, own_mod h.row hm h2, h.ok, h.le, h.base⟩
theorem FO.below {w w' : World} {base f : Nat} {v : Value} {L : List E} (h : FO w base f v L) (hb : Below w.heap.size w w') : FO w' base f v L :=
  ⟨below_keeps hb h.obj (lt_of_obj h.obj), own_calm h.row hb, h.ok, h.le, h.base⟩
theorem FO.lt {w : World} {base f : Nat} {v : Value} {L : List E} (h : FO w base f v L) : f < w.heap.size := lt_of_obj h.obj
theorem FO.blk {w : World} {base f : Nat} {v : Value} {L : List E} (h : FO w base f v L) (k : Nat) (hk : v.ownBlock = some k) : base ≤ k ∧ k < w.heap.size ∧ k ≠ f := by
  have := h.row.lt k hk
  exact ⟨this.1, this.2, fun e => own_ne_obj h.row (e ▸ h.obj) (by decide) hk⟩
theorem tk_okE {L : List E} (h : ∀ e ∈ L, okE e) (P : List Int) (k : Nat) : ∀ e ∈ tk L P k, okE e := by
  intro e he
  unfold tk at he
  rcases List.mem_append.1 he with he | he
  · obtain ⟨x, hx, rfl⟩ := List.mem_map.1 he
    exact tick_ok (h x (List.mem_of_mem_take hx)) P
  · exact h e (List.mem_of_mem_drop he)
theorem row_form {w : World} {base : Nat} {v : Value} {L : List E} (h : w.ownsRow base 72 9 v L.length (L.flatMap ec)) :
    (L = [] ∧ ∃ a c, v = .slice a 0 c) ∨ ∃ g cap, v = .slice (some ⟨g, 0, none⟩) L.length cap ∧ Row w base g cap L := by
  rcases h.2 with ⟨rfl, h0⟩ | ⟨g, cap, cur, rfl, _⟩
  · left; exact ⟨List.length_eq_zero_iff.1 h0, _, _, rfl⟩
  · right; exact ⟨g, cap, rfl, h⟩
theorem selT_nil (a : Option Addr) (c : Nat) (fv : Value) (w : World) : Calls Try.prog 29 #[.slice a 0 c, fv] w fun e w' => e = .returned (.slice none 0 0) ∧ w = w' := by
  go_enter Try.func29, Try.ntmps29
  go_wp2_with (fail)
  refine wp_loop_rounds 1 ?_
  rw [rounds_succ]
  go_wp2_with (fail)
  go_ret
  exact ⟨rfl, rfl⟩
theorem selI_nil (a : Option Addr) (c : Nat) (fv : Value) (w : World) : Calls Try.prog 32 #[.slice a 0 c, fv] w fun e w' => e = .returned (.slice none 0 0) ∧ w = w' := by
  go_enter Try.func32, Try.ntmps32
  go_wp2_with (fail)
  refine wp_loop_rounds 1 ?_
  rw [rounds_succ]
  go_wp2_with (fail)
  go_ret
  exact ⟨rfl, rfl⟩
theorem selW_nil (a : Option Addr) (c : Nat) (fv : Value) (w : World) : Calls Try.prog 38 #[.slice a 0 c, fv] w fun e w' => e = .returned (.slice none 0 0) ∧ w = w' := by
  go_enter Try.func38, Try.ntmps38
  go_wp2_with (fail)
  refine wp_loop_rounds 1 ?_
  rw [rounds_succ]
  go_wp2_with (fail)
  go_ret
  exact ⟨rfl, rfl⟩
def TickOut (W : World) (base : Nat) (v : Value) (L : List E) (P : List Int) (e : Ending) (wr : World) : Prop :=
  ∃ out, e = .returned out ∧ wr.ownsRow base 72 9 v L.length ((tk L P L.length).flatMap ec) ∧ wr.ownsRow W.heap.size 38 3 out (rsK L P L.length).length ((rsK L P L.length).flatMap rc) ∧ Mod (fun j => v.ownBlock = some j) W wr
theorem selT_all {L : List E} {w : World} {base : Nat} {v pv : Value} {P : List Int} (pb : Nat) (h : w.ownsRow base 72 9 v L.length (L.flatMap ec)) (hok : ∀ e ∈ L, okE e) (h32 : L.length ≤ 32) (hp : PS w pv P) (hpv : P = [] ∨ pv.ownBlock = none ∨ pv.ownBlock ≠ v.ownBlock)
    (hpb : w.cell? ⟨pb, 0, none⟩ = some pv) (hne : v.ownBlock ≠ some pb) :
    Calls Try.prog 29 #[v, .func (.func 30) #[] #[.pointer (some ⟨pb, 0, none⟩)]] w fun e w' => TickOut w base v L P e w' := by
  rcases row_form h with ⟨rfl, a, c, rfl⟩ | ⟨g, cap, rfl, hr⟩
  · exact (selT_nil a c _ w).mono fun e w' ⟨h1, h2⟩ => ⟨_, h1, by subst h2; exact h, World.ownsRow_nil _ _ _ _, by subst h2; exact Mod.refl _ _⟩
  · refine (selT_any pb hr hok h32 hp (by rcases hpv with h | h | h; exact .inl h; exact .inr (by rw [h]; simp); exact .inr h) hpb (fun e => hne (by rw [e]; rfl))).mono ?_
    rintro e w' ⟨out, he, h1, h2, h3⟩
    refine ⟨out, he, ?_, h2, h3.mono (fun k _ hk => by rw [hk]; rfl)⟩
    unfold Row at h1
    rw [tk_len] at h1
    exact h1
theorem selI_all {L : List E} {w : World} {base : Nat} {v : Value} (pb : Nat) (t : Int) (h : w.ownsRow base 72 9 v L.length (L.flatMap ec)) (h32 : L.length ≤ 32) (hpb : w.cell? ⟨pb, 0, none⟩ = some (.int .i64 t)) :
    Calls Try.prog 32 #[v, .func (.func 33) #[] #[.pointer (some ⟨pb, 0, none⟩)]] w fun e w' => SelIE w L t e w' := by
  rcases row_form h with ⟨rfl, a, c, rfl⟩ | ⟨g, cap, rfl, hr⟩
  · exact (selI_nil a c _ w).mono fun e w' ⟨h1, h2⟩ => ⟨_, h1, by subst h2; exact Below.refl _ _, [], World.ownsRow_nil _ _ _ _⟩
  · exact selI_any pb t hr h32 hpb
theorem selW_all {L : List E} {w : World} {base : Nat} {v : Value} (h : w.ownsRow base 72 9 v L.length (L.flatMap ec)) (h32 : L.length ≤ 32) :
    Calls Try.prog 38 #[v, .func (.func 39) #[] #[]] w fun e w' => SelWE w L e w' := by
  rcases row_form h with ⟨rfl, a, c, rfl⟩ | ⟨g, cap, rfl, hr⟩
  · exact (selW_nil a c _ w).mono fun e w' ⟨h1, h2⟩ => ⟨_, h1, by subst h2; exact Below.refl _ _, World.ownsRow_nil _ _ _ _⟩
  · exact selW_any hr h32
theorem PS.form {w : World} {v : Value} {P : List Int} (h : PS w v P) : ∃ a n c, v = .slice a n c := by
  rcases h with ⟨b, off, c, rfl, _⟩ | ⟨_, a, c, rfl⟩
  · exact ⟨_, _, _, rfl⟩
  · exact ⟨_, _, _, rfl⟩
/-! The methods -/
def MTick (W : World) (base f : Nat) (v : Value) (L : List E) (P : List Int) (e : Ending) (wr : World) : Prop :=
  ∃ out, e = .returned (.tuple #[out, .int .i64 0]) ∧ FO wr base f v (tk L P L.length) ∧ wr.ownsRow W.heap.size 38 3 out (rsK L P L.length).length ((rsK L P L.length).flatMap rc) ∧ Mod (fun j => v.ownBlock = some j) W wr
set_option maxHeartbeats 1600000 in
theorem mtick_all {L : List E} {w : World} {base f : Nat} {v pv : Value} {P : List Int} (h : FO w base f v L) (hp : PS w pv P) (hpv : P = [] ∨ pv.ownBlock = none ∨ pv.ownBlock ≠ v.ownBlock) :
    Calls Try.prog 11 #[.pointer (some ⟨f, 0, none⟩), pv] w fun e w' => MTick w base f v L P e w' := by
  obtain ⟨pa, pn, pc, rfl⟩ := hp.form
  have hc0 := cell_of (i := 0) h.obj rfl
  have hc1 := cell_of (i := 1) h.obj rfl
  have hfl := h.lt
  have HB := Lib.hid (fun k hk => h.blk k hk)
  have HH := Lib.hid h; have HP := Lib.hid hp; have HV := Lib.hid hpv
  clear h hp hpv
  go_enter Try.func11, Try.ntmps11
  go_wp2_with (fail)
  refine (none_any f true _ (by go_simp)).mono ?_
  rintro e _ ⟨rfl, rfl⟩
  have a1 := bl_alloc (Below.refl w.heap.size w) (.cells #[.slice pa pn pc] 35)
  go_wp2_with (fail)
  refine (selT_all (base := base) (v := v) (pv := .slice pa pn pc) (P := P) w.heap.size (own_calm HH.out.row a1) HH.out.ok HH.out.le (HP.out.below a1) HV.out (cell_of (i := 0) (hp_new w _) rfl) (fun e => by have := (HB.out _ e).2.1; omega)).mono ?_
  rintro e w1 ⟨out, rfl, h1, h2, h3⟩
  have m1 : Mod (fun j => v.ownBlock = some j) w w1 := (Mod.of_below a1).trans h3 (fun _ _ h => h)
  have R : Hid (MTick w base f v L P (.returned (.tuple #[out, .int .i64 0])) w1) := Lib.hid ⟨out, rfl, ⟨m1.keeps HH.out.obj (fun e => (HB.out _ e).2.2 rfl), by rw [tk_len]; exact h1, tk_okE HH.out.ok _ _, by rw [tk_len]; exact HH.out.le, HH.out.base⟩, own_rebase h2 (by simp), m1⟩
  clear h1 h2 h3 m1 a1 hc0 hc1
  go_wp2_with (fail)
  go_ret2
  exact R.out
theorem mtick_any {L : List E} {w : World} {base f : Nat} {v pv : Value} {P : List Int} (h : FO w base f v L) (hp : PS w pv P) (hpv : pv.ownBlock = none ∨ pv.ownBlock ≠ v.ownBlock) :
    Calls Try.prog 11 #[.pointer (some ⟨f, 0, none⟩), pv] w fun e w' => MTick w base f v L P e w' := mtick_all h hp (.inr hpv)
def MTr (W : World) (L : List E) (t : Int) (e : Ending) (wr : World) : Prop := e = .returned (.bool (L.any (isTr · t))) ∧ Below W.heap.size W wr
theorem trK_any (L : List E) (t : Int) : decide (0 < trK L t L.length) = L.any (isTr · t) := by
  unfold trK
  rw [List.take_length, Bool.eq_iff_iff]
  simp [List.length_pos_iff_exists_mem]
set_option maxHeartbeats 1600000 in
theorem mtripped_any {L : List E} {w : World} {base f : Nat} {v : Value} (t : Int) (h : FO w base f v L) :
    Calls Try.prog 12 #[.pointer (some ⟨f, 0, none⟩), .int .i64 t] w fun e w' => MTr w L t e w' := by
  have hc0 := cell_of (i := 0) h.obj rfl
  have hc1 := cell_of (i := 1) h.obj rfl
  have hfl := h.lt
  have HH := Lib.hid h
  clear h
  go_enter Try.func12, Try.ntmps12
  go_wp2_with (fail)
  refine (none_any f true _ (by go_simp)).mono ?_
  rintro e _ ⟨rfl, rfl⟩
  have a1 := bl_alloc (Below.refl w.heap.size w) (.cells #[.int .i64 t] 3)
  go_wp2_with (fail)
  refine (selI_all (base := base) (v := v) w.heap.size t (own_calm HH.out.row a1) HH.out.le (cell_of (i := 0) (hp_new w _) rfl)).mono ?_
  rintro e w1 ⟨out, rfl, h1, xs, h2⟩
  have b1 := Lib.hid (bl_step a1 h1)
  have hle := trK_le L t L.length
  have h32 := HH.out.le
  have TK : Hid (decide (0 < trK L t L.length) = L.any (isTr · t)) := Lib.hid (trK_any L t)
  obtain ⟨m, hm⟩ : ∃ m, m = trK L t L.length := ⟨_, rfl⟩
  rw [← hm] at h2 hle TK
  clear h1 a1 hc0 hc1 hm
  rcases Nat.eq_zero_or_pos m with h0 | h0
  · subst h0
    have hv : ∃ a c, out = .slice a 0 c := by
      rcases h2.2 with ⟨rfl, _⟩ | ⟨g, cap, cur, rfl, _⟩
      · exact ⟨_, _, rfl⟩
      · exact ⟨_, _, rfl⟩
    obtain ⟨a, c, rfl⟩ := hv
    clear h2
    go_wp2_with (fail)
    go_ret
    exact ⟨ret_bool (by rw [← TK.out]; rfl), b1.out⟩
  · obtain ⟨m', rfl⟩ : ∃ m', m = m' + 1 := ⟨m - 1, by omega⟩
    obtain ⟨g, cap, rfl⟩ := ownsRow_succ h2
    obtain ⟨M, hM⟩ : ∃ M, M = m' + 1 := ⟨_, rfl⟩
    rw [← hM] at TK h0 ⊢
    clear h2 hM
    have hd : decide ((0 : Int) < (M : Int)) = true := by simp; omega
    go_wp2_with (fail)
    go_ret
    exact ⟨ret_bool (by rw [← TK.out]; simp [h0]), b1.out⟩
def MWa (W : World) (L : List E) (e : Ending) (wr : World) : Prop := ∃ out, e = .returned out ∧ Below W.heap.size W wr ∧ wr.ownsRow W.heap.size 69 2 out L.length (L.flatMap wc)
set_option maxHeartbeats 1600000 in
theorem mwatches_any {L : List E} {w : World} {base f : Nat} {v : Value} (h : FO w base f v L) :
    Calls Try.prog 25 #[.pointer (some ⟨f, 0, none⟩)] w fun e w' => MWa w L e w' := by
  have hc0 := cell_of (i := 0) h.obj rfl
  have hc1 := cell_of (i := 1) h.obj rfl
  have HH := Lib.hid h
  clear h
  go_enter Try.func25, Try.ntmps25
  go_wp2_with (fail)
  refine (none_any f true _ (by go_simp)).mono ?_
  rintro e _ ⟨rfl, rfl⟩
  go_wp2_with (fail)
  refine (selW_all (base := base) (v := v) HH.out.row HH.out.le).mono ?_
  rintro e w1 ⟨out, rfl, h1, h2⟩
  have R : Hid (MWa w L (.returned out) w1) := Lib.hid ⟨out, rfl, h1, by simpa using h2⟩
  clear h1 h2
  go_wp2_with (fail)
  go_ret
  exact R.out
end Go.Proofs.Ythgilipffdcddaa
