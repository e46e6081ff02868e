/-
  The walk of a monitor's tick. Conditions: a valid monitor.
-/
import Derived.Test.YthgilipffdcddaaBase
namespace Go.Proofs.Ythgilipffdcddaa
open Go.RowKit Kit
set_option linter.unusedVariables false
/-- A slice of numbers, as a list. -/
def PS (w : World) (v : Value) (P : List Int) : Prop :=
  (∃ b off c, v = .slice (some ⟨b, off, none⟩) P.length c ∧ ∀ i x, P[i]? = some x → w.cell? ⟨b, off + i, none⟩ = some (.int .i64 x)) ∨ (P = [] ∧ ∃ a c, v = .slice a 0 c)
def okE (e : E) : Prop := 0 ≤ e.par ∧ e.par ≤ 63 ∧ 1 ≤ e.per ∧ e.per ≤ 255 ∧ 0 ≤ e.cnt ∧ e.cnt ≤ e.per
/-- The parameter, if it is there. -/
def parV (e : E) (P : List Int) : Option Int := P[e.par.toNat]?
/-- Is a monitor violated? -/
def viol (e : E) (P : List Int) : Bool := match P[e.par.toNat]? with | none => false | some x => decide (x < e.lo) || decide (e.hi < x)
def trips (e : E) (P : List Int) : Bool := e.on && viol e P && !e.tr && decide (e.per ≤ e.cnt + 1)
def tickE (e : E) (P : List Int) : E :=
  if e.on = false then e else if viol e P = false then { e with cnt := 0 } else { e with cnt := mn e.per (e.cnt + 1), tr := e.tr || decide (e.per ≤ e.cnt + 1) }
theorem tick_ok {e : E} (h : okE e) (P : List Int) : okE (tickE e P) := by
  unfold okE at *
  unfold tickE
  split
  · exact h
  · split
    · simp only; omega
    · simp only [mn]; omega
section
variable {L : List E} {w : World} {base g cap n i : Nat} {e : E}
abbrev Row (w : World) (base g cap : Nat) (L : List E) : Prop := w.ownsRow base 72 9 (.slice (some ⟨g, 0, none⟩) L.length cap) L.length (L.flatMap ec)
theorem row_cell (h : Row w base g cap L) (hi : L[i]? = some e) (k : Nat) (hk : k < 9) : w.cell? ⟨g, i * 9 + k, none⟩ = (ec e)[k]? := by
  have h1 := flat_get ec_len L i k e hi hk
  have h2 : (ec e)[k]? = some ((ec e)[k]'(by rw [ec_len]; exact hk)) := List.getElem?_eq_getElem _
  rw [h2] at h1 ⊢
  exact own_cell h h1
theorem row_set (h : Row w base g cap L) (hi : L[i]? = some e) (k : Nat) (hk : k < 9) (u : Value) (e' : E) (hu : (ec e).set k u = ec e') : Row (w.setCell ⟨g, i * 9 + k, none⟩ u) base g cap (L.set i e') := by
  have hlt : i < L.length := by
    rcases Nat.lt_or_ge i L.length with h | h
    · exact h
    · rw [List.getElem?_eq_none h] at hi; cases hi
  have := own_set h (j := i * 9 + k) (by omega) u
  rw [flat_set ec_len L i k e e' u hi hk hu] at this
  unfold Row
  rw [List.length_set]
  exact this
theorem row_drewN (h : Row w base g cap L) (q : Nat) : Row (w.drewN q) base g cap L := own_drewN h q
theorem row_drew (h : Row w base g cap L) : Row w.drew base g cap L := own_drewN h 1
end
def TickR (w : World) (base g cap : Nat) (L : List E) (e : Ending) (b : Bool) (w' : World) : Prop := e = .returned (.bool b) ∧ Row w' base g cap L ∧ Mod (fun k => k = g) w w'
theorem set_get {L : List E} {i : Nat} {e : E} (hi : L[i]? = some e) : L.set i e = L := by
  apply List.ext_getElem?
  intro j
  rw [List.getElem?_set]
  split
  · subst_vars; split
    · exact hi.symm
    · rw [List.getElem?_eq_none (by omega)]
  · rfl
section
variable {L : List E} {w : World} {base g cap i : Nat} {e : E} {pv : Value} {P : List Int}
set_option maxHeartbeats 1600000 in
theorem tick_off (o : Nat) (ho : o = i * 9) (h : Row w base g cap L) (hi : L[i]? = some e) (hon : e.on = false) :
    Calls Try.prog 31 #[.pointer (some ⟨g, o, none⟩), pv] w fun en w' => TickR w base g cap (L.set i (tickE e P)) en (trips e P) w' := by
  have c6 := row_cell h hi 6 (by omega)
  rw [← ho] at c6
  simp only [ec, hon, List.getElem?_cons_succ, List.getElem?_cons_zero] at c6
  have R : Hid (TickR w base g cap (L.set i (tickE e P)) (.returned (.bool false)) (trips e P) w) := Lib.hid (by
    refine ⟨by unfold trips; simp [hon], ?_, Mod.refl _ _⟩
    unfold tickE; rw [if_pos hon, set_get hi]; exact h)
  clear h hi hon ho
  go_enter Try.func31, Try.ntmps31
  go_wp2_with (fail)
  go_ret
  exact R.out
set_option maxHeartbeats 1600000 in
/-- No such parameter. -/
theorem tick_lack (o : Nat) (ho : o = i * 9) (h : Row w base g cap L) (hi : L[i]? = some e) (hok : okE e) (hon : e.on = true) (a : Option Addr) (c pn : Nat) (hl : pn = P.length) (hp : (P.length : Int) ≤ e.par) :
    Calls Try.prog 31 #[.pointer (some ⟨g, o, none⟩), .slice a pn c] w fun en w' => TickR w base g cap (L.set i (tickE e P)) en (trips e P) w' := by
  have c6 := row_cell h hi 6 (by omega)
  have c0 := row_cell h hi 0 (by omega)
  have c7 := row_cell h hi 7 (by omega)
  rw [← ho] at c6 c0 c7
  simp only [ec, hon, List.getElem?_cons_succ, List.getElem?_cons_zero, Nat.add_zero] at c6 c0 c7
  obtain ⟨par, hpar⟩ : ∃ p, p = e.par := ⟨_, rfl⟩
  rw [← hpar] at c0
  have hv : viol e P = false := by unfold viol; rw [List.getElem?_eq_none (by unfold okE at hok; omega)]
  have R : Hid (∀ q, TickR w base g cap (L.set i (tickE e P)) (.returned (.bool false)) (trips e P) (((w.drewN q).setCell ⟨g, o + 7, none⟩ (.int .i64 0)))) := Lib.hid (fun q => by
    refine ⟨by unfold trips; simp [hv], ?_, ?_⟩
    · unfold tickE; rw [if_neg (by simp [hon]), if_pos hv, ho]
      exact row_set (row_drewN h q) hi 7 (by omega) _ _ rfl
    · exact mod_at ((Mod.refl _ w).drewN q) _)
  have f7 := own_free h (o + 7)
  have hd : decide ((pn : Int) ≤ par) = true := by rw [hl, hpar]; simpa using hp
  clear h hi hon ho hok hp hl hv hpar
  go_enter Try.func31, Try.ntmps31
  go_wp2_with (fail)
  go_quiet (fail)
  go_wp2_with (fail)
  go_ret
  exact R.out _
set_option maxHeartbeats 1600000 in
/-- Within its limits. -/
theorem tick_fine (o : Nat) (ho : o = i * 9) (h : Row w base g cap L) (hi : L[i]? = some e) (hon : e.on = true) (b off c pn k : Nat) (x : Int) (hl : pn = P.length) (hk : e.par = k) (hx : P[k]? = some x) (hc : w.cell? ⟨b, off + k, none⟩ = some (.int .i64 x)) (hlo : e.lo ≤ x) (hhi : x ≤ e.hi) :
    Calls Try.prog 31 #[.pointer (some ⟨g, o, none⟩), .slice (some ⟨b, off, none⟩) pn c] w fun en w' => TickR w base g cap (L.set i (tickE e P)) en (trips e P) w' := by
  have c6 := row_cell h hi 6 (by omega)
  have c0 := row_cell h hi 0 (by omega)
  have c1 := row_cell h hi 1 (by omega)
  have c2 := row_cell h hi 2 (by omega)
  have c7 := row_cell h hi 7 (by omega)
  rw [← ho] at c6 c0 c7 c1 c2
  simp only [ec, hon, List.getElem?_cons_succ, List.getElem?_cons_zero, Nat.add_zero] at c6 c0 c7 c1 c2
  rw [hk] at c0
  have hv : viol e P = false := by unfold viol; rw [hk]; simp only [Int.toNat_natCast, hx]; simp; omega
  have R : Hid (∀ q, TickR w base g cap (L.set i (tickE e P)) (.returned (.bool false)) (trips e P) (((w.drewN q).setCell ⟨g, o + 7, none⟩ (.int .i64 0)))) := Lib.hid (fun q => by
    refine ⟨by unfold trips; simp [hv], ?_, ?_⟩
    · unfold tickE; rw [if_neg (by simp [hon]), if_pos hv, ho]
      exact row_set (row_drewN h q) hi 7 (by omega) _ _ rfl
    · exact mod_at ((Mod.refl _ w).drewN q) _)
  have f7 := own_free h (o + 7)
  have hlt : k < pn := by
    rcases Nat.lt_or_ge k P.length with h | h
    · omega
    · rw [List.getElem?_eq_none h] at hx; cases hx
  obtain ⟨lo, elo⟩ : ∃ p, p = e.lo := ⟨_, rfl⟩
  obtain ⟨hi', ehi⟩ : ∃ p, p = e.hi := ⟨_, rfl⟩
  rw [← elo] at c1 hlo
  rw [← ehi] at c2 hhi
  have hdn : decide (pn ≤ k) = false := by simp; omega
  have hd : decide ((pn : Int) ≤ (k : Int)) = false := by simp; omega
  have hd1 : decide (lo ≤ x) = true := by simpa using hlo
  have hd2 : decide (x ≤ hi') = true := by simpa using hhi
  have hd3 : (0 : Int) ≤ (k : Int) := by omega
  have hd4 : (k : Int) < (pn : Int) := by omega
  clear h hi hon ho hl hv hx elo ehi hlo hhi hk
  go_enter Try.func31, Try.ntmps31
  go_wp2_with (fail)
  go_quiet (fail)
  go_wp2_with (fail)
  go_ret
  exact R.out _
theorem rowset2 (h : Row w base g cap L) (hi : L[i]? = some e) (q q' : Nat) (c : Int) (t : Bool) (b : Bool) (hb : b = (e.tr || t)) : (t = false ∨ b = true) →
    Row (if t = true then ((((w.drewN q).setCell ⟨g, i * 9 + 7, none⟩ (.int .i64 c)).drewN q').setCell ⟨g, i * 9 + 8, none⟩ (.bool true)) else (((w.drewN q).setCell ⟨g, i * 9 + 7, none⟩ (.int .i64 c)).drewN q')) base g cap (L.set i { e with cnt := c, tr := b }) := by
  intro htb
  have h1 := row_set (row_drewN h q) hi 7 (by omega) (.int .i64 c) { e with cnt := c } rfl
  have h1' := row_drewN h1 q'
  have hlt : i < L.length := by
    rcases Nat.lt_or_ge i L.length with h | h
    · exact h
    · rw [List.getElem?_eq_none h] at hi; cases hi
  cases t with
  | false =>
    simp only [Bool.or_false] at hb
    subst hb
    simp only [Bool.false_eq_true, if_false]
    exact h1'
  | true =>
    simp only [if_true]
    have hb' : b = true := by simpa using htb
    subst hb'
    have h2 := row_set h1' (i := i) (e := { e with cnt := c }) (by simp [hlt]) 8 (by omega) (.bool true) { e with cnt := c, tr := true } rfl
    rw [List.set_set] at h2
    exact h2
set_option maxHeartbeats 3200000 in
/-- Out of its limits. -/
theorem tick_out (o : Nat) (ho : o = i * 9) (h : Row w base g cap L) (hi : L[i]? = some e) (hok : okE e) (hon : e.on = true) (b off c pn k : Nat) (x : Int) (hl : pn = P.length) (hk : e.par = k) (hx : P[k]? = some x) (hc : w.cell? ⟨b, off + k, none⟩ = some (.int .i64 x)) (hvi : x < e.lo ∨ (e.lo ≤ x ∧ e.hi < x)) :
    Calls Try.prog 31 #[.pointer (some ⟨g, o, none⟩), .slice (some ⟨b, off, none⟩) pn c] w fun en w' => TickR w base g cap (L.set i (tickE e P)) en (trips e P) w' := by
  have c6 := row_cell h hi 6 (by omega)
  have c0 := row_cell h hi 0 (by omega)
  have c1 := row_cell h hi 1 (by omega)
  have c2 := row_cell h hi 2 (by omega)
  have c3 := row_cell h hi 3 (by omega)
  have c7 := row_cell h hi 7 (by omega)
  have c8 := row_cell h hi 8 (by omega)
  rw [← ho] at c6 c0 c7 c1 c2 c3 c8
  simp only [ec, hon, List.getElem?_cons_succ, List.getElem?_cons_zero, Nat.add_zero] at c6 c0 c7 c1 c2 c3 c8
  rw [hk] at c0
  rw [show o + 8 = o + 7 + 1 from rfl] at c8
  have hv : viol e P = true := by unfold viol; rw [hk]; simp only [Int.toNat_natCast, hx]; simp; omega
  obtain ⟨per, eper⟩ : ∃ p, p = e.per := ⟨_, rfl⟩
  obtain ⟨cnt, ecnt⟩ : ∃ p, p = e.cnt := ⟨_, rfl⟩
  have hper : 1 ≤ per ∧ per ≤ 255 ∧ 0 ≤ cnt ∧ cnt ≤ 255 := by unfold okE at hok; omega
  obtain ⟨hp1, hp2, hp3, hp4⟩ := hper
  have hE : tickE e P = { e with cnt := mn per (cnt + 1), tr := e.tr || decide (per ≤ cnt + 1) } := by unfold tickE; rw [if_neg (by simp [hon]), if_neg (by simp [hv]), eper, ecnt]
  have hT : trips e P = (!e.tr && decide (per ≤ cnt + 1)) := by unfold trips; rw [hon, hv, eper, ecnt]; rfl
  have R : Hid (∀ q q', (e.tr = true ∨ cnt + 1 < per → TickR w base g cap (L.set i (tickE e P)) (.returned (.bool false)) (trips e P) ((((w.drewN q).setCell ⟨g, o + 7, none⟩ (.int .i64 (mn per (cnt + 1)))).drewN q'))) ∧
      (e.tr = false ∧ per ≤ cnt + 1 → TickR w base g cap (L.set i (tickE e P)) (.returned (.bool true)) (trips e P) (((w.setCell ⟨g, o + 7, none⟩ (.int .i64 (mn per (cnt + 1)))).setCell ⟨g, o + 7 + 1, none⟩ (.bool true)).drewN q))) := Lib.hid (fun q q' => by
    refine ⟨fun hh => ⟨?_, ?_, ?_⟩, fun hh => ⟨?_, ?_, ?_⟩⟩
    · rw [hT]; rcases hh with hh | hh
      · rw [hh]; rfl
      · rw [show decide (per ≤ cnt + 1) = false by simp; omega]; simp
    · rw [hE, ho]
      have := rowset2 h hi q q' (mn per (cnt + 1)) false (e.tr || decide (per ≤ cnt + 1)) (by
        rcases hh with hh | hh
        · rw [hh]; rfl
        · rw [show decide (per ≤ cnt + 1) = false by simp; omega]) (.inl rfl)
      simpa using this
    · exact (mod_at ((Mod.refl _ w).drewN q) _).drewN q'
    · rw [hT, hh.1, show decide (per ≤ cnt + 1) = true by simpa using hh.2]; rfl
    · rw [hE, ho]
      have := rowset2 h hi 0 0 (mn per (cnt + 1)) true (e.tr || decide (per ≤ cnt + 1)) (by
        rw [hh.1, show decide (per ≤ cnt + 1) = true by simpa using hh.2]) (.inr (by rw [hh.1, show decide (per ≤ cnt + 1) = true by simpa using hh.2]; rfl))
      rw [if_pos rfl] at this
      exact row_drewN this q
    · exact (mod_at (mod_at (Mod.refl _ w) _) _).drewN q)
  have f7 := own_free h (o + 7)
  have f8 := own_free h (o + 7 + 1)
  have hlt : k < pn := by
    rcases Nat.lt_or_ge k P.length with h | h
    · omega
    · rw [List.getElem?_eq_none h] at hx; cases hx
  obtain ⟨lo, elo⟩ : ∃ p, p = e.lo := ⟨_, rfl⟩
  obtain ⟨hi', ehi⟩ : ∃ p, p = e.hi := ⟨_, rfl⟩
  rw [← elo] at c1 hvi
  rw [← ehi] at c2 hvi
  rw [← eper] at c3
  rw [← ecnt] at c7
  obtain ⟨tr, etr⟩ : ∃ p, p = e.tr := ⟨_, rfl⟩
  rw [← etr] at c8 R
  have hdn : decide (pn ≤ k) = false := by simp; omega
  have hd : decide ((pn : Int) ≤ (k : Int)) = false := by simp; omega
  have hd3 : (0 : Int) ≤ (k : Int) := by omega
  have hd4 : (k : Int) < (pn : Int) := by omega
  have gmn := fun w x y => run_min_mn Try.prog w #[3, 3] 3 .i64 .i64 x y
  have hq : tr = true ∨ tr = false ∧ cnt + 1 < per ∨ tr = false ∧ per ≤ cnt + 1 := by cases tr <;> simp <;> omega
  have hm1 : cnt + 1 < per → decide (mn per (cnt + 1) < per) = true := fun h => by unfold mn; simp; omega
  have hm2 : per ≤ cnt + 1 → decide (mn per (cnt + 1) < per) = false := fun h => by unfold mn; simp; omega
  have HM1 := Lib.hid hm1; have HM2 := Lib.hid hm2
  clear h hi hon ho hl hv hx elo ehi hk etr eper ecnt hm1 hm2 hE hT hok
  have W := IntWalk.i64_in (cnt + 1) (by omega)
  rcases hvi with hvi | ⟨hvi1, hvi2⟩
  · have hd1 : decide (lo ≤ x) = false := by simpa using hvi
    rcases hq with rfl | ⟨rfl, hq⟩ | ⟨rfl, hq⟩
    · have QQ := Lib.hid (fun q q' => (R.out q q').1 (.inl rfl))
      clear R
      go_enter Try.func31, Try.ntmps31
      go_wp2_with (fail)
      go_quiet (fail)
      go_wp2_with (fail)
      refine region_still_tail 16 (by kernel_rfl) (by kernel_rfl) ?_
      simp only [List.take_succ_cons, List.take_zero, List.drop_succ_cons, List.drop_zero]
      (repeat still_step)
      refine wpStill_nil ?_
      go_wp2_with (fail)
      go_quiet (fail)
      go_wp2_with (fail)
      go_ret
      exact QQ.out _ _
    · have hm := HM1.out hq
      have QQ := Lib.hid (fun q q' => (R.out q q').1 (.inr hq))
      clear R
      go_enter Try.func31, Try.ntmps31
      go_wp2_with (fail)
      go_quiet (fail)
      go_wp2_with (fail)
      refine region_still_tail 16 (by kernel_rfl) (by kernel_rfl) ?_
      simp only [List.take_succ_cons, List.take_zero, List.drop_succ_cons, List.drop_zero]
      (repeat still_step)
      refine wpStill_nil ?_
      go_wp2_with (fail)
      go_quiet (fail)
      go_wp2_with (fail)
      go_ret
      exact QQ.out _ _
    · have hm := HM2.out hq
      have QQ := Lib.hid (fun q q' => (R.out q q').2 ⟨rfl, hq⟩)
      clear R
      go_enter Try.func31, Try.ntmps31
      go_wp2_with (fail)
      go_quiet (fail)
      go_wp2_with (fail)
      refine region_still_tail 16 (by kernel_rfl) (by kernel_rfl) ?_
      simp only [List.take_succ_cons, List.take_zero, List.drop_succ_cons, List.drop_zero]
      (repeat still_step)
      refine wpStill_nil ?_
      go_wp2_with (fail)
      go_quiet (fail)
      go_wp2_with (fail)
      go_ret
      exact QQ.out _ 0
  · have hd1 : decide (lo ≤ x) = true := by simpa using hvi1
    have hd2 : decide (x ≤ hi') = false := by simpa using hvi2
    rcases hq with rfl | ⟨rfl, hq⟩ | ⟨rfl, hq⟩
    · have QQ := Lib.hid (fun q q' => (R.out q q').1 (.inl rfl))
      clear R
      go_enter Try.func31, Try.ntmps31
      go_wp2_with (fail)
      go_quiet (fail)
      go_wp2_with (fail)
      refine region_still_tail 16 (by kernel_rfl) (by kernel_rfl) ?_
      simp only [List.take_succ_cons, List.take_zero, List.drop_succ_cons, List.drop_zero]
      (repeat still_step)
      refine wpStill_nil ?_
      go_wp2_with (fail)
      go_quiet (fail)
      go_wp2_with (fail)
      go_ret
      exact QQ.out _ _
    · have hm := HM1.out hq
      have QQ := Lib.hid (fun q q' => (R.out q q').1 (.inr hq))
      clear R
      go_enter Try.func31, Try.ntmps31
      go_wp2_with (fail)
      go_quiet (fail)
      go_wp2_with (fail)
      refine region_still_tail 16 (by kernel_rfl) (by kernel_rfl) ?_
      simp only [List.take_succ_cons, List.take_zero, List.drop_succ_cons, List.drop_zero]
      (repeat still_step)
      refine wpStill_nil ?_
      go_wp2_with (fail)
      go_quiet (fail)
      go_wp2_with (fail)
      go_ret
      exact QQ.out _ _
    · have hm := HM2.out hq
      have QQ := Lib.hid (fun q q' => (R.out q q').2 ⟨rfl, hq⟩)
      clear R
      go_enter Try.func31, Try.ntmps31
      go_wp2_with (fail)
      go_quiet (fail)
      go_wp2_with (fail)
      refine region_still_tail 16 (by kernel_rfl) (by kernel_rfl) ?_
      simp only [List.take_succ_cons, List.take_zero, List.drop_succ_cons, List.drop_zero]
      (repeat still_step)
      refine wpStill_nil ?_
      go_wp2_with (fail)
      go_quiet (fail)
      go_wp2_with (fail)
      go_ret
      exact QQ.out _ 0
theorem tick_any (o : Nat) (ho : o = i * 9) (h : Row w base g cap L) (hi : L[i]? = some e) (hok : okE e) (hp : PS w pv P) :
    Calls Try.prog 31 #[.pointer (some ⟨g, o, none⟩), pv] w fun en w' => TickR w base g cap (L.set i (tickE e P)) en (trips e P) w' := by
  by_cases hon : e.on = true
  · rcases hp with ⟨b, off, c, rfl, hc⟩ | ⟨rfl, a, c, rfl⟩
    · obtain ⟨k, hk⟩ : ∃ k : Nat, e.par = k := ⟨e.par.toNat, by unfold okE at hok; omega⟩
      by_cases hlt : k < P.length
      · have hx : P[k]? = some (P[k]'hlt) := List.getElem?_eq_getElem _
        generalize P[k]'hlt = x at hx
        by_cases hv : x < e.lo
        · exact tick_out o ho h hi hok hon b off c _ k x rfl hk hx (hc _ _ hx) (.inl hv)
        · by_cases hv2 : e.hi < x
          · exact tick_out o ho h hi hok hon b off c _ k x rfl hk hx (hc _ _ hx) (.inr ⟨by omega, hv2⟩)
          · exact tick_fine o ho h hi hon b off c _ k x rfl hk hx (hc _ _ hx) (by omega) (by omega)
      · exact tick_lack o ho h hi hok hon _ c _ rfl (by omega)
    · exact tick_lack o ho h hi hok hon a c _ rfl (by unfold okE at hok; simp; omega)
  · exact tick_off o ho h hi (by simpa using hon)
end
end Go.Proofs.Ythgilipffdcddaa
