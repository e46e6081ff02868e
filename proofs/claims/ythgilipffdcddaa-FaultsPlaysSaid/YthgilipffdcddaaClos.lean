/-
  The walks of the functions that are handed to selected: of Tick, Tripped and Watches. Conditions: valid monitors.
-/
import Derived.Test.YthgilipffdcddaaTick
namespace Go.Proofs.Ythgilipffdcddaa
open Go.RowKit Kit
set_option linter.unusedVariables false
theorem PS.below {w w' : World} {v : Value} {P : List Int} (h : PS w v P) (hb : Below w.heap.size w w') : PS w' v P := by
  rcases h with ⟨b, off, c, rfl, hc⟩ | h
  · left
    refine ⟨b, off, c, rfl, fun i x hx => ?_⟩
    have h1 := hc i x hx
    have hlt := World.block_lt_of_cell? w _ h1
    rw [(bcell hb).1 b _ hlt]; exact h1
  · exact .inr h
theorem PS.mod {w w' : World} {v : Value} {P : List Int} {g : Nat} (h : PS w v P) (hm : Mod (fun k => k = g) w w') (hg : P = [] ∨ v.ownBlock ≠ some g) : PS w' v P := by
  rcases h with ⟨b, off, c, rfl, hc⟩ | h
  · rcases hg with rfl | hg
    · exact .inr ⟨rfl, _, _, rfl⟩
    left
    refine ⟨b, off, c, rfl, fun i x hx => ?_⟩
    have h1 := hc i x hx
    have hlt := World.block_lt_of_cell? w _ h1
    rw [hm.cell hlt (fun e => hg (by rw [← e]; rfl))]; exact h1
  · exact .inr h
theorem row_below {w w' : World} {base g cap : Nat} {L : List E} (h : Row w base g cap L) (hb : Below w.heap.size w w') : Row w' base g cap L := own_calm h hb
theorem tickE_same (e : E) (P : List Int) : (tickE e P).par = e.par ∧ (tickE e P).lo = e.lo ∧ (tickE e P).hi = e.hi ∧ (tickE e P).per = e.per ∧ (tickE e P).tier = e.tier ∧ (tickE e P).seq = e.seq ∧ (tickE e P).on = e.on := by
  unfold tickE; split
  · exact ⟨rfl, rfl, rfl, rfl, rfl, rfl, rfl⟩
  · split <;> exact ⟨rfl, rfl, rfl, rfl, rfl, rfl, rfl⟩
theorem tick_after {L : List E} {w1 : World} {base g cap i : Nat} {e : E} {P : List Int} (o : Nat) (ho : o = i * 9) (hi : L[i]? = some e) (h : Row w1 base g cap (L.set i (tickE e P))) :
    w1.cell? ⟨g, o + 4, none⟩ = some (.int .i64 e.tier) ∧ w1.cell? ⟨g, o + 5, none⟩ = some (.int .i64 e.seq) := by
  have hlt : i < L.length := by
    rcases Nat.lt_or_ge i L.length with h | h
    · exact h
    · rw [List.getElem?_eq_none h] at hi; cases hi
  have h1 : (L.set i (tickE e P))[i]? = some (tickE e P) := by simp [hlt]
  have c4 := row_cell h h1 4 (by omega)
  have c5 := row_cell h h1 5 (by omega)
  rw [← ho] at c4 c5
  simp only [ec, List.getElem?_cons_succ, List.getElem?_cons_zero] at c4 c5
  obtain ⟨_, _, _, _, h5, h6, _⟩ := tickE_same e P
  rw [h5] at c4; rw [h6] at c5
  exact ⟨c4, c5⟩
def TickC (w : World) (base g cap : Nat) (L : List E) (e : Ending) (i : Int) (tier seq : Int) (b : Bool) (w' : World) : Prop :=
  e = .returned (.tuple #[.agg #[.int .i64 i, .int .i64 tier, .int .i64 seq], .bool b]) ∧ Row w' base g cap L ∧ Mod (fun k => k = g) w w'
set_option maxHeartbeats 3200000 in
theorem tickc_any {L : List E} {w : World} {base g cap i : Nat} {e : E} {pv : Value} {P : List Int} (pb o : Nat) (ho : o = i * 9) (h : Row w base g cap L) (hi : L[i]? = some e) (hok : okE e) (hp : PS w pv P)
    (hpb : w.cell? ⟨pb, 0, none⟩ = some pv) (hne : pb ≠ g) :
    Calls Try.prog 30 #[.int .i64 i, .pointer (some ⟨g, o, none⟩), .pointer (some ⟨pb, 0, none⟩)] w fun en w' => TickC w base g cap (L.set i (tickE e P)) en i e.tier e.seq (trips e P) w' := by
  have c4 := row_cell h hi 4 (by omega)
  have c5 := row_cell h hi 5 (by omega)
  rw [← ho] at c4 c5
  simp only [ec, List.getElem?_cons_succ, List.getElem?_cons_zero] at c4 c5
  obtain ⟨tier, et⟩ : ∃ p, p = e.tier := ⟨_, rfl⟩
  obtain ⟨seq, es⟩ : ∃ p, p = e.seq := ⟨_, rfl⟩
  rw [← et] at c4 ⊢
  rw [← es] at c5 ⊢
  have HO := Lib.hid ho; have HH := Lib.hid h; have HI := Lib.hid hi; have HK := Lib.hid hok; have HP := Lib.hid hp
  have hgl := (own_lt h).2
  have n4 := World.new_ne w _ c4
  have n5 := World.new_ne w _ c5
  have npb := World.new_ne w _ hpb
  have ET := Lib.hid et; have ES := Lib.hid es
  have hpl := World.block_lt_of_cell? w _ hpb
  simp only at hpl
  clear ho h hi hok hp et es
  go_enter Try.func30, Try.ntmps30
  go_wp2_with (fail)
  go_region_held3 (fun w' => w'.cell? ⟨g, o + 4, none⟩ = some (.int .i64 tier) ∧ w'.cell? ⟨g, o + 5, none⟩ = some (.int .i64 seq) ∧ w'.cell? ⟨pb, 0, none⟩ = some pv) (go_keep)
    ((go_at_call 31; refine (tick_any o HO.out (row_below HH.out (by (repeat (first | exact Below.refl _ _ | refine Below.drew ?_ | refine below_drewN ?_ _ | refine bl_alloc ?_ _ | refine bl_set ?_ (Nat.le_refl _) _)))) HI.out HK.out (HP.out.below (by (repeat (first | exact Below.refl _ _ | refine Below.drew ?_ | refine below_drewN ?_ _ | refine bl_alloc ?_ _ | refine bl_set ?_ (Nat.le_refl _) _))))).mono ?_; rintro en w1 ⟨rfl, hr1, hm1⟩; obtain ⟨k4, k5⟩ := tick_after o HO.out HI.out hr1; rw [← ET.out] at k4; rw [← ES.out] at k5; have q3 := hm1.size; have k3 := hm1.cell (b := pb) (o := 0) (by simp; omega) hne; simp [*, go_sem] at k3; have kb := hm1.keeps (hp_drew (hp_new w _)) (by omega); have k6 := cell_of (i := 0) kb rfl; have k7 := cell_of (i := 1) kb rfl; have k8 := cell_of (i := 2) kb rfl; have k9 := fun j => free_of (i := j) kb; have kz := lt_of_obj kb; replace kb := Lib.hid kb; clear q3; replace hr1 := Lib.hid hr1; replace hm1 := Lib.hid hm1))
  go_wp2_with (fail)
  refine bodyPost_ret (v := .tuple #[.agg #[.int .i64 i, .int .i64 tier, .int .i64 seq], .bool (trips e P)]) (by simp [results, Try.results30, go_sem, k6, k7, k8]) rfl ⟨rfl, ?_, ?_⟩
  · have m1 : Mod (fun k => k = w.heap.size) w1 _ := mod_at (mod_at (mod_at (i := 0) (Mod.refl _ w1) (.int .i64 i)) (i := 1) (.int .i64 tier)) (i := 2) (.int .i64 seq)
    exact own_mod hr1.out m1 (fun k hk => by have : g = k := by simpa [Value.ownBlock] using hk
                                             omega)
  · have m0 : Mod (fun k => k = g) w w1 := ((Mod.refl _ w).alloc _).drew.trans hm1.out (fun _ _ h => h)
    exact mod_new (mod_new (mod_new m0 (Nat.le_refl _) _) (Nat.le_refl _) _) (Nat.le_refl _) _
/-- Has it tripped, in this tier? -/
def isTr (e : E) (t : Int) : Bool := decide (e.tier = t) && e.tr
set_option maxHeartbeats 1600000 in
theorem trippedc_any {L : List E} {w : World} {base g cap i : Nat} {e : E} (pb o : Nat) (t : Int) (ho : o = i * 9) (h : Row w base g cap L) (hi : L[i]? = some e) (hpb : w.cell? ⟨pb, 0, none⟩ = some (.int .i64 t)) :
    Calls Try.prog 33 #[.int .i64 i, .pointer (some ⟨g, o, none⟩), .pointer (some ⟨pb, 0, none⟩)] w fun en w' => en = .returned (.tuple #[.int .i64 0, .bool (isTr e t)]) ∧ Below w.heap.size w w' := by
  have c4 := row_cell h hi 4 (by omega)
  have c8 := row_cell h hi 8 (by omega)
  rw [← ho] at c4 c8
  simp only [ec, List.getElem?_cons_succ, List.getElem?_cons_zero] at c4 c8
  rw [show o + 8 = o + 7 + 1 from rfl] at c8
  obtain ⟨tier, et⟩ : ∃ p, p = e.tier := ⟨_, rfl⟩
  obtain ⟨tr, es⟩ : ∃ p, p = e.tr := ⟨_, rfl⟩
  have K : Hid (isTr e t = (decide (tier = t) && tr)) := Lib.hid (by rw [et, es]; rfl)
  rw [← et] at c4
  rw [← es] at c8
  clear ho h hi et es
  by_cases ht : tier = t
  · subst ht
    go_enter Try.func33, Try.ntmps33
    go_wp2_with (fail)
    go_quiet (fail)
    go_wp2_with (fail)
    go_ret2
    exact ⟨by rw [K.out]; simp, below_drewN (Below.refl _ _) _⟩
  · have hd : (tier == t) = false := by simpa using ht
    have HT := Lib.hid ht
    clear ht
    go_enter Try.func33, Try.ntmps33
    go_wp2_with (fail)
    go_quiet (fail)
    go_wp2_with (fail)
    go_ret2
    exact ⟨by rw [K.out]; simp [HT.out], below_drewN (Below.refl _ _) _⟩
set_option maxHeartbeats 1600000 in
theorem watchesc_any {L : List E} {w : World} {base g cap i : Nat} {e : E} (o : Nat) (ho : o = i * 9) (h : Row w base g cap L) (hi : L[i]? = some e) :
    Calls Try.prog 39 #[.int .i64 i, .pointer (some ⟨g, o, none⟩)] w fun en w' => en = .returned (.tuple #[.agg #[.int .i64 e.cnt, .bool e.tr], .bool true]) ∧ Below w.heap.size w w' := by
  have c7 := row_cell h hi 7 (by omega)
  have c8 := row_cell h hi 8 (by omega)
  rw [← ho] at c7 c8
  simp only [ec, List.getElem?_cons_succ, List.getElem?_cons_zero] at c7 c8
  rw [show o + 8 = o + 7 + 1 from rfl] at c8
  have hgl := (own_lt h).2
  clear ho h hi
  go_enter Try.func39, Try.ntmps39
  go_wp2_with (fail)
  refine bodyPost_ret (v := .tuple #[.agg #[.int .i64 e.cnt, .bool e.tr], .bool true]) (by simp [results, Try.results39, go_sem]) rfl ⟨rfl, ?_⟩
  exact bl_alloc (Below.refl _ _) _
end Go.Proofs.Ythgilipffdcddaa
