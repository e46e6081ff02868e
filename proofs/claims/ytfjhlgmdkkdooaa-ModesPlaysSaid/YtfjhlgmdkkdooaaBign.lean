/-
  The reference's functions on numbers, said of natural numbers: the digits of a number are its only ones. Conditions: those that each theorem names.
-/
import Derived.Test.YtfjhlgmdkkdooaaBigc
import Derived.Test.YtfjhlgmdkkdooaaBigd
import Derived.Test.YtfjhlgmdkkdooaaBige
import Derived.Test.YtfjhlgmdkkdooaaBigf
namespace Go.Proofs.Ytfjhlgmdkkdooaa
open Go.RowKit Kit
set_option linter.unusedVariables false
def dig (v : Nat) : List Nat := (List.range 17).map fun i => v / 65536 ^ i % 65536
theorem dig_get (v i : Nat) (hi : i < 17) : (dig v).getD i 0 = v / 65536 ^ i % 65536 := by
  unfold dig; rw [List.getD_eq_getElem?_getD]; simp [hi]
theorem dig_ok (v : Nat) : okB (dig v) := by
  refine ⟨by simp [dig], fun i => ?_⟩
  by_cases hi : i < 17
  · rw [dig_get v i hi]; exact Nat.mod_lt _ (by decide)
  · rw [List.getD_eq_getElem?_getD, List.getElem?_eq_none (by simp [dig]; omega)]; decide
theorem pv_dig_mod (v : Nat) : ∀ k, k ≤ 17 → pv (dig v) k = v % 65536 ^ k
  | 0, _ => by rw [pv0, Nat.pow_zero, Nat.mod_one]
  | k + 1, hk => by
    rw [pv, pv_dig_mod v k (by omega), dig_get v k (by omega), Nat.pow_succ, Nat.mod_mul, Nat.mul_comm (65536 ^ k)]
theorem val_dig {v : Nat} (h : v < 65536 ^ 17) : val (dig v) = v := by
  unfold val; rw [pv_dig_mod v 17 (Nat.le_refl _), Nat.mod_eq_of_lt h]
theorem top_eq {a b x y p : Nat} (ha : a < p) (hb : b < p) (h : a + x * p = b + y * p) : a = b ∧ x = y := by
  have h1 : (a + x * p) / p = x := by rw [Nat.add_mul_div_right _ _ (by omega), Nat.div_eq_of_lt ha, Nat.zero_add]
  have h2 : (b + y * p) / p = y := by rw [Nat.add_mul_div_right _ _ (by omega), Nat.div_eq_of_lt hb, Nat.zero_add]
  have hxy : x = y := by rw [← h1, ← h2, h]
  subst hxy
  exact ⟨by omega, rfl⟩
theorem pv_inj {L M : List Nat} (hL : okB L) (hM : okB M) : ∀ n, pv L n = pv M n → ∀ i, i < n → L.getD i 0 = M.getD i 0
  | 0, _, i, hi => by omega
  | n + 1, h, i, hi => by
    rw [pv, pv] at h
    obtain ⟨h1, h2⟩ := top_eq (pv_lt hL.lt n) (pv_lt hM.lt n) h
    by_cases e : i = n
    · rw [e]; exact h2
    · exact pv_inj hL hM n h1 i (by omega)
theorem ok_dig {L : List Nat} (hL : okB L) : L = dig (val L) := by
  have hv : val L = val (dig (val L)) := (val_dig (pv_lt hL.lt 17)).symm
  apply List.ext_getElem
  · rw [hL.len, (dig_ok _).len]
  · intro i h1 h2
    have := pv_inj hL (dig_ok _) 17 hv i (by rw [hL.len] at h1; exact h1)
    rw [List.getD_eq_getElem?_getD, List.getElem?_eq_getElem h1, List.getD_eq_getElem?_getD, List.getElem?_eq_getElem h2] at this
    exact this
def bg (v : Nat) : Array Value := big (dig v)
/-- A block that holds a number. -/
def BN (w : World) (B v : Nat) : Prop := BB w B (dig v)
/-- Numbers below 2 to the power 140. -/
def Sm (a : Nat) : Prop := a < 1393796574908163946345982392040522594123776
theorem Sm.lt {a : Nat} (h : Sm a) : a < 65536 ^ 17 := Nat.lt_trans h (by decide)
theorem zeros_dig : zeros = dig 0 := by
  have := ok_dig zeros_ok
  rwa [show val zeros = 0 from pv_zeros 17] at this
theorem rb_num {v : Nat} {w w' : World} {e : Ending} (h : RB v w e w') : e = .returned (.agg (bg v)) ∧ Below w.heap.size w w' := by
  obtain ⟨L, h1, h2, h3, h4⟩ := h
  refine ⟨?_, h4⟩
  rw [h1, bg, ← h3, ← ok_dig h2]
theorem add_n {a b : Nat} (h : Sm (a + b)) (w : World) : Calls Try.prog 27 #[.agg (bg a), .agg (bg b)] w fun e w' => e = .returned (.agg (bg (a + b))) ∧ Below w.heap.size w w' := by
  have ha := val_dig (Sm.lt (a := a) (Nat.lt_of_le_of_lt (Nat.le_add_right _ _) h))
  have hb := val_dig (Sm.lt (a := b) (Nat.lt_of_le_of_lt (Nat.le_add_left _ _) h))
  have := add_any (dig a) (dig b) (dig_ok a) (dig_ok b) (by rw [ha, hb]; exact h.lt) w
  rw [ha, hb] at this
  exact this.mono fun _ _ => rb_num
theorem times_n {a b : Nat} (ha : a < 340282366920938463463374607431768211456) (hb : b < 340282366920938463463374607431768211456) (w : World) : Calls Try.prog 28 #[.agg (bg a), .agg (bg b)] w fun e w' => e = .returned (.agg (bg (a * b))) ∧ Below w.heap.size w w' := by
  have e8 : (65536 : Nat) ^ 8 = 340282366920938463463374607431768211456 := by decide
  have h1 := val_dig (v := a) (Nat.lt_trans ha (by decide))
  have h2 := val_dig (v := b) (Nat.lt_trans hb (by decide))
  have := times_any (dig a) (dig b) (dig_ok a) (dig_ok b) (by rw [h1, e8]; exact ha) (by rw [h2, e8]; exact hb) w
  rw [h1, h2] at this
  exact this.mono fun _ _ => rb_num
theorem half_n {a : Nat} (h : Sm a) (w : World) : Calls Try.prog 37 #[.agg (bg a)] w fun e w' => e = .returned (.agg (bg (a / 2))) ∧ Below w.heap.size w w' := by
  have := half_any (dig a) (dig_ok a) w
  rw [val_dig h.lt] at this
  exact this.mono fun _ _ => rb_num
theorem less_n {a b : Nat} (ha : Sm a) (hb : Sm b) (w : World) : Calls Try.prog 36 #[.agg (bg a), .agg (bg b)] w fun e w' => e = .returned (.bool (decide (a < b))) ∧ Below w.heap.size w w' := by
  have := less_any (dig a) (dig b) (dig_ok a) (dig_ok b) w
  rw [val_dig ha.lt, val_dig hb.lt] at this
  exact this
theorem abs_n (a : Int) (h : -9223372036854775808 ≤ a ∧ a ≤ 9223372036854775807) (w : World) : Calls Try.prog 29 #[.int .i64 a] w fun e w' => e = .returned (.agg (bg a.natAbs)) ∧ Below w.heap.size w w' :=
  (abs_any a h w).mono fun _ _ => rb_num
theorem signed_n {v : Nat} (h : v < 9223372036854775808) (w : World) : Calls Try.prog 30 #[.bool false, .agg (bg v)] w fun e w' => e = .returned (.tuple #[.int .i64 (v : Nat), .int .i64 0]) ∧ Below w.heap.size w w' := by
  have hv := val_dig (v := v) (Nat.lt_trans h (by decide))
  have := signed_any (dig v) (dig_ok v) (by rw [hv]; exact h) w
  rw [hv] at this
  exact this
theorem BN.new (w : World) (v : Nat) : BN (w.alloc (.cells (bg v) 63)) w.heap.size v := hp_new w _
theorem BN.zero (w : World) : BN (w.alloc (.cells #[.int .u64 0, .int .u64 0, .int .u64 0, .int .u64 0, .int .u64 0, .int .u64 0, .int .u64 0, .int .u64 0, .int .u64 0, .int .u64 0, .int .u64 0, .int .u64 0, .int .u64 0, .int .u64 0, .int .u64 0, .int .u64 0, .int .u64 0] 63)) w.heap.size 0 := by
  unfold BN; rw [← zlit, ← zeros_dig]; exact BB.new w zeros
theorem BN.old {w : World} {B v : Nat} (h : BN w B v) (o : Obj) : BN (w.alloc o) B v := hp_old h o
theorem BN.lt {w : World} {B v : Nat} (h : BN w B v) : B < w.heap.size := lt_of_obj h
theorem BN.below {w w' : World} {B v : Nat} (h : BN w B v) (hb : Below w.heap.size w w') : BN w' B v := below_keeps hb h h.lt
theorem BN.put {w : World} {g u : Nat} (h : BN w g u) (v : Nat) : BN (w.setRow g (bg v)) g v := BB.put h _
theorem BN.putNe {w : World} {g k u : Nat} (h : BN w g u) (hne : g ≠ k) (v : Nat) : BN (w.setRow k (bg v)) g u := BB.putNe h hne _
theorem num_load {ops : Array Oper} {rest : List Oper} {o : Oper} {a : Act} {w : World} {Q : Exit → Act → World → Prop} (hgd : o.guard = none) (x : Operand) (ho : o.op = .load 63 x)
    (g v : Nat) (hx : a.eval x = .pointer (some ⟨g, 0, none⟩)) (hg : BN w g v) (h : wpList Try.prog ops Q rest (a.put o.dst (.agg (bg v))) w) : wpList Try.prog ops Q (o :: rest) a w :=
  big_load hgd x ho g (dig v) hx hg (dig_ok v) h
theorem num_store {ops : Array Oper} {rest : List Oper} {o : Oper} {a : Act} {w : World} {Q : Exit → Act → World → Prop} (hgd : o.guard = none) (x y : Operand) (ho : o.op = .store 63 x y)
    (g v u : Nat) (hx : a.eval x = .pointer (some ⟨g, 0, none⟩)) (hy : a.eval y = .agg (bg v)) (hg : BN w g u) (h : wpList Try.prog ops Q rest (a.put o.dst undef) (w.setRow g (bg v))) : wpList Try.prog ops Q (o :: rest) a w :=
  big_store hgd x y ho g (dig v) (dig u) hx hy hg (dig_ok u) (dig_ok v) h
theorem num_ret {w W : World} {fn : Func} {v : Nat} {p : Tmp} {a : Act} {g : Nat} (h : fn.results = #[.cell p 63]) (hd : a.defers = []) (hp : a.tmps.getD p undef = .pointer (some ⟨g, 0, none⟩)) (hg : BN W g v) (hb : Below w.heap.size w W) :
    bodyPost Try.prog fn (fun e w' => e = .returned (.agg (bg v)) ∧ Below w.heap.size w w') .ret a W :=
  bodyPost_ret (results_cell_row h _ _ g 63 (big (dig v)) (0, 0) _ hp hg und63 rfl (by rw [siz63, big_size (dig_ok v)])) hd ⟨rfl, hb⟩
/-- A number is loaded in a region that draws its order. -/
theorem calm_num {o : Oper} {a : Act} {K : Act → Prop} {w : World} (x : Operand) (ho : o.op = .load 63 x) (g v : Nat) (hx : a.eval x = .pointer (some ⟨g, 0, none⟩)) (hg : BN w g v) (h : K (a.put o.dst (.agg (bg v)))) :
    o.quiet Try.prog a (fun w' => ∃ y, w' = ext w y) K := by
  refine ⟨_, fun w' ⟨y, hy⟩ => ?_, h⟩
  subst hy
  unfold Oper.quietAt execOp
  simp only [ho, hx, Instr.loadAt, Instr.sureAddr, Sem.run_bind, Sem.run_pure, Result.andThen_ok, run_loadVar_row (ext w y) g 63 63 (big (dig v)) (0, 0) _ (hp_ext hg y) und63 rfl (by rw [siz63, big_size (dig_ok v)])]
  exact ⟨rfl, rfl⟩
end Go.Proofs.Ytfjhlgmdkkdooaa
