/-
  The coded words in plain Lean: what Encode makes, and that Decode gives it back, also with one bit inverted. Conditions: those that each names.
-/
import Derived.Lib.BitFns
import Derived.Lib.TrailingZeros
import Derived.WalkKit
import Derived.ProofKit
import Derived.OpenShut
import Derived.ShutString
import Derived.ChangeOld
import Derived.Below
import Derived.Deep.Slices
import Derived.Lib.Hide
import Derived.WalkSpells
import Derived.WalkLawsBesides
import Derived.Handy
import Derived.StillTailTactics
import Derived.BigQuiet
import Derived.Deep.QuietTactic
import Derived.Deep.RegionHeld3
import Derived.Deep.RegionWith
import Derived.BigRegion
import Derived.LoopTactic
import Derived.Deep.DeepCutAuto
import Derived.Deep.DeepFit
import Derived.StillTail
import Derived.Deep.Quiet
import Derived.Laws.Bits64b
namespace Go.Proofs.YtdebfniifijjoaaDoor
set_option linter.unusedVariables false
/-- The exclusive or of the places of the bits that are 1, below k. -/
def synF (c : Nat) : Nat → Nat
  | 0 => 0
  | k + 1 => synF c k ^^^ (if c.testBit k then k else 0)
/-- How many bits are 1, below k. -/
def popF (c : Nat) : Nat → Nat
  | 0 => 0
  | k + 1 => popF c k + (if c.testBit k then 1 else 0)
theorem xor_if (x y k : Nat) (p q : Bool) : (x ^^^ y) ^^^ (if (p ^^ q) = true then k else 0) = (x ^^^ (if p = true then k else 0)) ^^^ (y ^^^ (if q = true then k else 0)) := by
  apply Nat.eq_of_testBit_eq
  intro n
  cases p <;> cases q <;> simp [Nat.testBit_xor] <;> cases x.testBit n <;> cases y.testBit n <;> cases k.testBit n <;> rfl
theorem synF_xor (a b : Nat) : ∀ k, synF (a ^^^ b) k = synF a k ^^^ synF b k
  | 0 => by simp [synF]
  | k + 1 => by
    simp only [synF, synF_xor a b k, Nat.testBit_xor]
    exact xor_if _ _ _ _ _
theorem popF_xor (a b : Nat) : ∀ k, popF (a ^^^ b) k % 2 = (popF a k + popF b k) % 2
  | 0 => rfl
  | k + 1 => by
    have := popF_xor a b k
    simp only [popF, Nat.testBit_xor]
    cases a.testBit k <;> cases b.testBit k <;> simp <;> omega
theorem synF_pow (b : Nat) : ∀ k, synF (2 ^ b) k = if b < k then b else 0
  | 0 => by simp [synF]
  | k + 1 => by
    simp only [synF, synF_pow b k, Nat.testBit_two_pow]
    rcases Nat.lt_trichotomy b k with h | h | h
    · rw [if_pos h, if_pos (show b < k + 1 by omega), decide_eq_false (show ¬ b = k by omega)]; simp
    · subst h; simp
    · rw [if_neg (show ¬ b < k by omega), if_neg (show ¬ b < k + 1 by omega), decide_eq_false (show ¬ b = k by omega)]; simp
theorem popF_pow (b : Nat) : ∀ k, popF (2 ^ b) k = if b < k then 1 else 0
  | 0 => by simp [popF]
  | k + 1 => by
    simp only [popF, popF_pow b k, Nat.testBit_two_pow]
    rcases Nat.lt_trichotomy b k with h | h | h
    · rw [if_pos h, if_pos (show b < k + 1 by omega), decide_eq_false (show ¬ b = k by omega)]; simp
    · subst h; simp
    · rw [if_neg (show ¬ b < k by omega), if_neg (show ¬ b < k + 1 by omega), decide_eq_false (show ¬ b = k by omega)]; simp
/-- The places of the bits of a word. -/
def plL : List Nat := [3, 5, 6, 7, 9, 10, 11, 12, 13, 14, 15, 17, 18, 19, 20, 21, 22, 23, 24, 25, 26, 27, 28, 29, 30, 31, 33, 34, 35, 36, 37, 38]
def pl (i : Nat) : Nat := plL.getD i 0
theorem pl_lt : ∀ i : Fin 32, pl i.val < 39 ∧ pl i.val ≠ 0 ∧ pl i.val ≠ 1 ∧ pl i.val ≠ 2 ∧ pl i.val ≠ 4 ∧ pl i.val ≠ 8 ∧ pl i.val ≠ 16 ∧ pl i.val ≠ 32 := by decide +kernel
theorem pl_inj : ∀ i j : Fin 32, pl i.val = pl j.val → i = j := by decide +kernel
/-- The bits of a word at their places, the first k of them. -/
def c0F (w : Nat) : Nat → Nat
  | 0 => 0
  | k + 1 => c0F w k ||| (w.testBit k).toNat * 2 ^ pl k
theorem bit_at (b : Bool) (p n : Nat) : (b.toNat * 2 ^ p).testBit n = (b && decide (p = n)) := by
  cases b <;> simp [Nat.testBit_two_pow]
theorem c0F_bit (w : Nat) (n : Nat) : ∀ k, (c0F w k).testBit n = (List.range k).any fun i => w.testBit i && decide (pl i = n)
  | 0 => by simp [c0F]
  | k + 1 => by rw [c0F, Nat.testBit_or, c0F_bit w n k, bit_at, List.range_succ, List.any_append]; simp
theorem c0_none (w n : Nat) (h : ∀ i : Fin 32, pl i.val ≠ n) : (c0F w 32).testBit n = false := by
  rw [c0F_bit, List.any_eq_false]
  intro i hi
  have := h ⟨i, by simpa using hi⟩
  simp [this]
theorem c0_at (w i : Nat) (hi : i < 32) : (c0F w 32).testBit (pl i) = w.testBit i := by
  rw [c0F_bit]
  cases hw : w.testBit i with
  | true =>
    rw [List.any_eq_true]
    exact ⟨i, by simpa using hi, by simp [hw]⟩
  | false =>
    rw [List.any_eq_false]
    intro j hj
    simp only [Bool.and_eq_true, decide_eq_true_eq, not_and]
    intro hwj e
    have := pl_inj ⟨j, by simpa using hj⟩ ⟨i, hi⟩ e
    simp only [Fin.mk.injEq] at this
    subst this
    rw [hw] at hwj; cases hwj
/-- The bits that make the syndrome 0. -/
def qF (s : Nat) : Nat → Nat
  | 0 => 0
  | k + 1 => qF s k ||| (s.testBit k).toNat * 2 ^ 2 ^ k
theorem qF_syn : ∀ s : Fin 64, synF (qF s.val 6) 64 = s.val := by decide +kernel
theorem qF_bits : ∀ s : Fin 64, (qF s.val 6).testBit 0 = false ∧ (∀ i : Fin 32, (qF s.val 6).testBit (pl i.val) = false) ∧ qF s.val 6 < 2 ^ 33 := by decide +kernel
theorem qF_off : ∀ s : Fin 64, ∀ n : Fin 33, n.val ≠ 1 → n.val ≠ 2 → n.val ≠ 4 → n.val ≠ 8 → n.val ≠ 16 → n.val ≠ 32 → (qF s.val 6).testBit n.val = false := by decide +kernel
def syn (c : Nat) : Nat := synF c 64
def par (c : Nat) : Nat := popF c 64 % 2
theorem synF_lt (c : Nat) : ∀ k, k ≤ 64 → synF c k < 64
  | 0, _ => by simp [synF]
  | k + 1, hk => by
    have h1 := synF_lt c k (by omega)
    simp only [synF]
    exact Nat.xor_lt_two_pow (n := 6) h1 (by split <;> omega)
theorem syn_lt (c : Nat) : syn c < 64 := synF_lt c 64 (Nat.le_refl _)
/-- With the bits of the syndrome. -/
def c1 (w : Nat) : Nat := c0F w 32 ||| qF (syn (c0F w 32)) 6
/-- The coded word. -/
def enc (w : Nat) : Nat := c1 w ||| par (c1 w)
theorem or_xor (a b : Nat) (h : ∀ n, a.testBit n = true → b.testBit n = false) : a ||| b = a ^^^ b := by
  apply Nat.eq_of_testBit_eq
  intro n
  rw [Nat.testBit_or, Nat.testBit_xor]
  have := h n
  cases ha : a.testBit n <;> cases hb : b.testBit n <;> simp_all
theorem high (x k n : Nat) (h : x < 2 ^ k) (hn : k ≤ n) : x.testBit n = false := Nat.testBit_lt_two_pow (Nat.lt_of_lt_of_le h (Nat.pow_le_pow_right (by omega) hn))
theorem q_off (s : Nat) (hs : s < 64) (n : Nat) (h1 : n ≠ 1) (h2 : n ≠ 2) (h3 : n ≠ 4) (h4 : n ≠ 8) (h5 : n ≠ 16) (h6 : n ≠ 32) : (qF s 6).testBit n = false := by
  rcases Nat.lt_or_ge n 33 with h | h
  · exact qF_off ⟨s, hs⟩ ⟨n, h⟩ h1 h2 h3 h4 h5 h6
  · exact high _ 33 n (qF_bits ⟨s, hs⟩).2.2 h
theorem c0_pow (w : Nat) : (c0F w 32).testBit 0 = false ∧ (c0F w 32).testBit 1 = false ∧ (c0F w 32).testBit 2 = false ∧ (c0F w 32).testBit 4 = false ∧ (c0F w 32).testBit 8 = false ∧ (c0F w 32).testBit 16 = false ∧ (c0F w 32).testBit 32 = false :=
  ⟨c0_none w 0 fun i => (pl_lt i).2.1, c0_none w 1 fun i => (pl_lt i).2.2.1, c0_none w 2 fun i => (pl_lt i).2.2.2.1, c0_none w 4 fun i => (pl_lt i).2.2.2.2.1, c0_none w 8 fun i => (pl_lt i).2.2.2.2.2.1, c0_none w 16 fun i => (pl_lt i).2.2.2.2.2.2.1, c0_none w 32 fun i => (pl_lt i).2.2.2.2.2.2.2⟩
theorem c1_xor (w : Nat) : c1 w = c0F w 32 ^^^ qF (syn (c0F w 32)) 6 := by
  refine or_xor _ _ fun n hn => ?_
  obtain ⟨_, h1, h2, h4, h8, h16, h32⟩ := c0_pow w
  refine q_off _ (syn_lt _) n ?_ ?_ ?_ ?_ ?_ ?_ <;> (rintro rfl; simp_all)
theorem c1_syn (w : Nat) : syn (c1 w) = 0 := by
  rw [c1_xor, syn, synF_xor, qF_syn ⟨syn (c0F w 32), syn_lt _⟩]
  exact Nat.xor_self _
theorem c1_zero (w : Nat) : (c1 w).testBit 0 = false := by
  rw [c1, Nat.testBit_or, (c0_pow w).1, (qF_bits ⟨_, syn_lt _⟩).1]; rfl
theorem par_lt (c : Nat) : par c < 2 := Nat.mod_lt _ (by omega)
theorem enc_xor (w : Nat) : enc w = c1 w ^^^ par (c1 w) := by
  refine or_xor _ _ fun n hn => ?_
  rcases Nat.eq_zero_or_pos n with rfl | h
  · rw [c1_zero] at hn; cases hn
  · exact high _ 1 n (par_lt _) h
theorem one_pow (p : Nat) (h : p < 2) : p = 0 ∨ p = 2 ^ 0 := by omega
theorem enc_syn (w : Nat) : syn (enc w) = 0 := by
  have h := c1_syn w
  unfold syn at *
  rw [enc_xor, synF_xor, h]
  rcases one_pow (par (c1 w)) (par_lt _) with e | e
  · rw [e]; decide +kernel
  · rw [e, synF_pow]; rfl
theorem enc_par (w : Nat) : par (enc w) = 0 := by
  have hp : par (c1 w) = popF (c1 w) 64 % 2 := rfl
  have h2 : popF (par (c1 w)) 64 = par (c1 w) := by
    rcases one_pow (par (c1 w)) (par_lt _) with e | e
    · rw [e]; decide +kernel
    · rw [e, popF_pow]; rfl
  rw [enc_xor, par, popF_xor, h2]
  omega
/-- The word of a coded word: its first k bits. -/
def wdF (c : Nat) : Nat → Nat
  | 0 => 0
  | k + 1 => wdF c k ||| (c.testBit (pl k)).toNat * 2 ^ k
theorem wdF_bit (c n : Nat) : ∀ k, (wdF c k).testBit n = (decide (n < k) && c.testBit (pl n))
  | 0 => by simp [wdF]
  | k + 1 => by
    rw [wdF, Nat.testBit_or, wdF_bit c n k, bit_at]
    rcases Nat.lt_trichotomy n k with h | h | h
    · rw [decide_eq_true h, decide_eq_true (show n < k + 1 by omega), decide_eq_false (show ¬ k = n by omega)]; simp
    · subst h; simp
    · rw [decide_eq_false (show ¬ n < k by omega), decide_eq_false (show ¬ n < k + 1 by omega), decide_eq_false (show ¬ k = n by omega)]; simp
def wd (c : Nat) : Nat := wdF c 32
theorem enc_at (w i : Nat) (hi : i < 32) : (enc w).testBit (pl i) = w.testBit i := by
  have h0 := (pl_lt ⟨i, hi⟩).2.1
  have h1 : (par (c1 w)).testBit (pl i) = false := high _ 1 _ (par_lt _) (by simp only at h0; omega)
  rw [enc, Nat.testBit_or, h1, c1, Nat.testBit_or, c0_at w i hi, (qF_bits ⟨_, syn_lt _⟩).2.1 ⟨i, hi⟩]
  simp
theorem wd_enc (w : Nat) (hw : w < 2 ^ 32) : wd (enc w) = w := by
  apply Nat.eq_of_testBit_eq
  intro n
  rw [wd, wdF_bit]
  rcases Nat.lt_or_ge n 32 with h | h
  · rw [enc_at w n h, decide_eq_true h]; simp
  · rw [decide_eq_false (by omega), high w 32 n hw h]; rfl
theorem enc_high (w n : Nat) (hn : 39 ≤ n) : (enc w).testBit n = false := by
  have h1 : (par (c1 w)).testBit n = false := high _ 1 _ (par_lt _) (by omega)
  rw [enc, Nat.testBit_or, h1, c1, Nat.testBit_or, c0_none w n (fun i => by have := (pl_lt i).1; omega), q_off _ (syn_lt _) n (by omega) (by omega) (by omega) (by omega) (by omega) (by omega)]; rfl
theorem lt_of_high (x k : Nat) (h : ∀ n, k ≤ n → x.testBit n = false) : x < 2 ^ k := Nat.lt_pow_two_of_testBit x fun i hi => h i hi
theorem enc_lt (w : Nat) : enc w < 2 ^ 39 := lt_of_high _ _ (enc_high w)
/-- A coded word with one bit inverted. -/
theorem flip_syn (w b : Nat) (hb : b < 39) : syn (enc w ^^^ 2 ^ b) = b ∧ par (enc w ^^^ 2 ^ b) = 1 ∧ enc w ^^^ 2 ^ b < 2 ^ 39 ∧ (enc w ^^^ 2 ^ b) ^^^ 2 ^ b = enc w := by
  refine ⟨?_, ?_, ?_, ?_⟩
  · have h := enc_syn w
    unfold syn at *
    rw [synF_xor, h, synF_pow, if_pos (by omega)]; simp
  · have h := enc_par w
    unfold par at *
    rw [popF_xor, popF_pow, if_pos (by omega)]; omega
  · exact Nat.xor_lt_two_pow (enc_lt w) (Nat.pow_lt_pow_right (by omega) hb)
  · rw [Nat.xor_assoc, Nat.xor_self, Nat.xor_zero]
end Go.Proofs.YtdebfniifijjoaaDoor
/-
  math/bits.OnesCount64's steps in plain Lean: they count the bits. Conditions: those that each names.
-/
namespace Go.Proofs.YtdebfniifijjoaaDoor
set_option linter.unusedVariables false
def val : List Nat → Nat
  | [] => 0
  | b :: l => 256 * val l + b
def rep (d : Nat) : Nat → Nat
  | 0 => 0
  | k + 1 => 256 * rep d k + d
theorem and_split (x b y d : Nat) (hb : b < 256) (hd : d < 256) : (256 * x + b) &&& (256 * y + d) = 256 * (x &&& y) + (b &&& d) := by
  have hbd : b &&& d < 2 ^ 8 := Nat.lt_of_le_of_lt Nat.and_le_left hb
  apply Nat.eq_of_testBit_eq
  intro j
  rw [show 256 = 2 ^ 8 from rfl, Nat.testBit_and, Nat.testBit_two_pow_mul_add x (show b < 2 ^ 8 from hb), Nat.testBit_two_pow_mul_add y (show d < 2 ^ 8 from hd), Nat.testBit_two_pow_mul_add (x &&& y) hbd]
  split
  · rw [Nat.testBit_and]
  · rw [Nat.testBit_and]
def g1 (b : Nat) : Nat := (b / 2 &&& 85) + (b &&& 85)
def g2 (b : Nat) : Nat := (b / 4 &&& 51) + (b &&& 51)
def g3 (b : Nat) : Nat := (b / 16 + b) &&& 15
theorem low1 : ∀ e : Fin 2, ∀ b : Fin 256, (128 * e.val + b.val / 2) &&& 85 = b.val / 2 &&& 85 := by decide +kernel
theorem low2 : ∀ e : Fin 4, ∀ b : Fin 256, (64 * e.val + b.val / 4) &&& 51 = b.val / 4 &&& 51 := by decide +kernel
theorem g_all : ∀ b : Fin 256, g1 b.val < 256 ∧ g2 (g1 b.val) / 16 ≤ 4 ∧ g2 (g1 b.val) % 16 ≤ 4 ∧ g3 (g2 (g1 b.val)) = popF b.val 8 ∧ popF b.val 8 ≤ 8 := by decide +kernel
theorem step1 : ∀ l : List Nat, (∀ b ∈ l, b < 256) → (val l / 2 &&& rep 85 l.length) + (val l &&& rep 85 l.length) = val (l.map g1)
  | [], _ => by simp [val, rep]
  | b :: l, h => by
    have hb := h b (by simp)
    have ih := step1 l fun x hx => h x (by simp [hx])
    simp only [val, rep, List.length_cons, List.map_cons]
    have e : (256 * val l + b) / 2 = 256 * (val l / 2) + (128 * (val l % 2) + b / 2) := by omega
    have lw := low1 ⟨val l % 2, by omega⟩ ⟨b, hb⟩
    simp only at lw
    rw [e, and_split _ _ _ _ (by omega) (by omega), and_split _ _ _ _ hb (by omega), lw, ← ih, g1]
    omega
theorem step2 : ∀ l : List Nat, (∀ b ∈ l, b < 256) → (val l / 4 &&& rep 51 l.length) + (val l &&& rep 51 l.length) = val (l.map g2)
  | [], _ => by simp [val, rep]
  | b :: l, h => by
    have hb := h b (by simp)
    have ih := step2 l fun x hx => h x (by simp [hx])
    simp only [val, rep, List.length_cons, List.map_cons]
    have e : (256 * val l + b) / 4 = 256 * (val l / 4) + (64 * (val l % 4) + b / 4) := by omega
    have lw := low2 ⟨val l % 4, by omega⟩ ⟨b, hb⟩
    simp only at lw
    rw [e, and_split _ _ _ _ (by omega) (by omega), and_split _ _ _ _ hb (by omega), lw, ← ih, g2]
    omega
theorem val_low (l : List Nat) (h : ∀ b ∈ l, b / 16 ≤ 4 ∧ b % 16 ≤ 4) : val l % 16 ≤ 4 := by
  cases l with
  | nil => simp [val]
  | cons b l => have := (h b (by simp)).2; simp only [val]; omega
theorem and15 (x : Nat) : x &&& 15 = x % 16 := Nat.and_two_pow_sub_one_eq_mod x 4
theorem step3 : ∀ l : List Nat, (∀ b ∈ l, b / 16 ≤ 4 ∧ b % 16 ≤ 4) → (val l / 16 + val l) &&& rep 15 l.length = val (l.map g3)
  | [], _ => by simp [val, rep]
  | b :: l, h => by
    have hb := h b (by simp)
    have hl := val_low l fun x hx => h x (by simp [hx])
    have ih := step3 l fun x hx => h x (by simp [hx])
    simp only [val, rep, List.length_cons, List.map_cons]
    have e : (256 * val l + b) / 16 + (256 * val l + b) = 256 * (val l / 16 + val l) + (16 * (val l % 16) + b / 16 + b) := by omega
    rw [e, and_split _ _ _ _ (by omega) (by omega), ih, g3, and15, and15]
    omega
theorem popF_split (b x : Nat) (hb : b < 256) : ∀ k, popF (256 * x + b) (8 + k) = popF b 8 + popF x k
  | 0 => by
    have h : ∀ j, j < 8 → (256 * x + b).testBit j = b.testBit j := fun j hj => by
      rw [show 256 = 2 ^ 8 from rfl, Nat.testBit_two_pow_mul_add x (show b < 2 ^ 8 from hb), if_pos hj]
    simp only [popF, h 0 (by omega), h 1 (by omega), h 2 (by omega), h 3 (by omega), h 4 (by omega), h 5 (by omega), h 6 (by omega), h 7 (by omega)]
    rfl
  | k + 1 => by
    have h : (256 * x + b).testBit (8 + k) = x.testBit k := by
      rw [show 256 = 2 ^ 8 from rfl, Nat.testBit_two_pow_mul_add x (show b < 2 ^ 8 from hb), if_neg (by omega)]
      congr 1; omega
    have ih := popF_split b x hb k
    rw [← Nat.add_assoc]
    simp only [popF, ih, h]
    omega
theorem popF_val : ∀ l : List Nat, (∀ b ∈ l, b < 256) → popF (val l) (8 * l.length) = (l.map fun b => popF b 8).sum
  | [], _ => by simp [val, popF]
  | b :: l, h => by
    have ih := popF_val l fun x hx => h x (by simp [hx])
    rw [List.length_cons, show 8 * (l.length + 1) = 8 + 8 * l.length by omega, val, popF_split _ _ (h b (by simp)), ih]
    simp
/-- The eight bytes of a number. -/
def byt (c : Nat) : List Nat := [c % 256, c / 256 % 256, c / 65536 % 256, c / 16777216 % 256, c / 4294967296 % 256, c / 1099511627776 % 256, c / 281474976710656 % 256, c / 72057594037927936 % 256]
theorem val_byt (c : Nat) (h : c < 18446744073709551616) : val (byt c) = c := by simp only [byt, val]; omega
theorem byt_lt (c : Nat) : ∀ b ∈ byt c, b < 256 := by intro b hb; simp only [byt, List.mem_cons, List.not_mem_nil, or_false] at hb; omega
theorem pop_mid (c : Nat) (h : c < 18446744073709551616) (y1 y2 y3 : Nat) (h1 : y1 = (c / 2 &&& 6148914691236517205) + (c &&& 6148914691236517205)) (h2 : y2 = (y1 / 4 &&& 3689348814741910323) + (y1 &&& 3689348814741910323)) (h3 : y3 = (y2 / 16 + y2) &&& 1085102592571150095) :
    y1 = val ((byt c).map g1) ∧ y2 = val (((byt c).map g1).map g2) ∧ y3 = val ((((byt c).map g1).map g2).map g3) := by
  have r1 : rep 85 8 = 6148914691236517205 := by decide +kernel
  have r2 : rep 51 8 = 3689348814741910323 := by decide +kernel
  have r3 : rep 15 8 = 1085102592571150095 := by decide +kernel
  have s1 := step1 (byt c) (byt_lt c)
  have e1 : y1 = val ((byt c).map g1) := by rw [← s1, val_byt c h, h1, ← r1]; rfl
  have s2 := step2 ((byt c).map g1) (by
    intro b hb
    obtain ⟨x, hx, rfl⟩ := List.mem_map.1 hb
    exact (g_all ⟨x, byt_lt c x hx⟩).1)
  have e2 : y2 = val (((byt c).map g1).map g2) := by rw [← s2, ← e1, h2, ← r2]; rfl
  have s3 := step3 (((byt c).map g1).map g2) (by
    intro b hb
    obtain ⟨x, hx, rfl⟩ := List.mem_map.1 hb
    obtain ⟨z, hz, rfl⟩ := List.mem_map.1 hx
    have := g_all ⟨z, byt_lt c z hz⟩
    exact ⟨this.2.1, this.2.2.1⟩)
  exact ⟨e1, e2, by rw [← s3, ← e2, h3, ← r3]; rfl⟩
theorem fold_a (y v d : Nat) (h : y = 256 * v + d) (hd : d ≤ 8) : y / 256 = v := by omega
theorem fold_b (y v0 v1 v2 d0 d1 d2 : Nat) (h0 : y = 256 * v0 + d0) (h1 : v0 = 256 * v1 + d1) (h2 : v1 = 256 * v2 + d2) (b0 : d0 ≤ 8) (b1 : d1 ≤ 8) (b2 : d2 ≤ 8) : (y + v0) / 65536 = v1 + v2 := by omega
theorem fold_c (y v0 v1 v2 v3 v4 v5 v6 d0 d1 d2 d3 d4 d5 d6 : Nat) (h0 : y = 256 * v0 + d0) (h1 : v0 = 256 * v1 + d1) (h2 : v1 = 256 * v2 + d2) (h3 : v2 = 256 * v3 + d3) (h4 : v3 = 256 * v4 + d4) (h5 : v4 = 256 * v5 + d5) (h6 : v5 = 256 * v6 + d6)
    (b0 : d0 ≤ 8) (b1 : d1 ≤ 8) (b2 : d2 ≤ 8) (b3 : d3 ≤ 8) (b4 : d4 ≤ 8) (b5 : d5 ≤ 8) (b6 : d6 ≤ 8) : (y + v0 + (v1 + v2)) / 4294967296 = v3 + v4 + v5 + v6 := by
  have e : y + v0 + (v1 + v2) = 4294967296 * (v3 + v4 + v5 + v6) + (16777216 * (d3 + d4 + d5 + d6) + 65536 * (d2 + d3 + d4 + d5) + 256 * (d1 + d2 + d3 + d4) + (d0 + d1 + d2 + d3)) := by omega
  rw [e]; omega
theorem fold_d (v d k : Nat) (h : v < k) (hd : d ≤ 8) : 256 * v + d < 256 * k := by omega
theorem pop_end (d0 d1 d2 d3 d4 d5 d6 d7 : Nat) (b0 : d0 ≤ 8) (b1 : d1 ≤ 8) (b2 : d2 ≤ 8) (b3 : d3 ≤ 8) (b4 : d4 ≤ 8) (b5 : d5 ≤ 8) (b6 : d6 ≤ 8) (b7 : d7 ≤ 8) (y y1 y2 y3 : Nat) (hy : y = val [d0, d1, d2, d3, d4, d5, d6, d7])
    (h1 : y1 = y + y / 256) (h2 : y2 = y1 + y1 / 65536) (h3 : y3 = y2 + y2 / 4294967296) : y < 18446744073709551616 ∧ y1 < 18446744073709551616 ∧ y2 < 18446744073709551616 ∧ y3 < 9223372036854775808 ∧ y3 % 128 = d0 + d1 + d2 + d3 + d4 + d5 + d6 + d7 := by
  simp only [val, Nat.mul_zero, Nat.zero_add] at hy
  obtain ⟨v6, e6⟩ : ∃ v, v = d7 := ⟨_, rfl⟩
  rw [← e6] at hy
  obtain ⟨v5, e5⟩ : ∃ v, v = 256 * v6 + d6 := ⟨_, rfl⟩
  rw [← e5] at hy
  obtain ⟨v4, e4⟩ : ∃ v, v = 256 * v5 + d5 := ⟨_, rfl⟩
  rw [← e4] at hy
  obtain ⟨v3, e3⟩ : ∃ v, v = 256 * v4 + d4 := ⟨_, rfl⟩
  rw [← e3] at hy
  obtain ⟨v2, e2⟩ : ∃ v, v = 256 * v3 + d3 := ⟨_, rfl⟩
  rw [← e2] at hy
  obtain ⟨v1, e1⟩ : ∃ v, v = 256 * v2 + d2 := ⟨_, rfl⟩
  rw [← e1] at hy
  obtain ⟨v0, e0⟩ : ∃ v, v = 256 * v1 + d1 := ⟨_, rfl⟩
  rw [← e0] at hy
  rw [fold_a y v0 d0 hy b0] at h1
  rw [h1, fold_b y v0 v1 v2 d0 d1 d2 hy e0 e1 b0 b1 b2] at h2
  rw [h2, fold_c y v0 v1 v2 v3 v4 v5 v6 d0 d1 d2 d3 d4 d5 d6 hy e0 e1 e2 e3 e4 e5 b0 b1 b2 b3 b4 b5 b6] at h3
  have k6 : v6 < 9 := by omega
  have k5 := fold_d v6 d6 9 k6 b6
  rw [← e5] at k5
  have k4 := fold_d v5 d5 _ k5 b5
  rw [← e4] at k4
  have k3 := fold_d v4 d4 _ k4 b4
  rw [← e3] at k3
  have k2 := fold_d v3 d3 _ k3 b3
  rw [← e2] at k2
  have k1 := fold_d v2 d2 _ k2 b2
  rw [← e1] at k1
  have k0 := fold_d v1 d1 _ k1 b1
  rw [← e0] at k0
  have ky := fold_d v0 d0 _ k0 b0
  rw [← hy] at ky
  refine ⟨by omega, by omega, by omega, by omega, ?_⟩
  have key : y3 = 128 * (2 * (v0 + v1 + v2 + v3 + v4 + v5 + v6)) + (d0 + d1 + d2 + d3 + d4 + d5 + d6 + d7) := by omega
  rw [key]
  generalize 2 * (v0 + v1 + v2 + v3 + v4 + v5 + v6) = q
  clear key h1 h2 h3 hy e0 e1 e2 e3 e4 e5 e6 k0 k1 k2 k3 k4 k5 k6 ky
  omega
/-- What the steps leave. -/
theorem pop_all (c : Nat) (h : c < 18446744073709551616) (y1 y2 y3 y4 y5 y6 : Nat) (h1 : y1 = (c / 2 &&& 6148914691236517205) + (c &&& 6148914691236517205)) (h2 : y2 = (y1 / 4 &&& 3689348814741910323) + (y1 &&& 3689348814741910323)) (h3 : y3 = (y2 / 16 + y2) &&& 1085102592571150095)
    (h4 : y4 = y3 + y3 / 256) (h5 : y5 = y4 + y4 / 65536) (h6 : y6 = y5 + y5 / 4294967296) : y3 < 18446744073709551616 ∧ y4 < 18446744073709551616 ∧ y5 < 18446744073709551616 ∧ y6 < 9223372036854775808 ∧ y6 % 128 = popF c 64 := by
  obtain ⟨_, _, e3⟩ := pop_mid c h y1 y2 y3 h1 h2 h3
  have hb := byt_lt c
  have hp := popF_val (byt c) hb
  rw [val_byt c h] at hp
  simp only [byt, List.length_cons, List.length_nil, List.map_cons, List.map_nil, List.sum_cons, List.sum_nil] at hp e3
  simp only [byt, List.mem_cons, List.not_mem_nil, or_false] at hb
  have q0 := g_all ⟨c % 256, by omega⟩
  have q1 := g_all ⟨c / 256 % 256, by omega⟩
  have q2 := g_all ⟨c / 65536 % 256, by omega⟩
  have q3 := g_all ⟨c / 16777216 % 256, by omega⟩
  have q4 := g_all ⟨c / 4294967296 % 256, by omega⟩
  have q5 := g_all ⟨c / 1099511627776 % 256, by omega⟩
  have q6 := g_all ⟨c / 281474976710656 % 256, by omega⟩
  have q7 := g_all ⟨c / 72057594037927936 % 256, by omega⟩
  simp only at q0 q1 q2 q3 q4 q5 q6 q7
  rw [q0.2.2.2.1, q1.2.2.2.1, q2.2.2.2.1, q3.2.2.2.1, q4.2.2.2.1, q5.2.2.2.1, q6.2.2.2.1, q7.2.2.2.1] at e3
  have := pop_end _ _ _ _ _ _ _ _ q0.2.2.2.2 q1.2.2.2.2 q2.2.2.2.2 q3.2.2.2.2 q4.2.2.2.2 q5.2.2.2.2 q6.2.2.2.2 q7.2.2.2.2 y3 y4 y5 y6 e3 h4 h5 h6
  refine ⟨this.1, this.2.1, this.2.2.1, this.2.2.2.1, ?_⟩
  rw [this.2.2.2.2]
  have e64 : 8 * (0 + 1 + 1 + 1 + 1 + 1 + 1 + 1 + 1) = 64 := by omega
  rw [e64] at hp
  rw [hp]
  clear hp q0 q1 q2 q3 q4 q5 q6 q7 this e3 hb h1 h2 h3 h4 h5 h6 h
  omega
end Go.Proofs.YtdebfniifijjoaaDoor
/-
  Shared plain lemmas of this seat: how arguments made of integers, bools and strings are opened, and how a law's row follows from a contract that returns true and keeps the old memory. Conditions: none.
-/
namespace Go.Proofs.YtdebfniifijjoaaDoor.Kit
open Go.ChangeShapes Go.WideShapes Go.ChangeAt Go.RowKit
set_option linter.unusedVariables false

/-! ### A law's row from its contract -/
theorem trodAll_below {H : Type} {enc : TypeId × Value → H} {P : Program} (hl : laidOutB P = true) {W W' : World} (hb : Below W.heap.size W W') :
    ∀ (ts : List TypeId) (vs : List Value) (ds : List (DataW H)) (ps : List MemPlace), (∀ t ∈ ts, P.readableRec t = true ∧ t < P.types.size) →
      DataW.TrodAll enc P W 0 (fun _ => true) true ts vs ds ps → DataW.TrodAll enc P W' 0 (fun b => decide (b < W.heap.size)) true ts vs ds ps
  | [], [], [], ps, _, h => h
  | [], [], _ :: _, _, _, h => h.elim
  | [], _ :: _, _, _, _, h => h.elim
  | _ :: _, [], _, _, _, h => h.elim
  | _ :: _, _ :: _, [], _, _, h => h.elim
  | t :: ts, v :: vs, d :: ds, ps, hr, h => by
    obtain ⟨p, q, h1, h2, rfl⟩ := h
    have lt : ∀ x ∈ p, x.block < W.heap.size := by obtain ⟨m, hm⟩ := h1; exact DataW.trod_lt m _ _ _ hm
    exact ⟨p, q, Below.trod hl (hr t (by simp)).1 (hr t (by simp)).2 h1 hb lt, trodAll_below hl hb ts vs ds q (fun u hu => hr u (by simp [hu])) h2, rfl⟩

theorem trodAll_length {H : Type} {enc : TypeId × Value → H} {P : Program} {W : World} {b : Nat} {sp : Nat → Bool} {hd : Bool} :
    ∀ (ts : List TypeId) (vs : List Value) (ds : List (DataW H)) (ps : List MemPlace), DataW.TrodAll enc P W b sp hd ts vs ds ps → ds.length = ts.length ∧ vs.length = ts.length
  | [], [], [], _, _ => ⟨rfl, rfl⟩
  | [], [], _ :: _, _, h => h.elim
  | [], _ :: _, _, _, h => h.elim
  | _ :: _, [], _, _, h => h.elim
  | _ :: _, _ :: _, [], _, h => h.elim
  | t :: ts, v :: vs, d :: ds, ps, h => by
    obtain ⟨p, q, _, h2, _⟩ := h
    have := trodAll_length ts vs ds q h2
    simp [this.1, this.2]

/-- A law's post, from a contract: it returns true and nothing that was there has turned. -/
theorem law_post {H : Type} {enc : TypeId × Value → H} {P : Program} {f : FuncId} {fn : Func} {s : ChangeSpec} {W : World} {args : Array Value} {ds gs : List (DataW H)} {before : List MemPlace} {tb : TypeId}
    (hv : s.vars = []) (hfn : ∀ ds : List (DataW H), ds.length = fn.params.size → s.fn H ds = ⟨[.lit (.bool true)], ds, []⟩) (hres : fn.resultTypes = #[tb]) (htb : P.underlying tb = some .bool)
    (hl : laidOutB P = true) (hr : ∀ t ∈ fn.params.toList, P.readableRec t = true ∧ t < P.types.size)
    (hW : DataW.Whole enc P fn.params.toList s.vars false W args.toList ds gs before)
    (hc : ∀ p, DataW.TrodAll enc P W 0 (fun _ => true) true fn.params.toList args.toList ds p → Calls P f args W fun e W' => e = .returned (.bool true) ∧ Below W.heap.size W W') :
    Calls P f args W fun e W' => ∃ v, e = .returned v ∧ s.post enc P fn false true false false W args v W' := by
  have hW' := hW
  obtain ⟨p, q, hA, hV, rfl, hfz, hnd⟩ := hW
  rw [hv] at hV
  obtain ⟨rfl, rfl⟩ := trodVars_none hV
  refine (hc p hA).mono fun e W' ⟨he, bel⟩ => ?_
  subst he
  have hlen := trodAll_length _ _ _ _ hA
  have e1 : s.fn H (ds ++ []) = ⟨[.lit (.bool true)], ds, []⟩ := by rw [List.append_nil]; exact hfn ds (by simpa using hlen.1)
  refine ⟨_, rfl, _, _, _, [], p, [], hW', ?_, ?_, ?_, bel.frame _, fun h => by cases h⟩
  · rw [e1, hres]; exact trodAll_mk1 (shut_bool htb _)
  · rw [e1]; exact trodAll_below hl bel _ _ _ _ hr hA
  · rw [e1, hv]; rfl

/-! ### Regions, worlds, cells -/
theorem region_still_tail {P : Program} {id : Nat} {Q : Exit → Act → World → Prop} {a : Act} {w : World} {l : List Oper} (n : Nat) (hm : P.follows .mixedOrders = true) (hB : Region.lexTailB .any l.toArray n = true)
    (h : wpStill P l.toArray w.drew (fun a' => wpList P l.toArray Q (l.drop n) a' w.drew) (l.take n) a) : (Code.region id l.toArray true).wp P Q a w :=
  wp_region_still_tail n hm hB h
theorem still_of {P : Program} {f : FuncId} {args : Array Value} {w : World} {v : Value} (h : Calls P f args w fun e w' => e = .returned v ∧ w = w') : Calls P f args w fun e w' => e = .returned v ∧ w' = w :=
  h.mono fun _ _ ⟨h1, h2⟩ => ⟨h1, h2.symm⟩
theorem ret_bool {a b : Bool} (h : a = b) : Ending.returned (.bool a) = .returned (.bool b) := by rw [h]
theorem ret_int {k : IntKind} {a b : Int} (h : a = b) : Ending.returned (.int k a) = .returned (.int k b) := by rw [h]
/-- Of what was there only the blocks in S may have turned. -/
structure Mod (S : Nat → Prop) (w w' : World) : Prop where
  os : w'.os = w.os
  tape : w'.tape = w.tape
  output : w'.output = w.output
  size : w.heap.size ≤ w'.heap.size
  block : ∀ k, k < w.heap.size → ¬ S k → w'.heap[k]? = w.heap[k]?
theorem Mod.refl (S : Nat → Prop) (w : World) : Mod S w w := ⟨rfl, rfl, rfl, Nat.le_refl _, fun _ _ _ => rfl⟩
theorem Mod.alloc {S : Nat → Prop} {a w : World} (h : Mod S a w) (o : Obj) : Mod S a (w.alloc o) :=
  ⟨h.os, h.tape, h.output, by have := h.size; simp; omega, fun k hk hs => (Below.heap_alloc w o k (by have := h.size; omega)).trans (h.block k hk hs)⟩
theorem Mod.drew {S : Nat → Prop} {a w : World} (h : Mod S a w) : Mod S a w.drew := ⟨h.os, h.tape, h.output, h.size, h.block⟩
theorem Mod.drewN {S : Nat → Prop} {a w : World} (h : Mod S a w) (n : Nat) : Mod S a (w.drewN n) := ⟨h.os, h.tape, h.output, h.size, h.block⟩
theorem Mod.setCell {S : Nat → Prop} {a w : World} (h : Mod S a w) {p : Addr} (hp : S p.block ∨ a.heap.size ≤ p.block) (u : Value) : Mod S a (w.setCell p u) :=
  ⟨h.os, h.tape, h.output, by have := h.size; simpa [World.setCell] using this, fun k hk hs => (Below.heap_setCell w p u k (by rcases hp with hp | hp; exact fun e => hs (e ▸ hp); omega)).trans (h.block k hk hs)⟩
theorem Mod.trans {S S' : Nat → Prop} {a b c : World} (h : Mod S a b) (h' : Mod S' b c) (hs : ∀ k, k < a.heap.size → S' k → S k) : Mod S a c :=
  ⟨h'.os.trans h.os, h'.tape.trans h.tape, h'.output.trans h.output, Nat.le_trans h.size h'.size, fun k hk hn => (h'.block k (Nat.lt_of_lt_of_le hk h.size) (fun e => hn (hs k hk e))).trans (h.block k hk hn)⟩
theorem Mod.mono {S S' : Nat → Prop} {a b : World} (h : Mod S a b) (hs : ∀ k, k < a.heap.size → S k → S' k) : Mod S' a b :=
  ⟨h.os, h.tape, h.output, h.size, fun k hk hn => h.block k hk (fun e => hn (hs k hk e))⟩
theorem Mod.below {S : Nat → Prop} {a b : World} {B : Nat} (h : Mod S a b) (hB : B ≤ a.heap.size) (hs : ∀ k, S k → B ≤ k) : Below B a b :=
  ⟨h.os, h.tape, h.output, h.size, fun k hk => h.block k (by omega) (fun e => by have := hs k e; omega)⟩
theorem Mod.of_below {S : Nat → Prop} {a b : World} (h : Below a.heap.size a b) : Mod S a b := ⟨h.os, h.tape, h.output, h.size, fun k hk _ => h.block k hk⟩
/-- A block that a step keeps. -/
theorem Mod.keeps {S : Nat → Prop} {a b : World} (h : Mod S a b) {k : Nat} {o : Obj} (hk : a.heap[k]? = some o) (hs : ¬ S k) : b.heap[k]? = some o := by
  have hlt : k < a.heap.size := by
    rcases Nat.lt_or_ge k a.heap.size with h' | h'
    · exact h'
    · rw [Array.getElem?_eq_none h'] at hk; cases hk
  rw [h.block k hlt hs]; exact hk
theorem lt_of_obj {w : World} {k : Nat} {o : Obj} (hk : w.heap[k]? = some o) : k < w.heap.size := by
  rcases Nat.lt_or_ge k w.heap.size with h' | h'
  · exact h'
  · rw [Array.getElem?_eq_none h'] at hk; cases hk
theorem cell_of {w : World} {b i : Nat} {c : Array Value} {t : TypeId} {fr : Nat × Nat} {v : Value} (h : w.heap[b]? = some (.cells c t fr)) (hv : c[i]? = some v) : w.cell? ⟨b, i, none⟩ = some v := by
  simp [World.cell?, h, hv]
theorem free_of {w : World} {b i : Nat} {c : Array Value} {t : TypeId} (h : w.heap[b]? = some (.cells c t)) : w.frozen? ⟨b, i, none⟩ = false := by
  simp [World.frozen?, h]
theorem hp_set {w : World} {b i : Nat} {c : Array Value} {t : TypeId} {fr : Nat × Nat} (h : w.heap[b]? = some (.cells c t fr)) (v : Value) : (w.setCell ⟨b, i, none⟩ v).heap[b]? = some (.cells (c.setIfInBounds i v) t fr) := by
  simp [World.setCell, Array.getElem?_modify, h]
theorem hp_set_ne {w : World} {b b' i : Nat} {o : Obj} (h : w.heap[b]? = some o) (hne : b ≠ b') (v : Value) : (w.setCell ⟨b', i, none⟩ v).heap[b]? = some o := by
  rw [Below.heap_setCell _ _ _ _ hne]; exact h
theorem hp_new (w : World) (o : Obj) : (w.alloc o).heap[w.heap.size]? = some o := by
  show (w.heap.push o)[w.heap.size]? = _
  simp
theorem hp_old {w : World} {b : Nat} {o : Obj} (h : w.heap[b]? = some o) (o' : Obj) : (w.alloc o').heap[b]? = some o := by
  rw [Below.heap_alloc _ _ _ (lt_of_obj h)]; exact h
theorem hp_drew {w : World} {b : Nat} {o : Obj} (h : w.heap[b]? = some o) : w.drew.heap[b]? = some o := h

theorem hp_as {x : Option Obj} {o o' : Obj} (h : x = some o) (e : o = o') : x = some o' := e ▸ h

/-! ### Types that are flat: integers, bools, strings, and structs and arrays of them -/
abbrev Sc := IntKind ⊕ Bool
def scOK : Sc → Value → Prop
  | .inl k, v => ∃ n, v = .int k n ∧ (Lit.int k n).wf = true
  | .inr false, v => ∃ b, v = .bool b
  | .inr true, v => ∃ s, v = .string s ∧ s.size ≤ maxLen
def scAll : List Sc → List Value → Prop
  | [], [] => True
  | k :: ks, c :: cs => scOK k c ∧ scAll ks cs
  | _, _ => False
theorem scAll_length : ∀ {ks : List Sc} {cs : List Value}, scAll ks cs → cs.length = ks.length
  | [], [], _ => rfl
  | [], _ :: _, h => h.elim
  | _ :: _, [], h => h.elim
  | _ :: _, _ :: _, h => by simp [scAll_length h.2]
theorem scAll_append : ∀ {ks ls : List Sc} {cs ds : List Value}, scAll ks cs → scAll ls ds → scAll (ks ++ ls) (cs ++ ds)
  | [], _, [], _, _, h => h
  | [], _, _ :: _, _, h, _ => h.elim
  | _ :: _, _, [], _, h, _ => h.elim
  | _ :: _, _, _ :: _, _, h, h' => ⟨h.1, scAll_append h.2 h'⟩
theorem scAll_nil {cs : List Value} (h : scAll [] cs) : cs = [] := by cases cs with | nil => rfl | cons _ _ => exact h.elim
theorem scAll_int {k : IntKind} {ks : List Sc} {cs : List Value} (h : scAll (.inl k :: ks) cs) : ∃ n cs', cs = .int k n :: cs' ∧ (Lit.int k n).wf = true ∧ scAll ks cs' := by
  cases cs with
  | nil => exact h.elim
  | cons c cs => obtain ⟨⟨n, rfl, hw⟩, h2⟩ := h; exact ⟨n, cs, rfl, hw, h2⟩
theorem scAll_bool {ks : List Sc} {cs : List Value} (h : scAll (.inr false :: ks) cs) : ∃ b cs', cs = .bool b :: cs' ∧ scAll ks cs' := by
  cases cs with
  | nil => exact h.elim
  | cons c cs => obtain ⟨⟨n, rfl⟩, h2⟩ := h; exact ⟨n, cs, rfl, h2⟩
theorem scAll_string {ks : List Sc} {cs : List Value} (h : scAll (.inr true :: ks) cs) : ∃ s cs', cs = .string s :: cs' ∧ s.size ≤ maxLen ∧ scAll ks cs' := by
  cases cs with
  | nil => exact h.elim
  | cons c cs => obtain ⟨⟨n, rfl, hw⟩, h2⟩ := h; exact ⟨n, cs, rfl, hw, h2⟩

def flatFields (P : Program) (rec : TypeId → Option (List Sc)) : Nat → List Field → Option (List Sc)
  | _, [] => some []
  | o, f :: fs =>
    match rec f.type, flatFields P rec (o + P.cellsOf f.type) fs with
    | some l, some r => if f.offset = o ∧ P.cellsOf f.type = l.length then some (l ++ r) else none
    | _, _ => none
/-- The kinds of a flat type's cells. -/
def flat (P : Program) : Nat → TypeId → Option (List Sc)
  | 0, _ => none
  | n + 1, t =>
    match P.underlying t with
    | some (.int k) => some [.inl k]
    | some .bool => some [.inr false]
    | some .string => some [.inr true]
    | some (.struct fs) => match flatFields P (flat P n) 0 fs.toList with | some l => if P.cellsOf t = l.length then some l else none | none => none
    | some (.array m e) => match flat P n e with | some l => if P.cellsOf e = l.length ∧ P.cellsOf t = m * l.length then some (List.replicate m l).flatten else none | none => none
    | _ => none

section
variable {H : Type} {enc : TypeId × Value → H} {P : Program} {w : World} {base : Nat} {spare : Nat → Bool} {held : Bool}

theorem flatFields_ok {m : Nat} {rec : TypeId → Option (List Sc)} (hrec : ∀ t ks cs x, rec t = some ks → DataW.trod enc P w base spare held m t cs = some x → scAll ks cs) (cs : List Value) :
    ∀ (fs : List Field) (o : Nat) (ks : List Sc) (xs : List (DataW H × List MemPlace)), flatFields P rec o fs = some ks →
      (fs.mapM fun f => DataW.trod enc P w base spare held m f.type ((cs.drop f.offset).take (P.cellsOf f.type))) = some xs → scAll ks ((cs.drop o).take ks.length)
  | [], o, ks, xs, h, _ => by simp only [flatFields, Option.some.injEq] at h; subst h; simp [scAll]
  | f :: fs, o, ks, xs, h, hm => by
    simp only [flatFields] at h
    split at h
    · rename_i l r hl hr
      split at h
      · rename_i hc
        simp only [Option.some.injEq] at h
        subst h
        rw [List.mapM_cons] at hm
        simp only [Option.bind_eq_bind, Option.bind_eq_some_iff, Option.pure_def, Option.some.injEq] at hm
        obtain ⟨a, ha, b, hb, _⟩ := hm
        have i1 := hrec _ _ _ _ hl ha
        have i2 := flatFields_ok hrec cs fs _ r b hr hb
        rw [hc.1] at i1
        rw [hc.2] at i1 i2
        have e : (cs.drop o).take (l ++ r).length = (cs.drop o).take l.length ++ ((cs.drop (o + l.length)).take r.length) := by
          rw [List.length_append, ← List.drop_drop, List.take_add]
        rw [e]
        exact scAll_append i1 i2
      · cases h
    · cases h

theorem flatReps_ok {m : Nat} {e : TypeId} {l : List Sc} {c : Nat} (hc : c = l.length) (cs : List Value)
    (hrec : ∀ cs x, DataW.trod enc P w base spare held m e cs = some x → scAll l cs) :
    ∀ (n : Nat), (∀ i, i < n → ∃ x, DataW.trod enc P w base spare held m e ((cs.drop (i * c)).take c) = some x) → scAll (List.replicate n l).flatten (cs.take (n * c))
  | 0, _ => by simp [scAll]
  | n + 1, h => by
    have i1 := flatReps_ok hc cs hrec n (fun i hi => h i (by omega))
    obtain ⟨x, hx⟩ := h n (by omega)
    have i2 := hrec _ _ hx
    have e1 : (List.replicate (n + 1) l).flatten = (List.replicate n l).flatten ++ l := by
      rw [List.replicate_succ', List.flatten_append]; simp
    have e2 : cs.take ((n + 1) * c) = cs.take (n * c) ++ (cs.drop (n * c)).take c := by
      rw [Nat.add_mul, Nat.one_mul, List.take_add]
    rw [e1, e2]
    exact scAll_append i1 i2

theorem flat_ok : ∀ (n fuel : Nat) (t : TypeId) (ks : List Sc) (cs : List Value) (x : DataW H × List MemPlace), flat P n t = some ks →
    DataW.trod enc P w base spare held fuel t cs = some x → scAll ks cs
  | 0, _, _, _, _, _, h, _ => by cases h
  | n + 1, 0, t, ks, cs, x, h, hx => by simp [DataW.trod] at hx
  | n + 1, m + 1, t, ks, cs, x, h, hx => by
    unfold flat at h
    split at h
    · rename_i k hu
      simp only [Option.some.injEq] at h; subst h
      unfold DataW.trod at hx
      rw [hu] at hx
      split at hx <;> simp_all
      obtain ⟨⟨rfl, hw⟩, _⟩ := hx
      exact ⟨⟨_, rfl, hw⟩, trivial⟩
    · rename_i hu
      simp only [Option.some.injEq] at h; subst h
      unfold DataW.trod at hx
      rw [hu] at hx
      split at hx <;> simp_all
      exact ⟨⟨_, rfl⟩, trivial⟩
    · rename_i hu
      simp only [Option.some.injEq] at h; subst h
      unfold DataW.trod at hx
      rw [hu] at hx
      split at hx <;> simp_all
      exact ⟨⟨_, rfl, hx.1⟩, trivial⟩
    · rename_i fs hu
      split at h
      · rename_i l hl
        split at h
        · rename_i hc
          simp only [Option.some.injEq] at h; subst h
          unfold DataW.trod at hx
          rw [hu] at hx
          split at hx <;> simp_all
          obtain ⟨hlen, xs, hxs, _⟩ := hx
          have := flatFields_ok (fun t ks cs x h1 h2 => flat_ok n m t ks cs x h1 h2) _ _ 0 l xs hl hxs
          rw [List.drop_zero] at this
          rwa [List.take_of_length_le (by omega)] at this
        · cases h
      · cases h
    · rename_i k e hu
      split at h
      · rename_i l hl
        split at h
        · rename_i hc
          simp only [Option.some.injEq] at h; subst h
          obtain ⟨xs, m', hm', _, hlen, hxl, hxs⟩ := DataW.trod_array hu hx
          obtain rfl : m = m' := by omega
          have := flatReps_ok hc.1 cs (fun cs x h2 => flat_ok n m e l cs x hl h2) k (fun i hi => ⟨_, (hxs i hi).trans (List.getElem?_eq_getElem (by omega))⟩)
          rwa [hc.1, List.take_of_length_le (by omega)] at this
        · cases h
      · cases h
    · cases h

/-- An argument that is a struct or an array of flat cells. -/
theorem open_flat {r : Reach} {b' : Nat} {t : TypeId} {v : Value} {d : DataW H} {ps : List MemPlace} {ks : List Sc} (hk : flat P 9 t = some ks)
    (hagg : (match P.underlying t with | some (.struct _) | some (.array _ _) => true | _ => false) = true)
    (hv : Value.okWide P w r b' t v) (h : DataW.Trod enc P w base spare held t v d ps) : ∃ cs : List Value, v = .agg cs.toArray ∧ scAll ks cs := by
  obtain ⟨fuel, hf⟩ := h
  have hs := flat_ok 9 fuel t ks _ _ hk hf
  unfold Value.okWide at hv
  split at hv
  · obtain ⟨cs, rfl, _⟩ := hv; exact ⟨cs.toList, by simp, hs⟩
  · obtain ⟨cs, rfl, _⟩ := hv; exact ⟨cs.toList, by simp, hs⟩
  · rename_i h1 h2
    split at hagg
    · rename_i hu; exact (h1 _ hu).elim
    · rename_i hu; exact (h2 _ _ hu).elim
    · cases hagg

/-- What a walk is told of a slice of flat elements. -/
def SlIn (ks : List Sc) (w : World) (v : Value) : Prop :=
  (v = .slice none 0 0) ∨ (∃ a, v = .slice (some a) 0 0) ∨ ∃ (b off len cap : Nat) (C : Nat → List Value), v = .slice (some ⟨b, off, none⟩) len cap ∧ 0 < cap ∧ len ≤ cap ∧ cap ≤ maxLen ∧ b < w.heap.size ∧ (∀ i, i < cap → scAll ks (C i)) ∧
      ∀ i j, i < cap → j < ks.length → w.cell? ⟨b, off + (i * ks.length + j), none⟩ = (C i)[j]?

/-- An argument that is a slice of flat elements: nil, empty, or a block, an offset and a function that gives each element's cells. -/
theorem open_flat_slice {t e : TypeId} {v : Value} {d : DataW H} {ps : List MemPlace} {ks : List Sc} {r : Reach} {b' : Nat} (hu : P.underlying t = some (.slice e)) (hk : flat P 9 e = some ks) (hce : P.cellsOf e = ks.length) (hpos : 0 < ks.length)
    (hv : Value.okWide P w r b' t v) (h : DataW.Trod enc P w base (fun _ => true) held t v d ps) : SlIn ks w v := by
  unfold SlIn
  obtain ⟨a0, len, cap, rfl⟩ := okWide_slice hu hv
  obtain ⟨fuel, hf⟩ := h
  rcases Go.Deep.open_slice hu hf with ⟨h1, _⟩ | ⟨a, len', cap', m, n, D, Pl, h1, _, hl, hm, hmm, _, hel⟩
  · left; simp [Value.cells] at h1; obtain ⟨rfl, rfl, rfl⟩ := h1; rfl
  · right
    simp [Value.cells] at h1
    obtain ⟨rfl, rfl, rfl⟩ := h1
    simp at hmm
    subst hmm
    by_cases h0 : m = 0
    · left; subst h0; obtain rfl : len = 0 := by omega
      exact ⟨a, rfl⟩
    right
    have hex : ∀ i, ∃ cs' : List Value, i < m → w.cells? base (a.add (i * ks.length)) ks.length = some cs' ∧ DataW.trod enc P w base (fun _ => true) held n e cs' = some (D i, Pl i) := by
      intro i
      by_cases hi : i < m
      · obtain ⟨cs', h⟩ := hel i hi; rw [hce] at h; exact ⟨cs', fun _ => h⟩
      · exact ⟨[], fun h => (hi h).elim⟩
    have hC : ∃ C : Nat → List Value, ∀ i, i < m → w.cells? base (a.add (i * ks.length)) ks.length = some (C i) ∧ DataW.trod enc P w base (fun _ => true) held n e (C i) = some (D i, Pl i) :=
      ⟨fun i => Classical.choose (hex i), fun i hi => Classical.choose_spec (hex i) hi⟩
    obtain ⟨C, hC⟩ := hC
    have hcell : ∀ i j, i < m → j < ks.length → w.cell? (a.add (i * ks.length + j)) = (C i)[j]? := by
      intro i j hi hj
      obtain ⟨_, hlen, hget⟩ := World.cells?_some (hC i hi).1
      rw [← hget j hj, Addr.add_add]
    obtain ⟨b, off, spot⟩ := a
    have hc0 := hcell 0 0 (by omega) hpos
    have hs0 := scAll_length (flat_ok 9 n e ks _ _ hk (hC 0 (by omega)).2)
    rw [List.getElem?_eq_getElem (by omega)] at hc0
    have hspot : spot = none := by simpa [Addr.add] using World.cell?_spot hc0
    subst hspot
    refine ⟨b, off, len, m, C, rfl, by omega, hl, hm, ?_, fun i hi => flat_ok 9 n e ks _ _ hk (hC i hi).2, fun i j hi hj => by rw [← Go.WideShapes.add_plain]; exact hcell i j hi hj⟩
    have := World.cells?_block (hC 0 (by omega)).1 hpos
    simpa [Addr.add] using this
end
end Go.Proofs.YtdebfniifijjoaaDoor.Kit
/-
  More plain lemmas of this seat: how a walk writes worlds behind draws, cells behind a call, and small steps on what a call may have turned. Conditions: none.
-/
namespace Go.Proofs.YtdebfniifijjoaaDoor.Kit
open Go.RowKit
@[go_sem] theorem setCell_drewN (w : World) (n : Nat) (a : Addr) (v : Value) : (w.drewN n).setCell a v = (w.setCell a v).drewN n := rfl
@[go_sem] theorem alloc_drewN (w : World) (n : Nat) (o : Obj) : (w.drewN n).alloc o = (w.alloc o).drewN n := rfl
theorem hp_drewN {w : World} {b : Nat} {o : Obj} (h : w.heap[b]? = some o) (n : Nat) : (w.drewN n).heap[b]? = some o := h
theorem below_drewN {B : Nat} {a w : World} (h : Below B a w) (n : Nat) : Below B a (w.drewN n) := h.trans ⟨rfl, rfl, rfl, Nat.le_refl _, fun _ _ => rfl⟩
theorem mod_at {b i : Nat} {a w : World} (h : Mod (fun x => x = b) a w) (v : Value) : Mod (fun x => x = b) a (w.setCell ⟨b, i, none⟩ v) := h.setCell (Or.inl rfl) v
theorem mod_new {S : Nat → Prop} {k i : Nat} {a w : World} (h : Mod S a w) (hk : a.heap.size ≤ k) (v : Value) : Mod S a (w.setCell ⟨k, i, none⟩ v) := h.setCell (Or.inr hk) v
/-- Old cells and marks behind a call that makes new memory alone. -/
theorem bcell {W w1 : World} {B : Nat} (hb : Below B W w1) : (∀ b o, b < B → w1.cell? ⟨b, o, none⟩ = W.cell? ⟨b, o, none⟩) ∧ (∀ b o, b < B → w1.frozen? ⟨b, o, none⟩ = W.frozen? ⟨b, o, none⟩) :=
  ⟨fun b o h => hb.cell (p := ⟨b, o, none⟩) h, fun b o h => hb.frozen (p := ⟨b, o, none⟩) h⟩
theorem Mod.cell {S : Nat → Prop} {W w1 : World} (h : Mod S W w1) {b o : Nat} (hb : b < W.heap.size) (hs : ¬ S b) : w1.cell? ⟨b, o, none⟩ = W.cell? ⟨b, o, none⟩ := World.cell?_of_block (w := W) (h.block b hb hs)
theorem Mod.frozen {S : Nat → Prop} {W w1 : World} (h : Mod S W w1) {b o : Nat} (hb : b < W.heap.size) (hs : ¬ S b) : w1.frozen? ⟨b, o, none⟩ = W.frozen? ⟨b, o, none⟩ := World.frozen?_of_block (w := W) (h.block b hb hs)
theorem mcell {W w1 : World} {k : Nat} (hb : Mod (fun x => x = k) W w1) : (∀ b o, b < W.heap.size → b ≠ k → w1.cell? ⟨b, o, none⟩ = W.cell? ⟨b, o, none⟩) ∧ (∀ b o, b < W.heap.size → b ≠ k → w1.frozen? ⟨b, o, none⟩ = W.frozen? ⟨b, o, none⟩) :=
  ⟨fun _ _ h hk => hb.cell h hk, fun _ _ h hk => hb.frozen h hk⟩
/-- A block that a call keeps which makes new memory alone. -/
theorem below_keeps {W w1 : World} {B k : Nat} {o : Obj} (h : Below B W w1) (hk : W.heap[k]? = some o) (hB : k < B) : w1.heap[k]? = some o := by rw [h.block k hB]; exact hk
theorem below_step {B : Nat} {a b c : World} (h : Below B a b) (h' : Below b.heap.size b c) (hB : B ≤ b.heap.size) : Below B a c := h.trans (h'.mono hB)
theorem below_mod {B k : Nat} {a b c : World} (h : Below B a b) (h' : Mod (fun x => x = k) b c) (hB : B ≤ b.heap.size) (hk : B ≤ k) : Below B a c :=
  h.trans (h'.below hB (fun _ e => e ▸ hk))
theorem quiet_left {P : Program} {f : FuncId} {args : Array Value} {w : World} {n : Nat} {v : Value}
    (h : Calls P f args (w.drewN n) fun e w' => e = .returned v ∧ w.drewN n = w') : Calls P f args (w.drewN n) fun e w'' => e = .returned v ∧ ∃ m, w'' = w.drewN m :=
  h.mono fun _ _ ⟨he, hm⟩ => ⟨he, n, hm.symm⟩
theorem quiet_add_left {P : Program} {f : FuncId} {args : Array Value} {w : World} {a n : Nat} {v : Value}
    (h : Calls P f args (w.drewN (a + n)) fun e w' => e = .returned v ∧ w.drewN (a + n) = w') :
    Calls P f args (w.drewN (a + n)) fun e w'' => e = .returned v ∧ ∃ m, w'' = w.drewN (a + m) :=
  h.mono fun _ _ ⟨he, hm⟩ => ⟨he, n, hm.symm⟩
@[go_sem] theorem lt_chain {a n : Nat} (h : a < n) : (a < n + 1) ↔ True := iff_true_intro (by omega)
@[go_sem] theorem le_chain {a n : Nat} (h : a < n) : (a ≤ n) ↔ True := iff_true_intro (by omega)
@[go_sem] theorem ne_chain {a n : Nat} (h : a < n) : (a = n) ↔ False := iff_false_intro (by omega)
/-- What the walk is told of an old block's number behind some new blocks. -/
theorem ladder {b n : Nat} (h : b < n) : (b < n + 1 ∧ b ≤ n ∧ b ≠ n) ∧ (b < n + 1 + 1 ∧ b ≤ n + 1 ∧ b ≠ n + 1) ∧ (b < n + 1 + 1 + 1 ∧ b ≤ n + 1 + 1 ∧ b ≠ n + 1 + 1) ∧ (b < n + 1 + 1 + 1 + 1 ∧ b ≤ n + 1 + 1 + 1 ∧ b ≠ n + 1 + 1 + 1) := by omega
theorem bl_step {a b c : World} (g : Below a.heap.size a b) (h : Below b.heap.size b c) : Below a.heap.size a c := below_step g h g.size
theorem bl_go {a b c : World} {B : Nat} (g : Below a.heap.size a b) (h : Below B b c) (hB : a.heap.size ≤ B) : Below a.heap.size a c := g.trans (h.mono hB)
theorem bl_mod {a b c : World} {k : Nat} (g : Below a.heap.size a b) (h : Mod (fun x => x = k) b c) (hk : a.heap.size ≤ k) : Below a.heap.size a c := below_mod g h g.size hk
theorem bl_alloc {a b : World} (g : Below a.heap.size a b) (o : Obj) : Below a.heap.size a (b.alloc o) := g.alloc g.size o
theorem bl_set {a b : World} (g : Below a.heap.size a b) {k i : Nat} (hk : a.heap.size ≤ k) (v : Value) : Below a.heap.size a (b.setCell ⟨k, i, none⟩ v) := g.setCell hk v
/-- New blocks, and how much has been drawn. -/
structure Ext where
  objs : Array Obj
  drawn : Nat
instance : Nonempty Ext := ⟨⟨#[], 0⟩⟩
/-- w with new blocks behind it, and whatever has been drawn. -/
def ext (w : World) (x : Ext) : World := { w with heap := w.heap ++ x.objs, drawn := x.drawn }
theorem ext_of_below {w w' : World} (h : Below w.heap.size w w') : ∃ x, w' = ext w x := by
  obtain ⟨heap, tape, drawn, os, output⟩ := w
  obtain ⟨heap', tape', drawn', os', output'⟩ := w'
  obtain ⟨h1, h2, h3, h4, h5⟩ := h
  simp only at h1 h2 h3 h4 h5
  subst h1 h2 h3
  refine ⟨⟨heap'.extract heap.size heap'.size, drawn'⟩, ?_⟩
  simp only [ext, World.mk.injEq, and_true]
  apply Array.ext_getElem?
  intro i
  rcases Nat.lt_or_ge i heap.size with h | h
  · rw [Array.getElem?_append_left h]; exact h5 i h
  · rw [Array.getElem?_append_right h, Array.getElem?_extract]
    split
    · congr 1; omega
    · rw [Array.getElem?_eq_none]; omega
theorem below_ext (w : World) (x : Ext) : Below w.heap.size w (ext w x) :=
  ⟨rfl, rfl, rfl, by simp [ext], fun k hk => by show (w.heap ++ x.objs)[k]? = _; rw [Array.getElem?_append_left hk]⟩
theorem below_of_ext {w w' : World} (h : ∃ x, w' = ext w x) : Below w.heap.size w w' := by obtain ⟨x, rfl⟩ := h; exact below_ext w x
@[go_sem] theorem cell?_ext (w : World) (x : Ext) (b i : Nat) (hb : b < w.heap.size) : (ext w x).cell? ⟨b, i, none⟩ = w.cell? ⟨b, i, none⟩ := (below_ext w x).cell (p := ⟨b, i, none⟩) hb
@[go_sem] theorem frozen?_ext (w : World) (x : Ext) (b i : Nat) (hb : b < w.heap.size) : (ext w x).frozen? ⟨b, i, none⟩ = w.frozen? ⟨b, i, none⟩ := (below_ext w x).frozen (p := ⟨b, i, none⟩) hb
theorem hp_ext {w : World} {b : Nat} {o : Obj} (h : w.heap[b]? = some o) (x : Ext) : (ext w x).heap[b]? = some o := below_keeps (below_ext w x) h (lt_of_obj h)
theorem region_calm {P : Program} {id : Nat} {Q : Exit → Act → World → Prop} {a : Act} {w : World} {l : List Oper} (hm : P.follows .mixedOrders = true) (hB : Region.lexB .any l.toArray = true)
    (h : wpQuiet P l.toArray (fun w' => ∃ x, w' = ext w x) (fun a' => ∀ w', (∃ x, w' = ext w x) → Q .normal a' w') l a) : (Code.region id l.toArray true).wp P Q a w :=
  wp_region_quiet (C := fun w' => ∃ x, w' = ext w x) hm hB ⟨⟨#[], w.drawn + 1⟩, by simp [ext]⟩ (by simpa using h)
theorem calm_of {P : Program} {f : FuncId} {args : Array Value} {w : World} {x : Ext} {v : Value}
    (h : Calls P f args (ext w x) fun e w' => e = .returned v ∧ Below (ext w x).heap.size (ext w x) w') : Calls P f args (ext w x) fun e w'' => e = .returned v ∧ ∃ y, w'' = ext w y :=
  h.mono fun _ _ ⟨he, hb⟩ => ⟨he, ext_of_below ((below_ext w x).trans (hb.mono (below_ext w x).size))⟩
theorem calm_same {P : Program} {f : FuncId} {args : Array Value} {w : World} {x : Ext} {v : Value}
    (h : Calls P f args (ext w x) fun e w' => e = .returned v ∧ ext w x = w') : Calls P f args (ext w x) fun e w'' => e = .returned v ∧ ∃ y, w'' = ext w y :=
  h.mono fun _ _ ⟨he, hb⟩ => ⟨he, x, hb.symm⟩
end Go.Proofs.YtdebfniifijjoaaDoor.Kit
/-
  A region that draws its order: its first n operations leave a world of a class (they read, or call what makes new memory alone), the others come behind them in the order of the text. Conditions: none.
-/
namespace Go.Proofs.YtdebfniifijjoaaDoor.Kit
open Go Go.RowKit
set_option linter.unusedVariables false
section
variable {P : Program} {ops : Array Oper} {md : Region.Mode} {C : World → Prop}
/-- Whatever order is picked among the first n; L behind them. -/
def headQ (P : Program) (md : Region.Mode) (ops : Array Oper) (C : World → Prop) (n : Nat) (L : Array Bool → Act → Prop) : Nat → Array Bool → Act → Prop
  | 0, ls, a => L ls a
  | f + 1, ls, a => Region.ready md ops ls ≠ [] ∧ ∀ i ∈ Region.ready md ops ls, i < n ∧ qOp P ops C i (headQ P md ops C n L f (ls.setIfInBounds i true)) a
theorem headQ_any {n g : Nat} {L : Array Bool → Act → Prop} {Q : Exit → Act → World → Prop} (hL : ∀ ls a w, C w → L ls a → wpAny P md ops Q g ls a w) :
    ∀ (f : Nat) (ls : Array Bool) (a : Act) (w : World), C w → headQ P md ops C n L f ls a → wpAny P md ops Q (f + g) ls a w
  | 0, ls, a, w, hw, h => by rw [Nat.zero_add]; exact hL _ _ _ hw h
  | f + 1, ls, a, w, hw, h => by
    rw [show f + 1 + g = (f + g) + 1 by omega]
    exact ⟨fun h0 => absurd h0 h.1, fun i hi => wpOp_of_qOp hw (fun a' w' hw' h' => headQ_any hL f _ a' w' hw' h') (h.2 i hi).2⟩
theorem headQ_take {n i : Nat} {oi : Oper} {v : Value} {L : Array Bool → Act → Prop} (hi : ops[i]? = some oi) (hsel : ∀ (j : Nat) (o : Oper) cs b, ops[j]? = some o → o.op ≠ .select cs b)
    (hs : Region.sinkB md ops n = true) (hc : Region.chainB md ops n = true) (hn : n < ops.size) (hin : i < n) (hdone : ∀ ls a, L ls a → ∀ j ∈ Region.ready md ops ls, n ≤ j) :
    ∀ (f : Nat) (ls : Array Bool) (a : Act), HeadInv md ops n ls →
      (∀ j oj, ops[j]? = some oj → j ≠ i → ls.getD j true = false → (∀ e ∈ oj.after, Region.binds md e = true → e.on ≠ i) → oi.apart ops oj = true) →
      i ∈ Region.ready md ops ls → YieldsIn P ops C oi v a → headQ P md ops C n L f (ls.setIfInBounds i true) (a.put oi.dst v) → headQ P md ops C n L (f + 1) ls a := by
  intro f
  induction f with
  | zero =>
    intro ls a inv hfree hr hy H
    have hun := (mem_ready.1 hr).1
    have low : ∀ j ∈ Region.ready md ops ls, j < n := fun j hj => Nat.lt_of_not_le fun h => tail_waits hs hc hn inv _ i rfl hin hun j h hj
    refine ⟨fun h => (by rw [h] at hr; cases hr), fun j hj => ⟨low j hj, ?_⟩⟩
    by_cases e : j = i
    · subst e; exact hy.qOp hi H
    · exact absurd (low j hj) (Nat.not_lt_of_le (hdone _ _ H j (ready_mono hj e)))
  | succ f ih =>
    intro ls a inv hfree hr hy H
    have hun := (mem_ready.1 hr).1
    have low : ∀ j ∈ Region.ready md ops ls, j < n := fun j hj => Nat.lt_of_not_le fun h => tail_waits hs hc hn inv _ i rfl hin hun j h hj
    refine ⟨fun h => (by rw [h] at hr; cases hr), fun j hj => ⟨low j hj, ?_⟩⟩
    by_cases e : j = i
    · subst e; exact hy.qOp hi H
    · obtain ⟨hju, oj, hoj, hall⟩ := mem_ready.1 hj
      have hno : ∀ x ∈ oj.after, Region.binds md x = true → x.on ≠ i := fun x hx hb he => by
        have h1 := hall x hx hb
        rw [he, getD_both hun] at h1
        cases h1
      have h2 := qOp_put hoj (hfree j oj hoj e hju hno) (fun cs b => hsel i oi cs b hi) (fun cs b => hsel j oj cs b hoj) hy (H.2 j (ready_mono hj e)).2
      refine qOp_mono (fun a' h3 => ih (ls.setIfInBounds j true) a' (inv.set hj (low j hj)) ?_ (ready_mono hr (Ne.symm e)) h3.1 ?_) h2
      · intro k ok hk hki hku hko
        refine hfree k ok hk hki ?_ hko
        by_cases c : j = k
        · subst c; exact hju
        · rwa [getD_set_ne true c] at hku
      · rw [Array.setIfInBounds_comm _ _ e]
        exact h3.2
theorem headQ_lex {n g : Nat} {R : Act → Prop} (hsel : Region.noSelect ops = true) (hs : Region.sinkB md ops n = true) (hc : Region.chainB md ops n = true) (hn : n < ops.size) :
    ∀ (l : List Oper) (k : Nat) (ls : Array Bool) (a : Act), (∀ j, j < l.length → l[j]? = ops[k + j]?) → k + l.length = n → HeadInv md ops n ls → Region.lexHead md ops g l.length k ls = true → wpQuiet P ops C R l a →
      headQ P md ops C n (fun ls' a' => Region.seqB md ops g n ls' = true ∧ R a') l.length ls a
  | [], k, ls, a, _, hk, _, hB, h => by
    obtain rfl : k = n := by simpa using hk
    exact ⟨by simpa [Region.lexHead] using hB, h⟩
  | o :: l, k, ls, a, hl, hk, inv, hB, h => by
    have h0 : ops[k]? = some o := by simpa using (hl 0 (by simp)).symm
    simp only [List.length_cons, Region.lexHead, Bool.and_eq_true] at hB
    have hr : k ∈ Region.ready md ops ls := by simpa using hB.1.1
    have hkn : k < n := by simp only [List.length_cons] at hk; omega
    have hq : qOp P ops C k (wpQuiet P ops C R l) a := by unfold qOp; simp only [h0]; exact h
    obtain ⟨v, hy, hK⟩ := yieldsIn_of_qOp h0 hq
    exact headQ_take h0 (Region.noSelect_spec hsel) hs hc hn hkn (fun _ _ hL => seqB_ready hL.1) l.length ls a inv (Region.free_spec h0 hB.1.2) hr hy
      (headQ_lex hsel hs hc hn l (k + 1) _ _ (fun j hj => by have := hl (j + 1) (by simp; omega); simpa [Nat.add_assoc, Nat.add_comm 1 j] using this) (by simp only [List.length_cons] at hk; omega) (inv.set hr hkn) hB.2 hK)
theorem region_tail {id : Nat} {Q : Exit → Act → World → Prop} {a : Act} {w : World} {l : List Oper} (n : Nat) (hm : P.follows .mixedOrders = true) (hB : Region.lexTailB .any l.toArray n = true) (hC : C { w with drawn := w.drawn + 1 })
    (h : wpQuiet P l.toArray C (fun a' => ∀ w', C w' → wpList P l.toArray Q (l.drop n) a' w') (l.take n) a) : (Code.region id l.toArray true).wp P Q a w := by
  simp only [Region.lexTailB, Bool.and_eq_true, decide_eq_true_eq] at hB
  obtain ⟨⟨⟨⟨hsel, hn⟩, hs⟩, hc⟩, hlex⟩ := hB
  have hnl : n < l.length := by simpa using hn
  have htl : (l.take n).length = n := by simp; omega
  have hdl : (l.drop n).length = l.toArray.size - n := by simp
  have inv0 : HeadInv .any l.toArray n (Array.replicate l.toArray.size false) :=
    ⟨by simp, fun j oj _ hl => (by rw [getD_replicate_false] at hl; cases hl), fun t _ ht => getD_in (by simpa using ht) (getD_replicate_false _ _)⟩
  have H := headQ_lex (md := .any) (g := l.toArray.size - n) hsel hs hc hn (l.take n) 0 _ a (fun j hj => by
    have hj' : j < n := by rw [htl] at hj; exact hj
    simp [hj']) (by simpa using htl) inv0 (by rw [htl]; exact hlex) h
  refine wp_region_any hm ?_
  have R := headQ_any (Q := Q) (g := l.toArray.size - n) (fun ls a' w' hw' hL => by
    have := wpAny_of_seq (md := .any) (Q' := Q) (l.drop n) n ls a' w' (fun j => by simp [List.getElem?_drop]) (by rw [hdl]; exact hL.1) (hL.2 w' hw')
    rwa [hdl] at this) _ _ _ _ hC H
  rw [htl, show n + (l.toArray.size - n) = l.toArray.size by omega] at R
  exact R
/-- The same over calls that make new memory alone. -/
theorem region_calm_tail {id : Nat} {Q : Exit → Act → World → Prop} {a : Act} {w : World} {l : List Oper} (n : Nat) (hm : P.follows .mixedOrders = true) (hB : Region.lexTailB .any l.toArray n = true)
    (h : wpQuiet P l.toArray (fun w' => ∃ x, w' = ext w x) (fun a' => ∀ w', (∃ x, w' = ext w x) → wpList P l.toArray Q (l.drop n) a' w') (l.take n) a) : (Code.region id l.toArray true).wp P Q a w :=
  region_tail n hm hB ⟨⟨#[], w.drawn + 1⟩, by simp [ext]⟩ h
end
end Go.Proofs.YtdebfniifijjoaaDoor.Kit
/-
  The operations on bits at numbers that are not negative. Conditions: those that each names.
-/
namespace Go.Proofs.YtdebfniifijjoaaDoor
open Go.RowKit Kit
set_option linter.unusedVariables false
theorem ofInt64 (a : Nat) (h : a < 18446744073709551616) : (BitVec.ofInt 64 (a : Int)).toNat = a := by
  rw [BitVec.ofInt_natCast, BitVec.toNat_ofNat]; exact Nat.mod_eq_of_lt (by omega)
theorem ofInt32 (a : Nat) (h : a < 4294967296) : (BitVec.ofInt 32 (a : Int)).toNat = a := by
  rw [BitVec.ofInt_natCast, BitVec.toNat_ofNat]; exact Nat.mod_eq_of_lt (by omega)
theorem and_i64 (a b : Nat) (ha : a < 9223372036854775808) (hb : b < 9223372036854775808) : bits .and .i64 (a : Int) (b : Int) = ((a &&& b : Nat) : Int) := by
  have hx : a &&& b < 2 ^ 63 := Nat.and_lt_two_pow _ (by omega)
  show IntKind.i64.wrap ((BitVec.ofInt 64 (a : Int) &&& BitVec.ofInt 64 (b : Int)).toNat : Int) = _
  rw [BitVec.toNat_and, ofInt64 a (by omega), ofInt64 b (by omega)]
  exact IntWalk.i64_in _ (by omega)
theorem xor_i64 (a b : Nat) (ha : a < 9223372036854775808) (hb : b < 9223372036854775808) : bits .xor .i64 (a : Int) (b : Int) = ((a ^^^ b : Nat) : Int) := by
  have hx : a ^^^ b < 2 ^ 63 := Nat.xor_lt_two_pow (by omega) (by omega)
  show IntKind.i64.wrap ((BitVec.ofInt 64 (a : Int) ^^^ BitVec.ofInt 64 (b : Int)).toNat : Int) = _
  rw [BitVec.toNat_xor, ofInt64 a (by omega), ofInt64 b (by omega)]
  exact IntWalk.i64_in _ (by omega)
theorem wrap_u32 (n : Int) : IntKind.u32.wrap n = n % 4294967296 := by simp [IntKind.wrap, IntKind.bits, IntKind.signed]
theorem and_u32 (a b : Nat) (ha : a < 4294967296) (hb : b < 4294967296) : bits .and .u32 (a : Int) (b : Int) = ((a &&& b : Nat) : Int) := by
  have hx : a &&& b < 2 ^ 32 := Nat.and_lt_two_pow _ (by omega)
  show IntKind.u32.wrap ((BitVec.ofInt 32 (a : Int) &&& BitVec.ofInt 32 (b : Int)).toNat : Int) = _
  rw [BitVec.toNat_and, ofInt32 a ha, ofInt32 b hb, wrap_u32]
  omega
theorem or_u32 (a b : Nat) (ha : a < 4294967296) (hb : b < 4294967296) : bits .or .u32 (a : Int) (b : Int) = ((a ||| b : Nat) : Int) := by
  have hx : a ||| b < 2 ^ 32 := Nat.or_lt_two_pow (by omega) (by omega)
  show IntKind.u32.wrap ((BitVec.ofInt 32 (a : Int) ||| BitVec.ofInt 32 (b : Int)).toNat : Int) = _
  rw [BitVec.toNat_or, ofInt32 a ha, ofInt32 b hb, wrap_u32]
  omega
theorem xor_u32 (a b : Nat) (ha : a < 4294967296) (hb : b < 4294967296) : bits .xor .u32 (a : Int) (b : Int) = ((a ^^^ b : Nat) : Int) := by
  have hx : a ^^^ b < 2 ^ 32 := Nat.xor_lt_two_pow (by omega) (by omega)
  show IntKind.u32.wrap ((BitVec.ofInt 32 (a : Int) ^^^ BitVec.ofInt 32 (b : Int)).toNat : Int) = _
  rw [BitVec.toNat_xor, ofInt32 a ha, ofInt32 b hb, wrap_u32]
  omega
end Go.Proofs.YtdebfniifijjoaaDoor
