/-
  Shared plain lemmas of this seat: how arguments made of integers, bools and strings are opened, and how a law's row follows from a contract that returns true and keeps the old memory. Conditions: none.
-/
import Derived.WalkKit
import Derived.ProofKit
import Derived.OpenShut
import Derived.ShutString
import Derived.ChangeOld
import Derived.Below
import Derived.Deep.Slices
import Derived.Lib.Hide
import Derived.WalkSpells
import Derived.WalkLawsBesides
import Derived.Handy
import Derived.StillTailTactics
import Derived.BigQuiet
import Derived.Deep.QuietTactic
namespace Go.Proofs.Ytbfgpjpfhbbdfaa.Kit
open Go.ChangeShapes Go.WideShapes Go.ChangeAt Go.RowKit
set_option linter.unusedVariables false

/-! ### A law's row from its contract -/
theorem trodAll_below {H : Type} {enc : TypeId × Value → H} {P : Program} (hl : laidOutB P = true) {W W' : World} (hb : Below W.heap.size W W') :
    ∀ (ts : List TypeId) (vs : List Value) (ds : List (DataW H)) (ps : List MemPlace), (∀ t ∈ ts, P.readableRec t = true ∧ t < P.types.size) →
      DataW.TrodAll enc P W 0 (fun _ => true) true ts vs ds ps → DataW.TrodAll enc P W' 0 (fun b => decide (b < W.heap.size)) true ts vs ds ps
  | [], [], [], ps, _, h => h
  | [], [], _ :: _, _, _, h => h.elim
  | [], _ :: _, _, _, _, h => h.elim
  | _ :: _, [], _, _, _, h => h.elim
  | _ :: _, _ :: _, [], _, _, h => h.elim
  | t :: ts, v :: vs, d :: ds, ps, hr, h => by
    obtain ⟨p, q, h1, h2, rfl⟩ := h
    have lt : ∀ x ∈ p, x.block < W.heap.size := by obtain ⟨m, hm⟩ := h1; exact DataW.trod_lt m _ _ _ hm
    exact ⟨p, q, Below.trod hl (hr t (by simp)).1 (hr t (by simp)).2 h1 hb lt, trodAll_below hl hb ts vs ds q (fun u hu => hr u (by simp [hu])) h2, rfl⟩

theorem trodAll_length {H : Type} {enc : TypeId × Value → H} {P : Program} {W : World} {b : Nat} {sp : Nat → Bool} {hd : Bool} :
    ∀ (ts : List TypeId) (vs : List Value) (ds : List (DataW H)) (ps : List MemPlace), DataW.TrodAll enc P W b sp hd ts vs ds ps → ds.length = ts.length ∧ vs.length = ts.length
  | [], [], [], _, _ => ⟨rfl, rfl⟩
  | [], [], _ :: _, _, h => h.elim
  | [], _ :: _, _, _, h => h.elim
  | _ :: _, [], _, _, h => h.elim
  | _ :: _, _ :: _, [], _, h => h.elim
  | t :: ts, v :: vs, d :: ds, ps, h => by
    obtain ⟨p, q, _, h2, _⟩ := h
    have := trodAll_length ts vs ds q h2
    simp [this.1, this.2]

/-- A law's post, from a contract: it returns true and nothing that was there has turned. -/
theorem law_post {H : Type} {enc : TypeId × Value → H} {P : Program} {f : FuncId} {fn : Func} {s : ChangeSpec} {W : World} {args : Array Value} {ds gs : List (DataW H)} {before : List MemPlace} {tb : TypeId}
    (hv : s.vars = []) (hfn : ∀ ds : List (DataW H), ds.length = fn.params.size → s.fn H ds = ⟨[.lit (.bool true)], ds, []⟩) (hres : fn.resultTypes = #[tb]) (htb : P.underlying tb = some .bool)
    (hl : laidOutB P = true) (hr : ∀ t ∈ fn.params.toList, P.readableRec t = true ∧ t < P.types.size)
    (hW : DataW.Whole enc P fn.params.toList s.vars false W args.toList ds gs before)
    (hc : ∀ p, DataW.TrodAll enc P W 0 (fun _ => true) true fn.params.toList args.toList ds p → Calls P f args W fun e W' => e = .returned (.bool true) ∧ Below W.heap.size W W') :
    Calls P f args W fun e W' => ∃ v, e = .returned v ∧ s.post enc P fn false true false false W args v W' := by
  have hW' := hW
  obtain ⟨p, q, hA, hV, rfl, hfz, hnd⟩ := hW
  rw [hv] at hV
  obtain ⟨rfl, rfl⟩ := trodVars_none hV
  refine (hc p hA).mono fun e W' ⟨he, bel⟩ => ?_
  subst he
  have hlen := trodAll_length _ _ _ _ hA
  have e1 : s.fn H (ds ++ []) = ⟨[.lit (.bool true)], ds, []⟩ := by rw [List.append_nil]; exact hfn ds (by simpa using hlen.1)
  refine ⟨_, rfl, _, _, _, [], p, [], hW', ?_, ?_, ?_, bel.frame _, fun h => by cases h⟩
  · rw [e1, hres]; exact trodAll_mk1 (shut_bool htb _)
  · rw [e1]; exact trodAll_below hl bel _ _ _ _ hr hA
  · rw [e1, hv]; rfl

/-! ### Regions, worlds, cells -/
theorem region_still_tail {P : Program} {id : Nat} {Q : Exit → Act → World → Prop} {a : Act} {w : World} {l : List Oper} (n : Nat) (hm : P.follows .mixedOrders = true) (hB : Region.lexTailB .any l.toArray n = true)
    (h : wpStill P l.toArray w.drew (fun a' => wpList P l.toArray Q (l.drop n) a' w.drew) (l.take n) a) : (Code.region id l.toArray true).wp P Q a w :=
  wp_region_still_tail n hm hB h
theorem still_of {P : Program} {f : FuncId} {args : Array Value} {w : World} {v : Value} (h : Calls P f args w fun e w' => e = .returned v ∧ w = w') : Calls P f args w fun e w' => e = .returned v ∧ w' = w :=
  h.mono fun _ _ ⟨h1, h2⟩ => ⟨h1, h2.symm⟩
theorem ret_bool {a b : Bool} (h : a = b) : Ending.returned (.bool a) = .returned (.bool b) := by rw [h]
theorem ret_int {k : IntKind} {a b : Int} (h : a = b) : Ending.returned (.int k a) = .returned (.int k b) := by rw [h]
/-- Of what was there only the blocks in S may have turned. -/
structure Mod (S : Nat → Prop) (w w' : World) : Prop where
  os : w'.os = w.os
  tape : w'.tape = w.tape
  output : w'.output = w.output
  size : w.heap.size ≤ w'.heap.size
  block : ∀ k, k < w.heap.size → ¬ S k → w'.heap[k]? = w.heap[k]?
theorem Mod.refl (S : Nat → Prop) (w : World) : Mod S w w := ⟨rfl, rfl, rfl, Nat.le_refl _, fun _ _ _ => rfl⟩
theorem Mod.alloc {S : Nat → Prop} {a w : World} (h : Mod S a w) (o : Obj) : Mod S a (w.alloc o) :=
  ⟨h.os, h.tape, h.output, by have := h.size; simp; omega, fun k hk hs => (Below.heap_alloc w o k (by have := h.size; omega)).trans (h.block k hk hs)⟩
theorem Mod.drew {S : Nat → Prop} {a w : World} (h : Mod S a w) : Mod S a w.drew := ⟨h.os, h.tape, h.output, h.size, h.block⟩
theorem Mod.drewN {S : Nat → Prop} {a w : World} (h : Mod S a w) (n : Nat) : Mod S a (w.drewN n) := ⟨h.os, h.tape, h.output, h.size, h.block⟩
theorem Mod.setCell {S : Nat → Prop} {a w : World} (h : Mod S a w) {p : Addr} (hp : S p.block ∨ a.heap.size ≤ p.block) (u : Value) : Mod S a (w.setCell p u) :=
  ⟨h.os, h.tape, h.output, by have := h.size; simpa [World.setCell] using this, fun k hk hs => (Below.heap_setCell w p u k (by rcases hp with hp | hp; exact fun e => hs (e ▸ hp); omega)).trans (h.block k hk hs)⟩
theorem Mod.trans {S S' : Nat → Prop} {a b c : World} (h : Mod S a b) (h' : Mod S' b c) (hs : ∀ k, k < a.heap.size → S' k → S k) : Mod S a c :=
  ⟨h'.os.trans h.os, h'.tape.trans h.tape, h'.output.trans h.output, Nat.le_trans h.size h'.size, fun k hk hn => (h'.block k (Nat.lt_of_lt_of_le hk h.size) (fun e => hn (hs k hk e))).trans (h.block k hk hn)⟩
theorem Mod.mono {S S' : Nat → Prop} {a b : World} (h : Mod S a b) (hs : ∀ k, k < a.heap.size → S k → S' k) : Mod S' a b :=
  ⟨h.os, h.tape, h.output, h.size, fun k hk hn => h.block k hk (fun e => hn (hs k hk e))⟩
theorem Mod.below {S : Nat → Prop} {a b : World} {B : Nat} (h : Mod S a b) (hB : B ≤ a.heap.size) (hs : ∀ k, S k → B ≤ k) : Below B a b :=
  ⟨h.os, h.tape, h.output, h.size, fun k hk => h.block k (by omega) (fun e => by have := hs k e; omega)⟩
theorem Mod.of_below {S : Nat → Prop} {a b : World} (h : Below a.heap.size a b) : Mod S a b := ⟨h.os, h.tape, h.output, h.size, fun k hk _ => h.block k hk⟩
/-- A block that a step keeps. -/
theorem Mod.keeps {S : Nat → Prop} {a b : World} (h : Mod S a b) {k : Nat} {o : Obj} (hk : a.heap[k]? = some o) (hs : ¬ S k) : b.heap[k]? = some o := by
  have hlt : k < a.heap.size := by
    rcases Nat.lt_or_ge k a.heap.size with h' | h'
    · exact h'
    · rw [Array.getElem?_eq_none h'] at hk; cases hk
  rw [h.block k hlt hs]; exact hk
theorem lt_of_obj {w : World} {k : Nat} {o : Obj} (hk : w.heap[k]? = some o) : k < w.heap.size := by
  rcases Nat.lt_or_ge k w.heap.size with h' | h'
  · exact h'
  · rw [Array.getElem?_eq_none h'] at hk; cases hk
theorem cell_of {w : World} {b i : Nat} {c : Array Value} {t : TypeId} {fr : Nat × Nat} {v : Value} (h : w.heap[b]? = some (.cells c t fr)) (hv : c[i]? = some v) : w.cell? ⟨b, i, none⟩ = some v := by
  simp [World.cell?, h, hv]
theorem free_of {w : World} {b i : Nat} {c : Array Value} {t : TypeId} (h : w.heap[b]? = some (.cells c t)) : w.frozen? ⟨b, i, none⟩ = false := by
  simp [World.frozen?, h]
theorem hp_set {w : World} {b i : Nat} {c : Array Value} {t : TypeId} {fr : Nat × Nat} (h : w.heap[b]? = some (.cells c t fr)) (v : Value) : (w.setCell ⟨b, i, none⟩ v).heap[b]? = some (.cells (c.setIfInBounds i v) t fr) := by
  simp [World.setCell, Array.getElem?_modify, h]
theorem hp_set_ne {w : World} {b b' i : Nat} {o : Obj} (h : w.heap[b]? = some o) (hne : b ≠ b') (v : Value) : (w.setCell ⟨b', i, none⟩ v).heap[b]? = some o := by
  rw [Below.heap_setCell _ _ _ _ hne]; exact h
theorem hp_new (w : World) (o : Obj) : (w.alloc o).heap[w.heap.size]? = some o := by
  show (w.heap.push o)[w.heap.size]? = _
  simp
theorem hp_old {w : World} {b : Nat} {o : Obj} (h : w.heap[b]? = some o) (o' : Obj) : (w.alloc o').heap[b]? = some o := by
  rw [Below.heap_alloc _ _ _ (lt_of_obj h)]; exact h
theorem hp_drew {w : World} {b : Nat} {o : Obj} (h : w.heap[b]? = some o) : w.drew.heap[b]? = some o := h

theorem hp_as {x : Option Obj} {o o' : Obj} (h : x = some o) (e : o = o') : x = some o' := e ▸ h

/-! ### Types that are flat: integers, bools, strings, and structs and arrays of them -/
abbrev Sc := IntKind ⊕ Bool
def scOK : Sc → Value → Prop
  | .inl k, v => ∃ n, v = .int k n ∧ (Lit.int k n).wf = true
  | .inr false, v => ∃ b, v = .bool b
  | .inr true, v => ∃ s, v = .string s ∧ s.size ≤ maxLen
def scAll : List Sc → List Value → Prop
  | [], [] => True
  | k :: ks, c :: cs => scOK k c ∧ scAll ks cs
  | _, _ => False
theorem scAll_length : ∀ {ks : List Sc} {cs : List Value}, scAll ks cs → cs.length = ks.length
  | [], [], _ => rfl
  | [], _ :: _, h => h.elim
  | _ :: _, [], h => h.elim
  | _ :: _, _ :: _, h => by simp [scAll_length h.2]
theorem scAll_append : ∀ {ks ls : List Sc} {cs ds : List Value}, scAll ks cs → scAll ls ds → scAll (ks ++ ls) (cs ++ ds)
  | [], _, [], _, _, h => h
  | [], _, _ :: _, _, h, _ => h.elim
  | _ :: _, _, [], _, h, _ => h.elim
  | _ :: _, _, _ :: _, _, h, h' => ⟨h.1, scAll_append h.2 h'⟩
theorem scAll_nil {cs : List Value} (h : scAll [] cs) : cs = [] := by cases cs with | nil => rfl | cons _ _ => exact h.elim
theorem scAll_int {k : IntKind} {ks : List Sc} {cs : List Value} (h : scAll (.inl k :: ks) cs) : ∃ n cs', cs = .int k n :: cs' ∧ (Lit.int k n).wf = true ∧ scAll ks cs' := by
  cases cs with
  | nil => exact h.elim
  | cons c cs => obtain ⟨⟨n, rfl, hw⟩, h2⟩ := h; exact ⟨n, cs, rfl, hw, h2⟩
theorem scAll_bool {ks : List Sc} {cs : List Value} (h : scAll (.inr false :: ks) cs) : ∃ b cs', cs = .bool b :: cs' ∧ scAll ks cs' := by
  cases cs with
  | nil => exact h.elim
  | cons c cs => obtain ⟨⟨n, rfl⟩, h2⟩ := h; exact ⟨n, cs, rfl, h2⟩
theorem scAll_string {ks : List Sc} {cs : List Value} (h : scAll (.inr true :: ks) cs) : ∃ s cs', cs = .string s :: cs' ∧ s.size ≤ maxLen ∧ scAll ks cs' := by
  cases cs with
  | nil => exact h.elim
  | cons c cs => obtain ⟨⟨n, rfl, hw⟩, h2⟩ := h; exact ⟨n, cs, rfl, hw, h2⟩

def flatFields (P : Program) (rec : TypeId → Option (List Sc)) : Nat → List Field → Option (List Sc)
  | _, [] => some []
  | o, f :: fs =>
    match rec f.type, flatFields P rec (o + P.cellsOf f.type) fs with
    | some l, some r => if f.offset = o ∧ P.cellsOf f.type = l.length then some (l ++ r) else none
    | _, _ => none
/-- The kinds of a flat type's cells. -/
def flat (P : Program) : Nat → TypeId → Option (List Sc)
  | 0, _ => none
  | n + 1, t =>
    match P.underlying t with
    | some (.int k) => some [.inl k]
    | some .bool => some [.inr false]
    | some .string => some [.inr true]
    | some (.struct fs) => match flatFields P (flat P n) 0 fs.toList with | some l => if P.cellsOf t = l.length then some l else none | none => none
    | some (.array m e) => match flat P n e with | some l => if P.cellsOf e = l.length ∧ P.cellsOf t = m * l.length then some (List.replicate m l).flatten else none | none => none
    | _ => none

section
variable {H : Type} {enc : TypeId × Value → H} {P : Program} {w : World} {base : Nat} {spare : Nat → Bool} {held : Bool}

theorem flatFields_ok {m : Nat} {rec : TypeId → Option (List Sc)} (hrec : ∀ t ks cs x, rec t = some ks → DataW.trod enc P w base spare held m t cs = some x → scAll ks cs) (cs : List Value) :
    ∀ (fs : List Field) (o : Nat) (ks : List Sc) (xs : List (DataW H × List MemPlace)), flatFields P rec o fs = some ks →
      (fs.mapM fun f => DataW.trod enc P w base spare held m f.type ((cs.drop f.offset).take (P.cellsOf f.type))) = some xs → scAll ks ((cs.drop o).take ks.length)
  | [], o, ks, xs, h, _ => by simp only [flatFields, Option.some.injEq] at h; subst h; simp [scAll]
  | f :: fs, o, ks, xs, h, hm => by
    simp only [flatFields] at h
    split at h
    · rename_i l r hl hr
      split at h
      · rename_i hc
        simp only [Option.some.injEq] at h
        subst h
        rw [List.mapM_cons] at hm
        simp only [Option.bind_eq_bind, Option.bind_eq_some_iff, Option.pure_def, Option.some.injEq] at hm
        obtain ⟨a, ha, b, hb, _⟩ := hm
        have i1 := hrec _ _ _ _ hl ha
        have i2 := flatFields_ok hrec cs fs _ r b hr hb
        rw [hc.1] at i1
        rw [hc.2] at i1 i2
        have e : (cs.drop o).take (l ++ r).length = (cs.drop o).take l.length ++ ((cs.drop (o + l.length)).take r.length) := by
          rw [List.length_append, ← List.drop_drop, List.take_add]
        rw [e]
        exact scAll_append i1 i2
      · cases h
    · cases h

theorem flatReps_ok {m : Nat} {e : TypeId} {l : List Sc} {c : Nat} (hc : c = l.length) (cs : List Value)
    (hrec : ∀ cs x, DataW.trod enc P w base spare held m e cs = some x → scAll l cs) :
    ∀ (n : Nat), (∀ i, i < n → ∃ x, DataW.trod enc P w base spare held m e ((cs.drop (i * c)).take c) = some x) → scAll (List.replicate n l).flatten (cs.take (n * c))
  | 0, _ => by simp [scAll]
  | n + 1, h => by
    have i1 := flatReps_ok hc cs hrec n (fun i hi => h i (by omega))
    obtain ⟨x, hx⟩ := h n (by omega)
    have i2 := hrec _ _ hx
    have e1 : (List.replicate (n + 1) l).flatten = (List.replicate n l).flatten ++ l := by
      rw [List.replicate_succ', List.flatten_append]; simp
    have e2 : cs.take ((n + 1) * c) = cs.take (n * c) ++ (cs.drop (n * c)).take c := by
      rw [Nat.add_mul, Nat.one_mul, List.take_add]
    rw [e1, e2]
    exact scAll_append i1 i2

theorem flat_ok : ∀ (n fuel : Nat) (t : TypeId) (ks : List Sc) (cs : List Value) (x : DataW H × List MemPlace), flat P n t = some ks →
    DataW.trod enc P w base spare held fuel t cs = some x → scAll ks cs
  | 0, _, _, _, _, _, h, _ => by cases h
  | n + 1, 0, t, ks, cs, x, h, hx => by simp [DataW.trod] at hx
  | n + 1, m + 1, t, ks, cs, x, h, hx => by
    unfold flat at h
    split at h
    · rename_i k hu
      simp only [Option.some.injEq] at h; subst h
      unfold DataW.trod at hx
      rw [hu] at hx
      split at hx <;> simp_all
      obtain ⟨⟨rfl, hw⟩, _⟩ := hx
      exact ⟨⟨_, rfl, hw⟩, trivial⟩
    · rename_i hu
      simp only [Option.some.injEq] at h; subst h
      unfold DataW.trod at hx
      rw [hu] at hx
      split at hx <;> simp_all
      exact ⟨⟨_, rfl⟩, trivial⟩
    · rename_i hu
      simp only [Option.some.injEq] at h; subst h
      unfold DataW.trod at hx
      rw [hu] at hx
      split at hx <;> simp_all
      exact ⟨⟨_, rfl, hx.1⟩, trivial⟩
    · rename_i fs hu
      split at h
      · rename_i l hl
        split at h
        · rename_i hc
          simp only [Option.some.injEq] at h; subst h
          unfold DataW.trod at hx
          rw [hu] at hx
          split at hx <;> simp_all
          obtain ⟨hlen, xs, hxs, _⟩ := hx
          have := flatFields_ok (fun t ks cs x h1 h2 => flat_ok n m t ks cs x h1 h2) _ _ 0 l xs hl hxs
          rw [List.drop_zero] at this
          rwa [List.take_of_length_le (by omega)] at this
        · cases h
      · cases h
    · rename_i k e hu
      split at h
      · rename_i l hl
        split at h
        · rename_i hc
          simp only [Option.some.injEq] at h; subst h
          obtain ⟨xs, m', hm', _, hlen, hxl, hxs⟩ := DataW.trod_array hu hx
          obtain rfl : m = m' := by omega
          have := flatReps_ok hc.1 cs (fun cs x h2 => flat_ok n m e l cs x hl h2) k (fun i hi => ⟨_, (hxs i hi).trans (List.getElem?_eq_getElem (by omega))⟩)
          rwa [hc.1, List.take_of_length_le (by omega)] at this
        · cases h
      · cases h
    · cases h

/-- An argument that is a struct or an array of flat cells. -/
theorem open_flat {r : Reach} {b' : Nat} {t : TypeId} {v : Value} {d : DataW H} {ps : List MemPlace} {ks : List Sc} (hk : flat P 9 t = some ks)
    (hagg : (match P.underlying t with | some (.struct _) | some (.array _ _) => true | _ => false) = true)
    (hv : Value.okWide P w r b' t v) (h : DataW.Trod enc P w base spare held t v d ps) : ∃ cs : List Value, v = .agg cs.toArray ∧ scAll ks cs := by
  obtain ⟨fuel, hf⟩ := h
  have hs := flat_ok 9 fuel t ks _ _ hk hf
  unfold Value.okWide at hv
  split at hv
  · obtain ⟨cs, rfl, _⟩ := hv; exact ⟨cs.toList, by simp, hs⟩
  · obtain ⟨cs, rfl, _⟩ := hv; exact ⟨cs.toList, by simp, hs⟩
  · rename_i h1 h2
    split at hagg
    · rename_i hu; exact (h1 _ hu).elim
    · rename_i hu; exact (h2 _ _ hu).elim
    · cases hagg

/-- What a walk is told of a slice of flat elements. -/
def SlIn (ks : List Sc) (w : World) (v : Value) : Prop :=
  (v = .slice none 0 0) ∨ (∃ a, v = .slice (some a) 0 0) ∨ ∃ (b off len cap : Nat) (C : Nat → List Value), v = .slice (some ⟨b, off, none⟩) len cap ∧ 0 < cap ∧ len ≤ cap ∧ cap ≤ maxLen ∧ b < w.heap.size ∧ (∀ i, i < cap → scAll ks (C i)) ∧
      ∀ i j, i < cap → j < ks.length → w.cell? ⟨b, off + (i * ks.length + j), none⟩ = (C i)[j]?

/-- An argument that is a slice of flat elements: nil, empty, or a block, an offset and a function that gives each element's cells. -/
theorem open_flat_slice {t e : TypeId} {v : Value} {d : DataW H} {ps : List MemPlace} {ks : List Sc} {r : Reach} {b' : Nat} (hu : P.underlying t = some (.slice e)) (hk : flat P 9 e = some ks) (hce : P.cellsOf e = ks.length) (hpos : 0 < ks.length)
    (hv : Value.okWide P w r b' t v) (h : DataW.Trod enc P w base (fun _ => true) held t v d ps) : SlIn ks w v := by
  unfold SlIn
  obtain ⟨a0, len, cap, rfl⟩ := okWide_slice hu hv
  obtain ⟨fuel, hf⟩ := h
  rcases Go.Deep.open_slice hu hf with ⟨h1, _⟩ | ⟨a, len', cap', m, n, D, Pl, h1, _, hl, hm, hmm, _, hel⟩
  · left; simp [Value.cells] at h1; obtain ⟨rfl, rfl, rfl⟩ := h1; rfl
  · right
    simp [Value.cells] at h1
    obtain ⟨rfl, rfl, rfl⟩ := h1
    simp at hmm
    subst hmm
    by_cases h0 : m = 0
    · left; subst h0; obtain rfl : len = 0 := by omega
      exact ⟨a, rfl⟩
    right
    have hex : ∀ i, ∃ cs' : List Value, i < m → w.cells? base (a.add (i * ks.length)) ks.length = some cs' ∧ DataW.trod enc P w base (fun _ => true) held n e cs' = some (D i, Pl i) := by
      intro i
      by_cases hi : i < m
      · obtain ⟨cs', h⟩ := hel i hi; rw [hce] at h; exact ⟨cs', fun _ => h⟩
      · exact ⟨[], fun h => (hi h).elim⟩
    have hC : ∃ C : Nat → List Value, ∀ i, i < m → w.cells? base (a.add (i * ks.length)) ks.length = some (C i) ∧ DataW.trod enc P w base (fun _ => true) held n e (C i) = some (D i, Pl i) :=
      ⟨fun i => Classical.choose (hex i), fun i hi => Classical.choose_spec (hex i) hi⟩
    obtain ⟨C, hC⟩ := hC
    have hcell : ∀ i j, i < m → j < ks.length → w.cell? (a.add (i * ks.length + j)) = (C i)[j]? := by
      intro i j hi hj
      obtain ⟨_, hlen, hget⟩ := World.cells?_some (hC i hi).1
      rw [← hget j hj, Addr.add_add]
    obtain ⟨b, off, spot⟩ := a
    have hc0 := hcell 0 0 (by omega) hpos
    have hs0 := scAll_length (flat_ok 9 n e ks _ _ hk (hC 0 (by omega)).2)
    rw [List.getElem?_eq_getElem (by omega)] at hc0
    have hspot : spot = none := by simpa [Addr.add] using World.cell?_spot hc0
    subst hspot
    refine ⟨b, off, len, m, C, rfl, by omega, hl, hm, ?_, fun i hi => flat_ok 9 n e ks _ _ hk (hC i hi).2, fun i j hi hj => by rw [← Go.WideShapes.add_plain]; exact hcell i j hi hj⟩
    have := World.cells?_block (hC 0 (by omega)).1 hpos
    simpa [Addr.add] using this
end
end Go.Proofs.Ytbfgpjpfhbbdfaa.Kit
