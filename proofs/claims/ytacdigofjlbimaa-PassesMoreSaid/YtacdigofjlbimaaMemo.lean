/-
  next at once, and the planner's map: what it holds, how it is read and written. Conditions: valid windows.
-/
import Derived.Test.YtacdigofjlbimaaNext
import Derived.Maps.OwnSet
import Derived.Maps.Views
import Derived.DeepKeys4
import Derived.Carry
namespace Go.Proofs.Ytacdigofjlbimaa
open Go.RowKit Kit Go.Maps
set_option linter.unusedVariables false
def nextT (W : Nat → Wn) (gap : Int) (k : Nat) (last : Option Nat) (bud : Int) (i : Nat) : Bool := decide (k ≠ 0) && nextOk W gap last bud i
def nextV (W : Nat → Wn) (k : Nat) (last : Option Nat) (bud : Int) (i : Nat) (t : Bool) : Value := if t = true then pt i ((k : Int) - 1) (bud - (W i).co) else pt (lz last) k bud
theorem next_any (L : List Wn) (gap : Int) (k : Nat) (last : Option Nat) (bud : Int) (i : Nat) (a : Option Addr) (n c mb p : Nat) (w : World) (hW : WS w a n c L) (hp : PO w p a n c gap mb) (hv : vL (wl L) n) (hg : 0 ≤ gap ∧ gap ≤ 1099511627776) (hi : i < n) (hl : ∀ j, last = some j → j < n) (hk : k ≤ 40) (hb : 0 ≤ bud ∧ bud ≤ 1000) :
    Calls Try.prog 27 #[.pointer (some ⟨p, 0, none⟩), pt (lz last) k bud, .int .i64 i] w fun e w' => e = .returned (.tuple #[nextV (wl L) k last bud i (nextT (wl L) gap k last bud i), .bool (nextT (wl L) gap k last bud i)]) ∧ Below w.heap.size w w' := by
  obtain ⟨b, off, rfl, hbl, c0, c1, c2, c3, c4⟩ := hW.2.2.2 i hi
  have hx := hv i hi
  have hco : 0 ≤ (wl L i).co ∧ (wl L i).co ≤ 1000 := ⟨hx.2.2.2.2.2.2.2.1, hx.2.2.2.2.2.2.2.2⟩
  have hcap := hW.2.1
  have hcap2 : c ≤ 2 ^ 63 - 1 := hW.2.2.1
  have hK : 0 ≤ (k : Int) ∧ (k : Int) ≤ 40 := by omega
  by_cases h0 : k = 0
  · have e : nextT (wl L) gap k last bud i = false := by unfold nextT; simp [h0]
    rw [e]
    exact next_none _ _ _ _ _ gap (lz last) k bud b off i n c mb p w hi hcap hcap2 hbl c0 c1 c2 c3 c4 hp hco hb hK (by simp [h0])
  · have hk0 : ((k : Int) == 0) = false := by simpa using h0
    by_cases h1 : bud < (wl L i).co
    · have e : nextT (wl L) gap k last bud i = false := by unfold nextT nextOk; simp; intros; omega
      rw [e]
      exact next_dear _ _ _ _ _ gap (lz last) k bud b off i n c mb p w hi hcap hcap2 hbl c0 c1 c2 c3 c4 hp hco hb hK hk0 h1
    · have h2 : (wl L i).co ≤ bud := by omega
      have eT : nextT (wl L) gap k last bud i = lastOk (wl L) gap last i := by unfold nextT nextOk; simp [h0, h2]
      rw [eT]
      cases last with
      | none => exact next_first _ _ _ _ _ gap _ k bud b off i n c mb p w hi hcap hcap2 hbl c0 c1 c2 c3 c4 hp hco hb hK hk0 h2 rfl
      | some j =>
        have hj := hl j rfl
        obtain ⟨b', off', he, hbl', d0, d1, d2, d3, d4⟩ := hW.2.2.2 j hj
        simp only [Option.some.injEq, Addr.mk.injEq, and_true] at he
        obtain ⟨rfl, rfl⟩ := he
        have hxj := hv j hj
        have hto : 0 ≤ (wl L j).to ∧ (wl L j).to ≤ 1099511627776 := by unfold vW at hxj; omega
        show Calls Try.prog 27 _ w fun e w' => e = .returned (.tuple #[nextV (wl L) k (some j) bud i (fol (wl L j) (wl L i) gap), .bool (fol (wl L j) (wl L i) gap)]) ∧ _
        cases hf : fol (wl L j) (wl L i) gap with
        | true => exact next_jt _ _ _ _ _ gap _ k bud b off i n c mb p w hi hcap hcap2 hbl c0 c1 c2 c3 c4 hp hco hb hK hk0 h2 j rfl hj _ _ _ _ _ d0 d1 d2 d3 d4 hto hg hf
        | false => exact next_jf _ _ _ _ _ gap _ k bud b off i n c mb p w hi hcap hcap2 hbl c0 c1 c2 c3 c4 hp hco hb hK hk0 h2 j rfl hj _ _ _ _ _ d0 d1 d2 d3 d4 hto hg hf
/-! The map -/
theorem laidOut : laidOutB Try.prog = true := by kernel_rfl
theorem ptLaw : Keyed Try.prog 55 := Keyed.of_law (deep_law_laid laidOut (m := 3) (by decide) (by decide +kernel) (by kernel_rfl) (by kernel_rfl))
def RG : Value → Option (DataW Unit × List MemPlace)
  | .agg cs => match cs.toList with
    | [.int .i64 a, .int .i64 b] => some (.agg [.lit (.int .i64 a), .lit (.int .i64 b)], [])
    | _ => none
  | _ => none
abbrev gv (g : Int × Int) : Value := .agg #[.int .i64 g.1, .int .i64 g.2]
def gd (g : Int × Int) : DataW Unit := .agg [.lit (.int .i64 g.1), .lit (.int .i64 g.2)]
theorem RG_mk (g : Int × Int) : RG (gv g) = some (gd g, []) := rfl
theorem RG_inv {v : Value} {g : Int × Int} {ps : List MemPlace} (h : RG v = some (gd g, ps)) : v = gv g := by
  unfold RG at h
  split at h
  · rename_i cs
    split at h
    · rename_i a b hc
      simp only [gd, Option.some.injEq, Prod.mk.injEq, DataW.agg.injEq, List.cons.injEq, DataW.lit.injEq, Lit.int.injEq, true_and, and_true] at h
      obtain ⟨⟨rfl, rfl⟩, _⟩ := h
      rw [← Array.toArray_toList (xs := cs), hc]
    · cases h
  · cases h
theorem pt_key (l k b : Int) (hl : -1 ≤ l ∧ l ≤ 1000) (hk : 0 ≤ k ∧ k ≤ 1000) (hb : 0 ≤ b ∧ b ≤ 1000) : ∃ kl, keyOf Try.prog 55 (pt l k b) = some kl := by
  have h1 : Try.prog.keyType 55 = true := by kernel_rfl
  have h2 : (pt l k b).formed Try.prog 55 = true := by
    simp [Value.formed, Try.underlying55]
    kernel_rfl
  have h3 : ∃ ls, Try.prog.keyLits (Try.prog.types.size + 1) 55 (pt l k b).cells.toList = some ls := by
    obtain ⟨m, hs⟩ : ∃ m, Try.prog.types.size = m + 1 := by
      have h0 : Nat.blt 0 Try.prog.types.size = true := by kernel_rfl
      rw [Nat.blt_eq] at h0
      exact ⟨Try.prog.types.size - 1, by omega⟩
    have c5 : Try.prog.cellsOf 55 = 3 := by kernel_rfl
    have c3 : Try.prog.cellsOf 3 = 1 := by kernel_rfl
    have c2 : Try.prog.cellsOf 2 = 1 := by kernel_rfl
    have w1 : (Lit.int .i64 l).wf = true := by simp [Lit.wf, IntKind.min, IntKind.max, IntKind.signed, IntKind.bits]; omega
    have w2 : (Lit.int .i64 k).wf = true := by simp [Lit.wf, IntKind.min, IntKind.max, IntKind.signed, IntKind.bits]; omega
    have w3 : (Lit.int .i64 b).wf = true := by simp [Lit.wf, IntKind.min, IntKind.max, IntKind.signed, IntKind.bits]; omega
    rw [hs]
    unfold Program.keyLits
    rw [Try.underlying55]
    simp [Value.cells, c5, c3, c2, Program.keyLits, Try.underlying3, Try.underlying2, w1, w2, w3]
  obtain ⟨ls, h3⟩ := h3
  unfold keyOf
  rw [Try.underlying55]
  simp only [h1, h2, Bool.and_self, if_true, h3]
  exact ⟨_, rfl⟩
/-- A point's number. -/
def ptc (last : Option Nat) (k : Nat) (bud : Int) : Nat := ((match last with | none => 0 | some j => j + 1) * 41 + k) * 1001 + bud.toNat
theorem ptc_inj {l l' : Option Nat} {k k' : Nat} {b b' : Int} (hk : k ≤ 40) (hk' : k' ≤ 40) (hb : 0 ≤ b ∧ b ≤ 1000) (hb' : 0 ≤ b' ∧ b' ≤ 1000) (h : ptc l k b = ptc l' k' b') : l = l' ∧ k = k' ∧ b = b' := by
  unfold ptc at h
  have h1 : ∀ x y : Nat, (x * 41 + k) * 1001 + b.toNat = (y * 41 + k') * 1001 + b'.toNat → x = y ∧ k = k' ∧ b = b' := by
    intro x y h; omega
  have h2 := h1 _ _ h
  refine ⟨?_, h2.2⟩
  have h3 := h2.1
  clear h h1 h2
  cases l <;> cases l' <;> simp at h3 ⊢
  exact h3
/-- What the planner's map holds. -/
structure MI (W : Nat → Wn) (n : Nat) (gap : Int) (D : DataW Unit) (Ks : List Nat) : Prop where
  nodup : Ks.Nodup
  small : ∀ x ∈ Ks, x < 1682681
  size : Maps.size D = Ks.length
  tidy : Tidy D
  has : ∀ (last : Option Nat) (k : Nat) (bud : Int) (kl : Lit), k ≤ 40 → 0 ≤ bud ∧ bud ≤ 1000 → (∀ j, last = some j → j < 40) → keyOf Try.prog 55 (pt (lz last) k bud) = some kl → (Maps.has D kl = true ↔ ptc last k bud ∈ Ks) ∧ (Maps.has D kl = true → ∀ z, D.atKey kl z = gd (rest W n gap k last bud))
def Memo (w : World) (mb : Nat) (W : Nat → Wn) (n : Nat) (gap : Int) : Prop := ∃ m D Ks, w.ownsMap Try.prog 55 RG mb m D ∧ MI W n gap D Ks
theorem own_tight {w : World} {mb m : Nat} {D : DataW Unit} (h : w.ownsMap Try.prog 55 RG mb m D) : w.ownsMap Try.prog 55 RG mb (Maps.size D) D := by
  obtain ⟨es, cl, h1, h2, h3, rfl⟩ := h
  exact ⟨es, cl, h1, h2, by simp [Maps.size, length_sorted], rfl⟩
theorem Memo.map {w : World} {mb : Nat} {W : Nat → Wn} {n : Nat} {gap : Int} (h : Memo w mb W n gap) : ∃ es cl, w.heap[mb]? = some (.map es cl) := by
  obtain ⟨_, _, _, ⟨es, cl, h1, _⟩, _⟩ := h
  exact ⟨es, cl, h1⟩
theorem Memo.below {w w' : World} {mb : Nat} {W : Nat → Wn} {n : Nat} {gap : Int} (h : Memo w mb W n gap) (hb : Below w.heap.size w w') : Memo w' mb W n gap := by
  obtain ⟨m, D, Ks, ⟨es, cl, h1, h2⟩, hi⟩ := h
  exact ⟨m, D, Ks, ⟨es, cl, by rw [hb.block mb (lt_of_obj h1)]; exact h1, h2⟩, hi⟩
theorem Memo.setNe {w : World} {mb b i : Nat} {v : Value} {W : Nat → Wn} {n : Nat} {gap : Int} (h : Memo w mb W n gap) (hne : mb ≠ b) : Memo (w.setCell ⟨b, i, none⟩ v) mb W n gap := by
  obtain ⟨m, D, Ks, ⟨es, cl, h1, h2⟩, hi⟩ := h
  exact ⟨m, D, Ks, ⟨es, cl, hp_set_ne h1 hne v, h2⟩, hi⟩
theorem memo_new (w : World) (W : Nat → Wn) (n : Nat) (gap : Int) : Memo (w.alloc (.map #[] 0)) w.heap.size W n gap :=
  ⟨0, _, [], World.ownsMap_made w Try.prog 55 RG, by simp, by simp, rfl, tidy_empty, fun last k bud kl _ _ _ _ => ⟨by simp [Maps.has], by simp [Maps.has]⟩⟩
theorem lz_rng {last : Option Nat} (hl : ∀ j, last = some j → j < 40) : -1 ≤ lz last ∧ lz last ≤ 1000 := by
  cases last with
  | none => simp [lz]
  | some j => have := hl j rfl; simp [lz]; omega
theorem lz_inj {l l' : Option Nat} (h : lz l = lz l') : l = l' := by
  cases l <;> cases l' <;> simp [lz] at h ⊢ <;> omega
/-- The map is read. -/
theorem memo_look {w : World} {mb : Nat} {W : Nat → Wn} {n : Nat} {gap : Int} (h : Memo w mb W n gap) (last : Option Nat) (k : Nat) (bud : Int) (hk : k ≤ 40) (hb : 0 ≤ bud ∧ bud ≤ 1000) (hl : ∀ j, last = some j → j < 40) :
    ∃ (g : Int × Int) (t : Bool), (∀ W', W'.heap[mb]? = w.heap[mb]? → (Instr.lookup 51 (.map (some mb)) (pt (lz last) k bud) true).run Try.prog W' = .ok (.tuple #[gv g, .bool t]) W') ∧ g = (if t = true then rest W n gap k last bud else (0, 0)) := by
  obtain ⟨m, D, Ks, ho, hi⟩ := h
  obtain ⟨kl, hkl⟩ := pt_key (lz last) k bud (lz_rng hl) (by omega) (by omega)
  have hz : ∀ W' : World, (zeroValue 57).run Try.prog W' = .ok (gv (0, 0)) W' := fun _ => by kernel_rfl
  have hh := hi.has last k bud kl hk hb hl hkl
  refine ⟨if Maps.has D kl = true then rest W n gap k last bud else (0, 0), Maps.has D kl, fun W' hW' => ?_, rfl⟩
  have ho' : W'.ownsMap Try.prog 55 RG mb m D := by
    obtain ⟨es, cl, h1, h2⟩ := ho
    exact ⟨es, cl, hW'.trans h1, h2⟩
  obtain ⟨v, ps, hrun, hv⟩ := ho'.look_ok ptLaw Try.underlying51 (hz W') (RG_mk (0, 0)) hkl
  rw [hrun]
  have e : D.atKey kl (gd (0, 0)) = gd (if Maps.has D kl = true then rest W n gap k last bud else (0, 0)) := by
    by_cases hd : Maps.has D kl = true
    · rw [if_pos hd]; exact hh.2 hd _
    · rw [if_neg hd]; exact atKey_of_not_has (by simpa using hd) _
  rw [e] at hv
  rw [RG_inv hv]
/-- The map is written. -/
theorem memo_put {w : World} {mb : Nat} {W : Nat → Wn} {n : Nat} {gap : Int} (h : Memo w mb W n gap) (last : Option Nat) (k : Nat) (bud : Int) (hk : k ≤ 40) (hb : 0 ≤ bud ∧ bud ≤ 1000) (hl : ∀ j, last = some j → j < 40) :
    ∃ w', (Instr.mapUpdate 51 (.map (some mb)) (pt (lz last) k bud) (gv (rest W n gap k last bud))).run Try.prog w = .ok () w' ∧ Memo w' mb W n gap ∧ w.grownBy w' (some mb) := by
  obtain ⟨m, D, Ks, ho, hi⟩ := h
  obtain ⟨kl, hkl⟩ := pt_key (lz last) k bud (lz_rng hl) (by omega) (by omega)
  have hlen : Ks.length ≤ 1682681 := by
    have := (sub_cost (W := fun _ => ⟨0, 0, 0, 0, 0⟩) Ks (List.range 1682681) hi.nodup (by simpa using hi.small) (by simp)).1
    simpa using this
  obtain ⟨w', hrun, ho', hg⟩ := (own_tight ho).update ptLaw Try.underlying51 (by rw [hi.size]; unfold maxLen; omega) hkl (RG_mk (rest W n gap k last bud))
  have hkk : WideAt.IsKeyLit kl := ptLaw.key hkl
  have hh := hi.has last k bud kl hk hb hl hkl
  have hps : ptc last k bud < 1682681 := by
    have h0 : ∀ x : Nat, x ≤ 40 → (x * 41 + k) * 1001 + bud.toNat < 1682681 := by intro x hx; omega
    exact h0 _ (by cases last with | none => simp | some j => have := hl j rfl; simp; omega)
  refine ⟨w', hrun, ?_, hg⟩
  have hother : ∀ (last' : Option Nat) (k' : Nat) (bud' : Int) (kl' : Lit), k' ≤ 40 → 0 ≤ bud' ∧ bud' ≤ 1000 → (∀ j, last' = some j → j < 40) → keyOf Try.prog 55 (pt (lz last') k' bud') = some kl' → (kl' = kl ↔ ptc last' k' bud' = ptc last k bud) ∧ (kl' = kl → last' = last ∧ k' = k ∧ bud' = bud) := by
    intro last' k' bud' kl' hk' hb' hl' hkl'
    have h1 : kl' = kl → last' = last ∧ k' = k ∧ bud' = bud := by
      intro e
      rw [e] at hkl'
      have := ptLaw.inj hkl' hkl
      simp only [Value.agg.injEq, Array.mk.injEq, List.cons.injEq, Value.int.injEq, true_and, and_true] at this
      exact ⟨lz_inj this.1, by omega, this.2.2⟩
    refine ⟨⟨fun e => ?_, fun e => ?_⟩, h1⟩
    · obtain ⟨rfl, rfl, rfl⟩ := h1 e; rfl
    · obtain ⟨rfl, rfl, rfl⟩ := ptc_inj hk' hk hb' hb e
      rw [hkl] at hkl'; exact (Option.some.inj hkl').symm
  have hsz := size_put (k := kl) hi.tidy (gd (rest W n gap k last bud))
  by_cases hd : Maps.has D kl = true
  · refine ⟨_, _, Ks, ho', ⟨hi.nodup, hi.small, ?_, hi.tidy.put hkk _, ?_⟩⟩
    · rw [hsz, if_pos hd]; exact hi.size
    · intro last' k' bud' kl' hk' hb' hl' hkl'
      obtain ⟨o1, o2⟩ := hother last' k' bud' kl' hk' hb' hl' hkl'
      by_cases e : kl' = kl
      · obtain ⟨rfl, rfl, rfl⟩ := o2 e
        subst e
        refine ⟨?_, fun _ z => atKey_put_same hi.tidy.isMap hkk _ _⟩
        rw [has_put_same hi.tidy.isMap hkk]
        simp only [true_iff]
        exact hh.1.1 hd
      · have := hi.has last' k' bud' kl' hk' hb' hl' hkl'
        rw [has_put_other e]
        exact ⟨this.1, fun hq z => by rw [atKey_put_other e]; exact this.2 hq z⟩
  · have hnm : ptc last k bud ∉ Ks := fun hm => hd (hh.1.2 hm)
    refine ⟨_, _, ptc last k bud :: Ks, ho', ⟨List.nodup_cons.2 ⟨hnm, hi.nodup⟩, ?_, ?_, hi.tidy.put hkk _, ?_⟩⟩
    · intro x hx
      rcases List.mem_cons.1 hx with rfl | hx
      · exact hps
      · exact hi.small x hx
    · rw [hsz, if_neg hd, hi.size]; simp
    · intro last' k' bud' kl' hk' hb' hl' hkl'
      obtain ⟨o1, o2⟩ := hother last' k' bud' kl' hk' hb' hl' hkl'
      by_cases e : kl' = kl
      · obtain ⟨rfl, rfl, rfl⟩ := o2 e
        subst e
        refine ⟨?_, fun _ z => atKey_put_same hi.tidy.isMap hkk _ _⟩
        rw [has_put_same hi.tidy.isMap hkk]
        simp
      · have := hi.has last' k' bud' kl' hk' hb' hl' hkl'
        rw [has_put_other e]
        refine ⟨?_, fun hq z => by rw [atKey_put_other e]; exact this.2 hq z⟩
        rw [this.1, List.mem_cons]
        constructor
        · exact .inr
        · rintro (h | h)
          · exact absurd (o1.2 h) e
          · exact h
end Go.Proofs.Ytacdigofjlbimaa
