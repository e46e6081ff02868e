/-
  The monitors' copy of the law FaultsPlays, and the arguments of its walk. Conditions: none.
-/
import Derived.Test.YthgilipffdcddaaPlx
namespace Go.Proofs.Ythgilipffdcddaa
open Go.RowKit Kit
set_option linter.unusedVariables false
/-- 'append' onto the call's own row, whatever is appended: nil or not. -/
theorem wpList_append_own_any {P : Program} (w : World) {ops : Array Oper} {rest : List Oper} {o : Oper} {a : Act} {Q : Exit → Act → World → Prop} (hgd : o.guard = none) (s x : Operand) (t : TypeId)
    (ho : o.op = .call { callee := .builtin .append, args := #[s, x], argTypes := #[t, t] })
    (base : Nat) (e : TypeId) (i : TypeInfo) (z : Value) (size bytes : Nat) (ht : P.underlying t = some (.slice e)) (hi : P.info? e = some i) (hz : i.zero = some z)
    (hsize : i.size = size) (hby : i.bytes = bytes) (hzs : z.cells.size = size) (hsz : 0 < size)
    (v : Value) (n : Nat) (xs : List Value) (hs : a.eval s = v) (hown : w.ownsRow base e size v n xs)
    (ao : Option Addr) (m c : Nat) (news : List Value) (hx : a.eval x = .slice ao m c) (hl : news.length = m * size) (hnone : ao = none → m = 0 ∧ c = 0) (hnews : ∀ ad, ao = some ad → ∀ j u, news[j]? = some u → w.cell? (ad.add j) = some u) (h1 : ∀ u ∈ news, u.oneCell' = true)
    (h63 : n + m ≤ maxLen) (hbytes : (n + m) * bytes ≤ 140737488355328) (hbase : base ≤ w.heap.size)
    (h : ∀ v' w', w'.ownsRow base e size v' (n + m) (xs ++ news) → w.grownBy w' v.ownBlock → wpList P ops Q rest (a.put o.dst v') w') : wpList P ops Q (o :: rest) a w := by
  cases ao with
  | some ad => exact wpList_append_own w hgd s x t ho base e i z size bytes ht hi hz hsize hby hzs hsz v n xs hs hown ad m c news hx hl (hnews ad rfl) h1 h63 hbytes hbase (fun v' w' h1 h2 _ => h v' w' h1 h2)
  | none =>
    obtain ⟨rfl, rfl⟩ := hnone rfl
    have hnews : news = [] := List.eq_nil_of_length_eq_zero (by simpa using hl)
    subst hnews
    exact wpList_append_own_none hgd s x t ho base e i size ht hi v n xs hs hown hx (h v w (by simpa using hown) (World.grownBy.refl _ _))
theorem empty_row (w : World) (t size base : Nat) (hb : base ≤ w.heap.size) : (w.alloc (.cells #[] t)).ownsRow base t size (.slice (some ⟨w.heap.size, 0, none⟩) 0 0) 0 [] :=
  ⟨by simp, .inr ⟨w.heap.size, 0, #[], rfl, hb, hp_new w _, Nat.le_refl _, by simp, by simp, by simp⟩⟩
theorem ms_src {w : World} {ad : Addr} {n c : Nat} {L : List E} (h : MS w (.slice (some ad) n c) L) : ∀ j u, (L.flatMap mc)[j]? = some u → w.cell? (ad.add j) = some u := by
  intro j u hu
  have hj := (List.getElem?_eq_some_iff.1 hu).1
  rw [flat_len mc_len] at hj
  have hk : j / 7 < L.length := by omega
  have hg : L[j / 7]? = some (L[j / 7]'hk) := List.getElem?_eq_getElem _
  have e := flat_get mc_len L (j / 7) (j % 7) _ hg (by omega)
  rw [show j / 7 * 7 + j % 7 = j by omega, hu] at e
  rcases h.2 with ⟨b, off, c', he, hl, hc⟩ | ⟨rfl, _⟩
  · simp only [Value.slice.injEq, Option.some.injEq] at he
    obtain ⟨rfl, _, _⟩ := he
    rw [Addr.add_lit, e, ← hc (j / 7) _ hg (j % 7) (by omega), show off + (j / 7 * 7 + j % 7) = off + j by omega]
  · simp at hk
theorem own_ms {w : World} {base n : Nat} {v : Value} {L : List E} (hf : ∀ e ∈ L, fresh e) (h : w.ownsRow base 30 7 v n (L.flatMap mc)) : n = L.length ∧ MS w v L := by
  have hl : n = L.length := by have := h.1; rw [flat_len mc_len] at this; omega
  refine ⟨hl, hf, ?_⟩
  rcases h.2 with ⟨h1, h2⟩ | ⟨g, cap, cur, h1, hb, hg, h3, h4, h5, h6⟩
  · subst h2
    exact .inr ⟨List.length_eq_zero_iff.1 hl.symm, _, _, h1⟩
  · subst h1
    refine .inl ⟨g, 0, cap, by rw [hl], lt_of_obj hg, fun i e he j hj => ?_⟩
    have e1 := flat_get mc_len L i j e he hj
    have e2 : (mc e)[j]? = some ((mc e)[j]'(by rw [mc_len]; exact hj)) := List.getElem?_eq_getElem _
    rw [e2] at e1 ⊢
    rw [Nat.zero_add]
    exact own_cell h e1
def zE (e : E) : E := { e with par := 0, lo := 0, hi := 0, per := 0, tier := 0, seq := 0, on := false }
/-- A monitor of the copy is struck. -/
theorem zero_row {w : World} {base g cap n i : Nat} {M : List E} {e : E} (h : w.ownsRow base 30 7 (.slice (some ⟨g, 0, none⟩) n cap) n (M.flatMap mc)) (hi : M[i]? = some e) :
    (((((((w.setCell ⟨g, i * 7, none⟩ (.int .i64 0)).setCell ⟨g, i * 7 + 1, none⟩ (.int .i64 0)).setCell ⟨g, i * 7 + 2, none⟩ (.int .i64 0)).setCell ⟨g, i * 7 + 3, none⟩ (.int .i64 0)).setCell ⟨g, i * 7 + 4, none⟩ (.int .i64 0)).setCell ⟨g, i * 7 + 5, none⟩ (.int .i64 0)).setCell ⟨g, i * 7 + 6, none⟩ (.bool false)).ownsRow base 30 7 (.slice (some ⟨g, 0, none⟩) n cap) n ((M.set i (zE e)).flatMap mc) ∧
    Mod (fun j => j = g) w (((((((w.setCell ⟨g, i * 7, none⟩ (.int .i64 0)).setCell ⟨g, i * 7 + 1, none⟩ (.int .i64 0)).setCell ⟨g, i * 7 + 2, none⟩ (.int .i64 0)).setCell ⟨g, i * 7 + 3, none⟩ (.int .i64 0)).setCell ⟨g, i * 7 + 4, none⟩ (.int .i64 0)).setCell ⟨g, i * 7 + 5, none⟩ (.int .i64 0)).setCell ⟨g, i * 7 + 6, none⟩ (.bool false)) := by
  have hlt := (List.getElem?_eq_some_iff.1 hi).1
  have g1 : ∀ (M : List E) (x y : E), i < M.length → (M.set i x)[i]? = some x := fun M x y h => by simp [h]
  have r0 := rw_set mc_len h hi 0 (by omega) (.int .i64 0) { e with par := 0 } rfl
  have r1 := rw_set mc_len r0 (g1 M _ e hlt) 1 (by omega) (.int .i64 0) { e with par := 0, lo := 0 } rfl
  have r2 := rw_set mc_len r1 (g1 _ _ e (by simpa using hlt)) 2 (by omega) (.int .i64 0) { e with par := 0, lo := 0, hi := 0 } rfl
  have r3 := rw_set mc_len r2 (g1 _ _ e (by simpa using hlt)) 3 (by omega) (.int .i64 0) { e with par := 0, lo := 0, hi := 0, per := 0 } rfl
  have r4 := rw_set mc_len r3 (g1 _ _ e (by simpa using hlt)) 4 (by omega) (.int .i64 0) { e with par := 0, lo := 0, hi := 0, per := 0, tier := 0 } rfl
  have r5 := rw_set mc_len r4 (g1 _ _ e (by simpa using hlt)) 5 (by omega) (.int .i64 0) { e with par := 0, lo := 0, hi := 0, per := 0, tier := 0, seq := 0 } rfl
  have r6 := rw_set mc_len r5 (g1 _ _ e (by simpa using hlt)) 6 (by omega) (.bool false) (zE e) rfl
  simp only [List.set_set] at r6
  exact ⟨r6, mod_at (mod_at (mod_at (mod_at (mod_at (mod_at (mod_at (Mod.refl _ w) _) _) _) _) _) _) _⟩
theorem slIn_ms2 {w : World} {v : Value} (h : SlIn [.inl .i64, .inl .i64, .inl .i64, .inl .i64, .inl .i64, .inl .i64, .inr false] w v) : ∃ L a c, MS w v L ∧ v = .slice a L.length c ∧ L.length ≤ c ∧ c ≤ maxLen ∧ (a = none → L.length = 0 ∧ c = 0) := by
  rcases h with rfl | ⟨a, rfl⟩ | h
  · exact ⟨[], none, 0, ⟨by simp, .inr ⟨rfl, _, _, rfl⟩⟩, rfl, by simp, by simp [maxLen], fun _ => ⟨rfl, rfl⟩⟩
  · exact ⟨[], some a, 0, ⟨by simp, .inr ⟨rfl, _, _, rfl⟩⟩, rfl, by simp, by simp [maxLen], fun e => by cases e⟩
  · obtain ⟨L, hM, _, a, c, he, h1, h2⟩ := slIn_ms (.inr (.inr h))
    refine ⟨L, a, c, hM, he, h1, h2, fun e => ?_⟩
    obtain ⟨b, off, len, cap, C, hv, _⟩ := h
    rw [hv, e] at he
    cases he
theorem PH.own {w wr wr' : World} {f r g : Nat} {v lv wv : Value} {L1 L2 : List E} (h : PH w f r v lv wv L1 L2 wr) (hm : Mod (fun j => j = g) wr wr') (hg : g < f) (hw : w.heap.size ≤ g) : PH w f r v lv wv L1 L2 wr' := by
  refine ⟨h.fo.mod hm (by omega) (fun k hk e => ?_), h.ro.mod hm ?_ (fun k hk e => ?_) (fun k hk e => ?_), h.bl.trans (hm.below h.bl.size (fun k hk => by omega)), h.lo, h.fr⟩
  · have := (h.fo.blk k hk).1; omega
  · have := h.fr.1; omega
  · have := (h.ro.blk k (.inl hk)).1; have := h.fr.1; omega
  · have := (h.ro.blk k (.inr hk)).1; have := h.fr.1; omega
end Go.Proofs.Ythgilipffdcddaa
