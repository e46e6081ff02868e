/-
  The walks of selected, at Tick's, Tripped's and Watches' functions. Conditions: at most 32 valid monitors.
-/
import Derived.Test.YthgilipffdcddaaClos
namespace Go.Proofs.Ythgilipffdcddaa
open Go.RowKit Kit
set_option linter.unusedVariables false
def tk (L : List E) (P : List Int) (k : Nat) : List E := (L.take k).map (tickE · P) ++ L.drop k
theorem tk_len (L : List E) (P : List Int) (k : Nat) : (tk L P k).length = L.length := by simp [tk]; omega
theorem tk_get (L : List E) (P : List Int) (k : Nat) (h : k < L.length) : (tk L P k)[k]? = L[k]? := by
  unfold tk
  rw [List.getElem?_append_right (by simp; omega)]
  simp [List.getElem?_drop, Nat.min_eq_left (Nat.le_of_lt h)]
theorem tk_succ (L : List E) (P : List Int) (k : Nat) (e : E) (h : L[k]? = some e) : (tk L P k).set k (tickE e P) = tk L P (k + 1) := by
  have hk : k < L.length := by
    rcases Nat.lt_or_ge k L.length with h' | h'
    · exact h'
    · rw [List.getElem?_eq_none h'] at h; cases h
  obtain ⟨_, h⟩ := List.getElem?_eq_some_iff.1 h
  subst h
  unfold tk
  rw [List.set_append_right _ _ (by simp; omega), List.take_succ_eq_append_getElem hk, List.drop_eq_getElem_cons hk]
  simp only [List.length_map, List.length_take, Nat.min_eq_left (Nat.le_of_lt hk), Nat.sub_self, List.set_cons_zero, List.map_append, List.map_cons, List.map_nil, List.append_assoc, List.cons_append, List.nil_append]
abbrev R3 := Int × Int × Int
def rc (r : R3) : List Value := [.int .i64 r.1, .int .i64 r.2.1, .int .i64 r.2.2]
theorem rc_len (r : R3) : (rc r).length = 3 := rfl
def rsK (L : List E) (P : List Int) (k : Nat) : List R3 := (List.range k).filterMap fun (i : Nat) => (L[i]?).bind fun e => if trips e P then some (((i : Nat) : Int), e.tier, e.seq) else none
theorem rsK_succ (L : List E) (P : List Int) (k : Nat) (e : E) (h : L[k]? = some e) : rsK L P (k + 1) = rsK L P k ++ if trips e P then [((k : Int), e.tier, e.seq)] else [] := by
  unfold rsK
  rw [List.range_succ, List.filterMap_append]
  congr 1
  simp only [List.filterMap_cons, List.filterMap_nil, h, Option.bind_some]
  split <;> simp_all
theorem rsK_le (L : List E) (P : List Int) (k : Nat) : (rsK L P k).length ≤ k := by
  unfold rsK; have := List.length_filterMap_le (fun (i : Nat) => (L[i]?).bind fun e => if trips e P then some (((i : Nat) : Int), e.tier, e.seq) else none) (List.range k); simpa using this
theorem info38 : (Try.prog.info? 38).map (fun i => (i.zero, i.size, i.bytes)) = some (some (.agg #[.int .i64 0, .int .i64 0, .int .i64 0]), 3, 24) := by kernel_rfl
def SelT (W : World) (base g cap : Nat) (L : List E) (P : List Int) (k : Nat) (out : Value) (wr : World) : Prop :=
  Row wr base g cap (tk L P k) ∧ wr.ownsRow W.heap.size 38 3 out (rsK L P k).length ((rsK L P k).flatMap rc) ∧ Mod (fun j => j = g) W wr
def SelTE (W : World) (base g cap : Nat) (L : List E) (P : List Int) (e : Ending) (wr : World) : Prop := ∃ out, e = .returned out ∧ SelT W base g cap L P L.length out wr
theorem selT_grow {W w1 w6 : World} {base g cap k : Nat} {L : List E} {P : List Int} {v v' : Value} {o o' : Obj} {r : R3} (hg : g < W.heap.size) (hm : Mod (fun j => j = g) W w1) (hr : Row w1 base g cap (tk L P (k + 1)))
    (how : w1.ownsRow W.heap.size 38 3 v (rsK L P k).length ((rsK L P k).flatMap rc)) (hgr : ((w1.alloc o).alloc o').grownBy w6 v.ownBlock) (how' : w6.ownsRow W.heap.size 38 3 v' ((rsK L P k).length + 1) ((rsK L P k).flatMap rc ++ rc r))
    (hk : rsK L P (k + 1) = rsK L P k ++ [r]) : SelT W base g cap L P (k + 1) v' w6 := by
  refine ⟨own_mod (row_below hr (bl_alloc (bl_alloc (Below.refl _ _) _) _)) (mod_of_grown hgr) (fun j hj hs => ?_), ?_, ((hm.alloc _).alloc _).trans (mod_of_grown hgr) (fun j hj hs => ?_)⟩
  · have h1 := (how.lt j hs).1
    have : g = j := by simpa [Value.ownBlock] using hj
    omega
  · rw [hk, List.length_append, List.flatMap_append]
    simpa using how'
  · have h1 := (how.lt j hs).1
    omega
set_option maxHeartbeats 3200000 in
theorem selT_any {L : List E} {w : World} {base g cap : Nat} {pv : Value} {P : List Int} (pb : Nat) (h : Row w base g cap L) (hok : ∀ e ∈ L, okE e) (h32 : L.length ≤ 32) (hp : PS w pv P) (hpv : P = [] ∨ pv.ownBlock ≠ some g)
    (hpb : w.cell? ⟨pb, 0, none⟩ = some pv) (hne : pb ≠ g) :
    Calls Try.prog 29 #[.slice (some ⟨g, 0, none⟩) L.length cap, .func (.func 30) #[] #[.pointer (some ⟨pb, 0, none⟩)]] w fun e w' => SelTE w base g cap L P e w' := by
  obtain ⟨i0, hi, hz0, hz1, hz2⟩ := info_parts info38
  have hgl := (own_lt h).2
  have hpl := World.block_lt_of_cell? w _ hpb
  simp only at hpl
  have S0 : Hid (SelT w base g cap L P 0 (.slice none 0 0) w) := Lib.hid ⟨by simpa [tk] using h, World.ownsRow_nil _ _ _ _, Mod.refl _ _⟩
  obtain ⟨n, hn⟩ : ∃ n, n = L.length := ⟨_, rfl⟩
  rw [← hn] at h32 ⊢
  have HN := Lib.hid hn
  have HH := Lib.hid h; have HK := Lib.hid hok; have HP := Lib.hid hp; have HPB := Lib.hid hpb
  clear h hok hp hpb hn
  go_enter Try.func29, Try.ntmps29
  go_wp2_with (fail)
  go_loopw [4, 10] (fun v i wr => ∃ k : Nat, k ≤ n ∧ i = .int .i64 k ∧ SelT w base g cap L P k v wr) (fun _ i _ => n - (intOf i).toNat)
  case atStart => exact ⟨0, by omega, rfl, S0.out⟩
  case round =>
    clear S0
    obtain ⟨k, hk, rfl, hS⟩ := hrel
    have HS := Lib.hid hS; clear hS
    by_cases hlt : k < n
    · obtain ⟨e, he⟩ : ∃ e, L[k]? = some e := ⟨_, List.getElem?_eq_getElem (by have := HN.out; omega)⟩
      have HE := Lib.hid he; clear he
      have hok : okE e := HK.out e (List.mem_of_getElem? HE.out)
      have HOK := Lib.hid hok; clear hok
      have hmS := HS.out.2.2.size
      obtain ⟨T, hT⟩ : ∃ T, trips e P = T := ⟨_, rfl⟩
      have HT := Lib.hid hT; clear hT
      obtain ⟨L1, hL1⟩ : ∃ L1, L1 = tk L P (k + 1) := ⟨_, rfl⟩
      have HL1 := Lib.hid hL1; clear hL1
      go_wp2_with (fail)
      refine (tickc_any pb (k * 9) rfl HS.out.1 (i := k) (e := e) (pv := pv) (P := P) ((tk_get L P k (by have := HN.out; omega)).trans HE.out) HOK.out ?_ ?_ hne).mono ?_
      · exact HP.out.mod HS.out.2.2 hpv
      · rw [HS.out.2.2.cell (b := pb) (o := 0) hpl hne]; exact HPB.out
      rw [HT.out, tk_succ L P k e HE.out, ← HL1.out]
      rintro en w1 ⟨rfl, hr1, hm1⟩
      have hm2 : Mod (fun j => j = g) w w1 := HS.out.2.2.trans hm1 (fun _ _ h => h)
      have how1 := own_mod HS.out.2.1 hm1 (fun j hj => by have := (HS.out.2.1.lt j hj).1; omega)
      have hm2s := hm2.size
      replace hr1 := Lib.hid hr1; replace hm2 := Lib.hid hm2; replace how1 := Lib.hid how1
      clear hm1
      have hrl := rsK_le L P k
      cases T with
      | false =>
        have KE : Hid (rsK L P (k + 1) = rsK L P k) := Lib.hid (by rw [rsK_succ L P k e HE.out, HT.out]; simp)
        have kb := hp_new w1 (.cells #[.int .i64 0, .int .i64 0, .int .i64 0] 38)
        go_wp2_with (fail)
        refine ⟨⟨k + 1, by omega, by go_num, ?_, ?_, ?_⟩, by simp [intOf]; omega⟩
        · rw [← HL1.out]
          exact row_below hr1.out (bl_alloc (Below.refl _ _) _)
        · rw [KE.out]
          exact how1.out.alloc _
        · exact hm2.out.alloc _
      | true =>
        have KE : Hid (rsK L P (k + 1) = rsK L P k ++ [((k : Int), e.tier, e.seq)]) := Lib.hid (by rw [rsK_succ L P k e HE.out, HT.out]; simp)
        go_wp2_with (at_builtin; refine wpList_append_own _ rfl _ _ 32 rfl w.heap.size 38 i0 _ 3 24 Try.underlying32 hi hz0 hz1 hz2 rfl (by decide) _ _ _ rfl ((how1.out.alloc _).alloc _) ⟨w1.heap.size + 1, 0, none⟩ 1 1 [_, _, _] rfl rfl (by have := cells_new (w1.alloc (.cells #[.int .i64 (k : Int), .int .i64 e.tier, .int .i64 e.seq] 38)) [.int .i64 (k : Int), .int .i64 e.tier, .int .i64 e.seq] 38; rw [World.size_alloc] at this; exact this) (by simp [Value.oneCell']) (by unfold maxLen; omega) (by omega) (by simp; omega) ?_; intro v' w6 hown' hgrow _)
        refine ⟨⟨k + 1, by omega, by go_num, selT_grow (r := ((k : Int), e.tier, e.seq)) hgl hm2.out (by rw [← HL1.out]; exact hr1.out) how1.out hgrow hown' KE.out⟩, by simp [intOf]; omega⟩
    · have he : k = n := by omega
      subst he
      go_wp2_with (fail)
      go_ret
      exact ⟨_, rfl, by rw [← HN.out]; exact HS.out⟩
/-! selected of Tripped -/
def trK (L : List E) (t : Int) (k : Nat) : Nat := ((L.take k).filter (isTr · t)).length
theorem trK_le (L : List E) (t : Int) (k : Nat) : trK L t k ≤ k := by
  unfold trK; have := List.length_filter_le (isTr · t) (L.take k); simp at this ⊢; omega
theorem take_snoc {α : Type} (L : List α) (k : Nat) (e : α) (h : L[k]? = some e) : L.take (k + 1) = L.take k ++ [e] := by
  have hk : k < L.length := by
    rcases Nat.lt_or_ge k L.length with h' | h'
    · exact h'
    · rw [List.getElem?_eq_none h'] at h; cases h
  obtain ⟨_, h⟩ := List.getElem?_eq_some_iff.1 h
  subst h
  exact List.take_succ_eq_append_getElem hk
theorem trK_succ (L : List E) (t : Int) (k : Nat) (e : E) (h : L[k]? = some e) : trK L t (k + 1) = trK L t k + if isTr e t then 1 else 0 := by
  unfold trK
  rw [take_snoc L k e h, List.filter_append]
  by_cases hh : isTr e t = true <;> simp [hh]
theorem info3 : (Try.prog.info? 3).map (fun i => (i.zero, i.size, i.bytes)) = some (some (.int .i64 0), 1, 8) := by kernel_rfl
theorem info69 : (Try.prog.info? 69).map (fun i => (i.zero, i.size, i.bytes)) = some (some (.agg #[.int .i64 0, .bool false]), 2, 16) := by kernel_rfl
def SelI (W : World) (L : List E) (t : Int) (k : Nat) (out : Value) (wr : World) : Prop :=
  Below W.heap.size W wr ∧ ∃ xs, wr.ownsRow W.heap.size 3 1 out (trK L t k) xs
theorem selI_grow {W w1 w6 : World} {k n m : Nat} {L : List E} {t : Int} {v v' : Value} {o : Obj} {xs xs' : List Value} (hb : Below W.heap.size W w1) (how : w1.ownsRow W.heap.size 3 1 v n xs) (hgr : (w1.alloc o).grownBy w6 v.ownBlock)
    (how' : w6.ownsRow W.heap.size 3 1 v' m xs') (hk : trK L t (k + 1) = m) : SelI W L t (k + 1) v' w6 :=
  ⟨(bl_alloc hb _).grown hgr (by have := hb.size; simp; omega) (fun j e => (how.lt j e).1), xs', by rw [hk]; exact how'⟩
def SelIE (W : World) (L : List E) (t : Int) (e : Ending) (wr : World) : Prop := ∃ out, e = .returned out ∧ SelI W L t L.length out wr
set_option maxHeartbeats 3200000 in
theorem selI_any {L : List E} {w : World} {base g cap : Nat} (pb : Nat) (t : Int) (h : Row w base g cap L) (h32 : L.length ≤ 32) (hpb : w.cell? ⟨pb, 0, none⟩ = some (.int .i64 t)) :
    Calls Try.prog 32 #[.slice (some ⟨g, 0, none⟩) L.length cap, .func (.func 33) #[] #[.pointer (some ⟨pb, 0, none⟩)]] w fun e w' => SelIE w L t e w' := by
  obtain ⟨i0, hi, hz0, hz1, hz2⟩ := info_parts info3
  have hpl := World.block_lt_of_cell? w _ hpb
  simp only at hpl
  have S0 : Hid (SelI w L t 0 (.slice none 0 0) w) := Lib.hid ⟨Below.refl _ _, [], World.ownsRow_nil _ _ _ _⟩
  obtain ⟨n, hn⟩ : ∃ n, n = L.length := ⟨_, rfl⟩
  rw [← hn] at h32 ⊢
  have HN := Lib.hid hn
  have HH := Lib.hid h; have HPB := Lib.hid hpb
  clear h hpb hn
  go_enter Try.func32, Try.ntmps32
  go_wp2_with (fail)
  go_loopw [4, 10] (fun v i wr => ∃ k : Nat, k ≤ n ∧ i = .int .i64 k ∧ SelI w L t k v wr) (fun _ i _ => n - (intOf i).toNat)
  case atStart => exact ⟨0, by omega, rfl, S0.out⟩
  case round =>
    clear S0
    obtain ⟨k, hk, rfl, hS⟩ := hrel
    have HS := Lib.hid hS; clear hS
    by_cases hlt : k < n
    · obtain ⟨e, he⟩ : ∃ e, L[k]? = some e := ⟨_, List.getElem?_eq_getElem (by have := HN.out; omega)⟩
      have HE := Lib.hid he; clear he
      obtain ⟨T, hT⟩ : ∃ T, isTr e t = T := ⟨_, rfl⟩
      have HT := Lib.hid hT; clear hT
      go_wp2_with (fail)
      refine (trippedc_any pb (k * 9) t rfl (row_below HH.out HS.out.1) HE.out (by rw [HS.out.1.cell (p := ⟨pb, 0, none⟩) hpl]; exact HPB.out)).mono ?_
      rw [HT.out]
      rintro en w1 ⟨rfl, hb1⟩
      have hb2 : Below w.heap.size w w1 := bl_step HS.out.1 hb1
      obtain ⟨xs, how⟩ := HS.out.2
      have how1 := own_calm how hb1
      have hb2s := hb2.size
      replace hb2 := Lib.hid hb2; replace how1 := Lib.hid how1
      clear how hb1
      have hrl := trK_le L t k
      obtain ⟨m, hm⟩ : ∃ m, Hid (m = trK L t k) := ⟨_, Lib.hid rfl⟩
      rw [← hm.out] at how1 hrl
      cases T with
      | false =>
        have KE : Hid (trK L t (k + 1) = m) := Lib.hid (by rw [trK_succ L t k e HE.out, HT.out, hm.out]; simp)
        go_wp2_with (fail)
        exact ⟨⟨k + 1, by omega, by go_num, hb2.out, xs, by rw [KE.out]; exact how1.out⟩, by simp [intOf]; omega⟩
      | true =>
        have KE : Hid (trK L t (k + 1) = m + 1) := Lib.hid (by rw [trK_succ L t k e HE.out, HT.out, hm.out]; simp)
        go_wp2_with (at_builtin; refine wpList_append_own _ rfl _ _ 77 rfl w.heap.size 3 i0 _ 1 8 Try.underlying77 hi hz0 hz1 hz2 rfl (by decide) _ _ _ rfl (how1.out.alloc _) ⟨w1.heap.size, 0, none⟩ 1 1 [_] rfl rfl (cells_new w1 [_] 3) (by simp [Value.oneCell']) (by unfold maxLen; omega) (by omega) (by simp; omega) ?_; intro v' w6 hown' hgrow _)
        refine ⟨⟨k + 1, by omega, by go_num, selI_grow hb2.out how1.out hgrow hown' KE.out⟩, by simp [intOf]; omega⟩
    · have he : k = n := by omega
      subst he
      go_wp2_with (fail)
      go_ret
      exact ⟨_, rfl, by rw [← HN.out]; exact HS.out⟩
/-! selected of Watches -/
def SelW (W : World) (L : List E) (k : Nat) (out : Value) (wr : World) : Prop :=
  Below W.heap.size W wr ∧ wr.ownsRow W.heap.size 69 2 out k ((L.take k).flatMap wc)
theorem selW_grow {W w1 w6 : World} {k : Nat} {L : List E} {v v' : Value} {o o' : Obj} {e : E} (hb : Below W.heap.size W w1) (how : w1.ownsRow W.heap.size 69 2 v k ((L.take k).flatMap wc)) (hgr : ((w1.alloc o).alloc o').grownBy w6 v.ownBlock)
    (how' : w6.ownsRow W.heap.size 69 2 v' (k + 1) ((L.take k).flatMap wc ++ wc e)) (he : L[k]? = some e) : SelW W L (k + 1) v' w6 :=
  ⟨(bl_alloc (bl_alloc hb _) _).grown hgr (by have := hb.size; simp; omega) (fun j e => (how.lt j e).1), by rw [take_snoc L k e he, List.flatMap_append]; simpa using how'⟩
def SelWE (W : World) (L : List E) (e : Ending) (wr : World) : Prop := ∃ out, e = .returned out ∧ SelW W L L.length out wr
set_option maxHeartbeats 3200000 in
theorem selW_any {L : List E} {w : World} {base g cap : Nat} (h : Row w base g cap L) (h32 : L.length ≤ 32) :
    Calls Try.prog 38 #[.slice (some ⟨g, 0, none⟩) L.length cap, .func (.func 39) #[] #[]] w fun e w' => SelWE w L e w' := by
  obtain ⟨i0, hi, hz0, hz1, hz2⟩ := info_parts info69
  have S0 : Hid (SelW w L 0 (.slice none 0 0) w) := Lib.hid ⟨Below.refl _ _, World.ownsRow_nil _ _ _ _⟩
  obtain ⟨n, hn⟩ : ∃ n, n = L.length := ⟨_, rfl⟩
  rw [← hn] at h32 ⊢
  have HN := Lib.hid hn
  have HH := Lib.hid h
  clear h hn
  go_enter Try.func38, Try.ntmps38
  go_wp2_with (fail)
  go_loopw [4, 10] (fun v i wr => ∃ k : Nat, k ≤ n ∧ i = .int .i64 k ∧ SelW w L k v wr) (fun _ i _ => n - (intOf i).toNat)
  case atStart => exact ⟨0, by omega, rfl, S0.out⟩
  case round =>
    clear S0
    obtain ⟨k, hk, rfl, hS⟩ := hrel
    have HS := Lib.hid hS; clear hS
    by_cases hlt : k < n
    · obtain ⟨e, he⟩ : ∃ e, L[k]? = some e := ⟨_, List.getElem?_eq_getElem (by have := HN.out; omega)⟩
      have HE := Lib.hid he; clear he
      go_wp2_with (fail)
      refine (watchesc_any (k * 9) rfl (row_below HH.out HS.out.1) HE.out).mono ?_
      rintro en w1 ⟨rfl, hb1⟩
      have hb2 : Below w.heap.size w w1 := bl_step HS.out.1 hb1
      have how1 := own_calm HS.out.2 hb1
      have hb2s := hb2.size
      replace hb2 := Lib.hid hb2; replace how1 := Lib.hid how1
      clear hb1
      go_wp2_with (at_builtin; refine wpList_append_own _ rfl _ _ 57 rfl w.heap.size 69 i0 _ 2 16 Try.underlying57 hi hz0 hz1 hz2 rfl (by decide) _ _ _ rfl ((how1.out.alloc _).alloc _) ⟨w1.heap.size + 1, 0, none⟩ 1 1 [_, _] rfl rfl (by have := cells_new (w1.alloc (.cells #[.int .i64 e.cnt, .bool e.tr] 69)) [.int .i64 e.cnt, .bool e.tr] 69; rw [World.size_alloc] at this; exact this) (by simp [Value.oneCell']) (by unfold maxLen; omega) (by omega) (by simp; omega) ?_; intro v' w6 hown' hgrow _)
      refine ⟨⟨k + 1, by omega, by go_num, selW_grow hb2.out how1.out hgrow hown' HE.out⟩, by simp [intOf]; omega⟩
    · have he : k = n := by omega
      subst he
      go_wp2_with (fail)
      go_ret
      exact ⟨_, rfl, by rw [← HN.out]; exact HS.out⟩
end Go.Proofs.Ythgilipffdcddaa
