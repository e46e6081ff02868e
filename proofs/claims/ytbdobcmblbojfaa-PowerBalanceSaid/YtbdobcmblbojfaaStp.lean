/-
  The walk of power.Step. Conditions: none beyond a slice of loads.
-/
import Derived.Test.YtbdobcmblbojfaaChkb
import Derived.Test.YtbdobcmblbojfaaKitf
import Derived.Laws.OwnMore
import Derived.OwnWalk
namespace Go.Proofs.Ytbdobcmblbojfaa
open Go.RowKit Kit Go.Shelf
set_option linter.unusedVariables false
theorem info4 : (Try.prog.info? 4).map (fun i => (i.zero, i.size, i.bytes)) = some (some (.bool false), 1, 1) := by kernel_rfl
theorem info3 : (Try.prog.info? 3).map (fun i => (i.zero, i.size, i.bytes)) = some (some (.int .i64 0), 1, 8) := by kernel_rfl
theorem results_cell_tmp2 {fn : Func} {p q r : Tmp} {ty : TypeId} (h : fn.results = #[.cell p ty, .tmp q, .tmp r]) (tmps : Array Value) (P : Program) (w : World) :
    (results fn tmps).run P w = ((asAddr (tmps.getD p undef)).run P w).andThen fun a w₁ => ((loadVar ty a).run P w₁).andThen fun v w₂ => .ok (.tuple #[v, tmps.getD q undef, tmps.getD r undef]) w₂ := by
  simp only [results, h]
  simp [Sem.run_bind, Result.andThen]
/-- The order is one. -/
theorem ord_unique {l : List Ld} : ∀ (o o' : List Nat), o.Pairwise (bef l) → o'.Pairwise (bef l) → (∀ i, i ∈ o ↔ i ∈ o') → o = o'
  | [], [], _, _, _ => rfl
  | [], b :: r, _, _, h => by have := (h b).2 (by simp); cases this
  | a :: r, [], _, _, h => by have := (h a).1 (by simp); cases this
  | a :: r, b :: r', h1, h2, h => by
    have e : a = b := by
      rcases List.mem_cons.1 ((h a).1 (by simp)) with e | e
      · exact e
      · rcases List.mem_cons.1 ((h b).2 (by simp)) with e' | e'
        · exact e'.symm
        · exact absurd (bef_trans ((List.pairwise_cons.1 h1).1 b e') ((List.pairwise_cons.1 h2).1 a e)) (bef_irrefl l a)
    subst e
    congr 1
    refine ord_unique r r' (List.pairwise_cons.1 h1).2 (List.pairwise_cons.1 h2).2 fun i => ⟨fun hi => ?_, fun hi => ?_⟩
    · rcases List.mem_cons.1 ((h i).1 (by simp [hi])) with e | e
      · subst e; exact absurd ((List.pairwise_cons.1 h1).1 i hi) (bef_irrefl l i)
      · exact e
    · rcases List.mem_cons.1 ((h i).2 (by simp [hi])) with e | e
      · subst e; exact absurd ((List.pairwise_cons.1 h2).1 i hi) (bef_irrefl l i)
      · exact e
theorem Ord.eq {l : List Ld} {o o' : List Nat} (h : Ord l o) (h' : Ord l o') : o = o' := ord_unique o o' h.sorted h'.sorted fun i => (h.mem i).trans (h'.mem i).symm
theorem sort_any (l : List Ld) (a : Option Addr) (n c p blk cap : Nat) (w : World) (hL : Lds w a n c l) (hp : w.cell? ⟨p, 0, none⟩ = some (.slice a n c)) (hpl : p < w.heap.size) (hd : okD l) (hn : n ≤ 16)
    (hblk : blk < w.heap.size) (hpb : p ≠ blk) (hab : 0 < n → ∀ b off, a = some ⟨b, off, none⟩ → b ≠ blk) (hrow : ∀ j, j < n → w.cell? ⟨blk, j, none⟩ = some (.int .i64 (j : Nat)) ∧ w.frozen? ⟨blk, j, none⟩ = false) :
    Calls Try.prog 21 #[.slice (some ⟨blk, 0, none⟩) n cap, .func (.func 22) #[] #[.pointer (some ⟨p, 0, none⟩)]] w fun e w' =>
      e = .returned (.tuple #[]) ∧ Mod (fun k => k = blk) w w' ∧ ∃ o : List Nat, Ord l o ∧ o.length = n ∧ ∀ j, j < n → w'.cell? ⟨blk, j, none⟩ = some (.int .i64 (o.getD j 0 : Nat)) := by
  by_cases h0 : 0 < n
  · exact order_any l a n c p blk cap w h0 hL hp hpl hd hn hblk hpb (hab h0) hrow
  · obtain rfl : n = 0 := by omega
    have hS := AnyF.slices_SortFunc_none (P := Try.prog) (ρ := Try.sortL_ren) { Try.sortL with } (some ⟨blk, 0, none⟩) cap (.func (.func 22) #[] #[.pointer (some ⟨p, 0, none⟩)]) w
    change Calls Try.prog 21 _ _ _ at hS
    refine hS.mono ?_
    rintro e w' ⟨he, rfl⟩
    refine ⟨he, Mod.refl _ _, [], ⟨fun i => ?_, List.Pairwise.nil⟩, rfl, fun j hj => by omega⟩
    rw [← hL.1]; simp
def bls (S : List Bool) : List Value := S.map Value.bool
def srvK (l : List Ld) (n k : Nat) : List Bool := (List.range n).map fun i => decide (i < k) && isOn l i
theorem srvK_set (l : List Ld) (n k : Nat) : (bls (srvK l n k)).set k (.bool (isOn l k)) = bls (srvK l n (k + 1)) := by
  apply List.ext_getElem (by simp [bls, srvK])
  intro i h1 h2
  rw [List.getElem_set]
  simp only [bls, srvK, List.getElem_map, List.getElem_range]
  split
  · rename_i e; subst e; simp
  · rename_i e
    have : (i < k + 1) ↔ (i < k) := by omega
    simp [this]
theorem srvK_zero (l : List Ld) (n : Nat) : bls (srvK l n 0) = List.replicate n (.bool false) := by
  apply List.ext_getElem (by simp [bls, srvK])
  intro i h1 h2
  simp [bls, srvK]
theorem srvK_all (l : List Ld) : srvK l l.length l.length = onL l := by
  apply List.ext_getElem (by simp [srvK, onL])
  intro i h1 h2
  have : i < l.length := by simpa [onL] using h2
  simp [srvK, onL, isOn, List.getD_eq_getElem?_getD, this]
def nums (n : Nat) : List Value := (List.range n).map fun i => Value.int .i64 (i : Nat)
theorem nums_succ (n : Nat) : nums (n + 1) = nums n ++ [.int .i64 (n : Nat)] := by simp [nums, List.range_succ]
/-- The boxes of the walk. -/
structure Fr (B : Nat) (c f m u s : Int) (a : Option Addr) (n cp : Nat) (W : World) : Prop where
  bt : W.heap[B]? = some (.cells #[.int .i64 c, .int .i64 f, .int .i64 m, .int .i64 u, .int .i64 s] 23 (0, 0))
  ls : W.heap[B + 1]? = some (.cells #[.slice a n cp] 24 (0, 0))
  rs : W.heap[B + 2]? = some (.cells #[.int .i64 0, .int .i64 0, .int .i64 0, .int .i64 0, .int .i64 0] 23 (0, 0))
theorem Fr.mod {B : Nat} {c f m u s : Int} {a : Option Addr} {n cp : Nat} {W W' : World} {S : Nat → Prop} (h : Fr B c f m u s a n cp W) (hm : Mod S W W') (hs : ∀ k, S k → B + 3 ≤ k) : Fr B c f m u s a n cp W' :=
  ⟨hm.keeps h.bt (fun e => by have := hs _ e; omega), hm.keeps h.ls (fun e => by have := hs _ e; omega), hm.keeps h.rs (fun e => by have := hs _ e; omega)⟩
theorem Fr.below {B : Nat} {c f m u s : Int} {a : Option Addr} {n cp : Nat} {W W' : World} (h : Fr B c f m u s a n cp W) (hb : Below W.heap.size W W') : Fr B c f m u s a n cp W' :=
  h.mod (S := fun _ => False) (Mod.of_below hb) (fun k e => e.elim)
/-- What holds at the head of the first loop. -/
structure LoI (l : List Ld) (w : World) (c f m u s : Int) (a : Option Addr) (n cp V O k : Nat) (wr : World) : Prop where
  fr : Fr w.heap.size c f m u s a n cp wr
  sv : wr.ownsRow w.heap.size 4 1 (.slice (some ⟨V, 0, none⟩) n n) n (bls (srvK l n k))
  od : wr.ownsRow w.heap.size 3 1 (.slice (some ⟨O, 0, none⟩) k n) k (nums k)
  bl : Below w.heap.size w wr
/-- What holds at the head of the second loop. -/
structure ShI (l : List Ld) (w : World) (c f m u s e : Int) (a : Option Addr) (n cp V O : Nat) (o : List Nat) (S : List Bool) (j : Nat) (wr : World) : Prop where
  fr : Fr w.heap.size c f m u s a n cp wr
  sv : wr.ownsRow w.heap.size 4 1 (.slice (some ⟨V, 0, none⟩) n n) n (bls S)
  len : S.length = n
  bl : Below w.heap.size w wr
  lt : O < wr.heap.size
  od : ∀ i, i < n → wr.cell? ⟨O, i, none⟩ = some (.int .i64 (o.getD i 0 : Nat))
  sh : shedL l e (o.drop j) S = shedL l e o (onL l)
def spl (c f made U : Int) : Int := mx 0 (c + made - U - f)
/-- What Step returns where it is asked for nothing impossible. -/
def StepPost (c f m u s made : Int) (l : List Ld) (n : Nat) (w : World) (e : Ending) (w' : World) : Prop :=
  ∃ o S U P, Ord l o ∧ S = shedL l (c + made) o (onL l) ∧ U = sumS l S ∧ P = spl c f made U ∧ Below w.heap.size w w' ∧
    ((1152921504606846976 < mx (mx (m + made) (u + U)) (s + P) ∧ e = .returned (.tuple #[batV 0 0 0 0 0, .slice none 0 0, .int .i64 7])) ∨
     (¬ 1152921504606846976 < mx (mx (m + made) (u + U)) (s + P) ∧ ∃ v, e = .returned (.tuple #[batV (c + made - U - P) f (m + made) (u + U) (s + P), v, .int .i64 0]) ∧ w'.ownsRow w.heap.size 4 1 v n (bls S)))
theorem run_max3 (P : Program) (w : World) (ts : Array TypeId) (t : TypeId) (k k' k'' : IntKind) (x y z : Int) : (Builtin.max_ ts t #[.int k x, .int k' y, .int k'' z]).run P w = .ok (.int k (mx (mx x y) z)) w := by
  simp [Builtin.max_, Builtin.max2, mx]; omega
theorem stp_fin {Q : Ending → World → Prop} {W : World} {R : Nat} {x0 x1 x2 x3 x4 E : Int} {v : Value} (tmps : Array Value) (h6 : tmps.getD 6 undef = .pointer (some ⟨R, 0, none⟩)) (h7 : tmps.getD 7 undef = v) (h8 : tmps.getD 8 undef = .int .i64 E)
    (hr : W.heap[R]? = some (.cells #[.int .i64 x0, .int .i64 x1, .int .i64 x2, .int .i64 x3, .int .i64 x4] 23 (0, 0))) (hp : Q (.returned (.tuple #[batV x0 x1 x2 x3 x4, v, .int .i64 E])) W) :
    bodyPost Try.prog Try.f11 Q .ret { tmps := tmps, defers := [] } W := by
  refine ⟨rfl, _, ?_, hp⟩
  have r0 := cell_of (i := 0) hr rfl
  have r1 := cell_of (i := 1) hr rfl
  have r2 := cell_of (i := 2) hr rfl
  have r3 := cell_of (i := 3) hr rfl
  have r4 := cell_of (i := 4) hr rfl
  show (results Try.f11 tmps).run Try.prog W = _
  rw [results_cell_tmp2 rfl, h6, h7, h8]
  unfold batV
  go_simp
theorem set5_mod (W : World) (R : Nat) (v0 v1 v2 v3 v4 : Value) : Mod (fun k => k = R) W (((((W.setCell ⟨R, 0, none⟩ v0).setCell ⟨R, 1, none⟩ v1).setCell ⟨R, 2, none⟩ v2).setCell ⟨R, 3, none⟩ v3).setCell ⟨R, 4, none⟩ v4) :=
  mod_at (mod_at (mod_at (mod_at (mod_at (Mod.refl _ _) _) _) _) _) _
theorem set5_hp {W : World} {R : Nat} {z0 z1 z2 z3 z4 : Value} (h : W.heap[R]? = some (.cells #[z0, z1, z2, z3, z4] 23 (0, 0))) (v0 v1 v2 v3 v4 : Value) :
    (((((W.setCell ⟨R, 0, none⟩ v0).setCell ⟨R, 1, none⟩ v1).setCell ⟨R, 2, none⟩ v2).setCell ⟨R, 3, none⟩ v3).setCell ⟨R, 4, none⟩ v4).heap[R]? = some (.cells #[v0, v1, v2, v3, v4] 23 (0, 0)) :=
  hp_as (hp_set (hp_set (hp_set (hp_set (hp_set h v0) v1) v2) v3) v4) rfl
theorem set5_below {w W : World} {R : Nat} (h : Below w.heap.size w W) (hR : w.heap.size ≤ R) (v0 v1 v2 v3 v4 : Value) : Below w.heap.size w (((((W.setCell ⟨R, 0, none⟩ v0).setCell ⟨R, 1, none⟩ v1).setCell ⟨R, 2, none⟩ v2).setCell ⟨R, 3, none⟩ v3).setCell ⟨R, 4, none⟩ v4) :=
  h.trans ((set5_mod W R v0 v1 v2 v3 v4).below h.size (fun k e => by rw [e]; exact hR))
theorem bls_get (S : List Bool) (n x : Nat) (hl : S.length = n) (hx : x < n) : (bls S)[x]? = some (.bool (sv S x)) := by
  subst hl
  simp [bls, sv, List.getD_eq_getElem?_getD, hx]
set_option maxRecDepth 100000 in
set_option maxHeartbeats 12800000 in
theorem step_good (c f m u s made : Int) (l : List Ld) (a : Option Addr) (n cp : Nat) (w : World) (hL : Lds w a n cp l) (hok : okC c f m u s l = true) (hm0 : 0 ≤ made) (hm1 : made ≤ 1073741824) :
    Calls Try.prog 11 #[batV c f m u s, .int .i64 made, .slice a n cp] w fun e w' => StepPost c f m u s made l n w e w' := by
  have hok' := hok
  unfold okC at hok'
  simp only [Bool.and_eq_true, Bool.not_eq_true', decide_eq_false_iff_not, decide_eq_true_eq] at hok'
  obtain ⟨⟨⟨⟨⟨⟨⟨k1, k2⟩, k3⟩, k4⟩, k5⟩, k6⟩, k7⟩, hd⟩ := hok'
  unfold inR at k1 k2 k3 k5 k6
  simp only [Bool.and_eq_true, decide_eq_true_eq] at k1 k2 k3 k5 k6
  have N1 := Lib.hid hL.1
  have hn : n ≤ 16 := by have := hL.1; omega
  have hcap := hL.2.1
  have hcap2 := hL.2.2.1
  unfold maxLen at hcap2
  obtain ⟨i4, hi4, z40, z41, z42⟩ := info_parts info4
  obtain ⟨i3, hi3, z30, z31, z32⟩ := info_parts info3
  have CA := Lib.hid (fun W h => check_any c f m u s l a n cp W h (by omega))
  rw [chkE_ok hok] at CA
  have HL := Lib.hid hL; have HD := Lib.hid hd
  unfold batV at CA ⊢
  clear hL hok hd k7
  go_enter Try.func11, Try.ntmps11
  go_wp2_with (fail)
  have F0 : Fr w.heap.size c f m u s a n cp (((w.alloc (.cells #[.int .i64 c, .int .i64 f, .int .i64 m, .int .i64 u, .int .i64 s] 23)).alloc (.cells #[.slice a n cp] 24)).alloc (.cells #[.int .i64 0, .int .i64 0, .int .i64 0, .int .i64 0, .int .i64 0] 23)) := by
    refine ⟨?_, ?_, ?_⟩
    · exact hp_old (hp_old (hp_new w _) _) _
    · have := hp_old (hp_new (w.alloc (.cells #[.int .i64 c, .int .i64 f, .int .i64 m, .int .i64 u, .int .i64 s] 23)) (.cells #[.slice a n cp] 24)) (.cells #[.int .i64 0, .int .i64 0, .int .i64 0, .int .i64 0, .int .i64 0] 23)
      rw [World.size_alloc] at this; exact this
    · have := hp_new ((w.alloc (.cells #[.int .i64 c, .int .i64 f, .int .i64 m, .int .i64 u, .int .i64 s] 23)).alloc (.cells #[.slice a n cp] 24)) (.cells #[.int .i64 0, .int .i64 0, .int .i64 0, .int .i64 0, .int .i64 0] 23)
      rw [World.size_alloc, World.size_alloc] at this; exact this
  have q0 : Below w.heap.size w (((w.alloc (.cells #[.int .i64 c, .int .i64 f, .int .i64 m, .int .i64 u, .int .i64 s] 23)).alloc (.cells #[.slice a n cp] 24)).alloc (.cells #[.int .i64 0, .int .i64 0, .int .i64 0, .int .i64 0, .int .i64 0] 23)) := bl_alloc (bl_alloc (bl_alloc (Below.refl _ _) _) _) _
  refine (CA.out _ (HL.out.below q0)).mono ?_
  rintro e w1 ⟨rfl, b1⟩
  have F1 := Lib.hid (F0.below b1)
  have B1 := Lib.hid (bl_step q0 b1)
  have V3 : Hid (w.heap.size + 3 ≤ w1.heap.size) := Lib.hid (by have := b1.size; simp at this; omega)
  clear F0 q0 b1
  have ls1 := cell_of (i := 0) F1.out.ls rfl
  go_wp2_with (first
    | (at_make; refine wpList_make_full _ rfl _ _ 27 rfl w.heap.size 4 i4 (.bool false) 1 Try.underlying27 hi4 z40 z41 _ _ _ _ n rfl rfl rfl rfl (by rw [z42]; omega) (by unfold maxLen; omega) B1.out.size ?_; intro w2 hown2 hg2; have ls2 := hg2.cell ls1 (by simp); replace hg2 := Lib.hid hg2; replace hown2 := Lib.hid hown2)
    | (at_make; refine wpList_make_own _ rfl _ _ 44 rfl w.heap.size 3 i3 (.int .i64 0) 1 Try.underlying44 hi3 z30 z31 _ _ _ n rfl rfl rfl (by rw [z32]; omega) (by unfold maxLen; omega) (Nat.le_trans B1.out.size hg2.out.size) ?_; intro w3 hown3 hg3; have ls3 := hg3.cell ls2 (by simp); replace hg3 := Lib.hid hg3; replace hown3 := Lib.hid hown3))
  have V4 : Hid (w1.heap.size < w2.heap.size) := Lib.hid (own_lt hown2.out).2
  have L0 : Hid (LoI l w c f m u s a n cp w1.heap.size w2.heap.size 0 w3) := Lib.hid (by
    have g2 : Below w1.heap.size w1 w2 := (Below.refl _ _).grown hg2.out (Nat.le_refl _) (fun k e => by cases e)
    have g3 : Below w2.heap.size w2 w3 := (Below.refl _ _).grown hg3.out (Nat.le_refl _) (fun k e => by cases e)
    refine ⟨(F1.out.below g2).below g3, ?_, hown3.out, bl_step (bl_step B1.out g2) g3⟩
    have := hown2.out
    rw [show (Value.bool false).cells = #[.bool false] from rfl, toList_madeCells_one, Nat.mul_one, ← srvK_zero l n] at this
    exact own_calm this g3)
  obtain ⟨V, hV⟩ : ∃ V, V = w1.heap.size := ⟨_, rfl⟩
  obtain ⟨O, hO⟩ : ∃ O, O = w2.heap.size := ⟨_, rfl⟩
  rw [← hV] at V3 V4 L0 ⊢
  rw [← hO] at V4 L0 ⊢
  clear hV hO hg2 hg3 hown2 hown3 ls1 ls2 ls3 F1 B1
  go_loopw [10, 39] (fun ov i wr => ∃ k : Nat, k ≤ n ∧ i = .int .i64 k ∧ ov = .slice (some ⟨O, 0, none⟩) k n ∧ LoI l w c f m u s a n cp V O k wr) (fun _ i _ => n - (intOf i).toNat)
  case atStart => exact ⟨0, by omega, rfl, rfl, L0.out⟩
  case round =>
    clear L0
    obtain ⟨k, hk, rfl, rfl, hI⟩ := hrel
    have HI := Lib.hid hI
    clear hI
    by_cases hlt : k < n
    · obtain ⟨b, off, rfl, hbl, c0, c1, c2⟩ := (HL.out.below HI.out.bl).2.2.2 k hlt
      have ls := cell_of (i := 0) HI.out.fr.ls rfl
      have hs1 := HI.out.sv.cellAt k (by omega)
      have hs2 : (bls (srvK l n k))[k]? = some (.bool (decide (k < k) && isOn l k)) := by simp [bls, srvK, hlt]
      rw [hs2] at hs1
      have hf1 := own_free HI.out.sv k
      clear c0 c1 hs2
      have VO := V4.out
      have V3' := V3.out
      have oo : (wr.setCell ⟨V, k, none⟩ (.bool (isOn l k))).ownsRow w.heap.size 3 1 (.slice (some ⟨O, 0, none⟩) k n) k (nums k) := own_mod HI.out.od (mod_at (b := V) (Mod.refl _ _) _) (fun j hj e => by have e1 : O = j := Option.some.inj hj; have e2 : j = V := e; omega)
      have OO := Lib.hid oo
      clear oo
      go_wp2_with (at_builtin; refine wpList_append_fits _ rfl _ _ 44 rfl w.heap.size 3 i3 1 Try.underlying44 hi3 z31 O k n (nums k) rfl (OO.out.alloc _) ⟨wr.heap.size, 0, none⟩ 1 1 [_] rfl rfl (by have := cells_new (wr.setCell ⟨V, k, none⟩ (.bool (isOn l k))) [.int .i64 (k : Nat)] 3; rw [World.size_setCell] at this; exact this) (by simp [Value.oneCell']) (by omega) ?_; intro w6 hown6 hg6; replace hg6 := Lib.hid hg6; replace hown6 := Lib.hid hown6)
      go_roundw
      case rel =>
        have hB1 : Below w.heap.size w (wr.setCell ⟨V, k, none⟩ (.bool (isOn l k))) := HI.out.bl.setCell (p := ⟨V, k, none⟩) (by show w.heap.size ≤ V; omega) _
        refine ⟨k + 1, by omega, by simp, rfl, ⟨?_, ?_, ?_, ?_⟩⟩
        · have f1 := HI.out.fr.mod (mod_at (b := V) (i := k) (Mod.refl _ _) (.bool (isOn l k))) (fun j e => by rw [e]; omega)
          have f2 := f1.below (bl_alloc (Below.refl _ _) (.cells #[.int .i64 (k : Nat)] 3))
          exact f2.mod (mod_of_grown (v := .slice (some ⟨O, 0, none⟩) k n) hg6.out) (fun j e => by have e1 : O = j := Option.some.inj e; omega)
        · have s1 := (own_set HI.out.sv (j := k) (by omega) (.bool (isOn l k))).alloc (.cells #[.int .i64 (k : Nat)] 3)
          rw [srvK_set] at s1
          exact s1.kept hg6.out (.inr (fun e => by have e1 : V = O := Option.some.inj e; omega))
        · rw [nums_succ]; exact hown6.out
        · exact (bl_alloc hB1 _).grown hg6.out (bl_alloc hB1 _).size (fun j e => by have e1 : O = j := Option.some.inj e; omega)
      case measure => simp [intOf]; omega
    · obtain rfl : k = n := by omega
      have hB := HI.out.bl
      have hwr : O < wr.heap.size := (own_lt HI.out.od).2
      have V3' := V3.out
      have VO := V4.out
      have lsb := lt_of_obj HI.out.fr.ls
      have SA := Lib.hid (sort_any l a k cp (w.heap.size + 1) O k wr (HL.out.below hB) (cell_of (i := 0) HI.out.fr.ls rfl) lsb HD.out hn hwr (by omega)
        (fun h0 b off e => by
          obtain ⟨b', off', e', hbl, _⟩ := HL.out.2.2.2 0 h0
          rw [e] at e'
          simp only [Option.some.injEq, Addr.mk.injEq, and_true] at e'
          omega)
        (fun j hj => ⟨own_cell HI.out.od (by simp [nums, hj]), own_free HI.out.od j⟩))
      clear hB hwr lsb V3' VO
      go_wp2_with (fail)
      refine SA.out.mono ?_
      rintro e w4 ⟨rfl, hm4, o, ho, hol, hoc⟩
      have G4 : Hid (Fr w.heap.size c f m u s a k cp w4 ∧ w4.ownsRow w.heap.size 4 1 (.slice (some ⟨V, 0, none⟩) k k) k (bls (onL l)) ∧ Below w.heap.size w w4) := Lib.hid (by
        have V3' := V3.out
        have VO := V4.out
        refine ⟨HI.out.fr.mod hm4 (fun j e => by rw [e]; omega), ?_, HI.out.bl.trans (hm4.below (B := w.heap.size) HI.out.bl.size (fun j e => by rw [e]; omega))⟩
        have := own_mod HI.out.sv hm4 (fun j hj e => by have e1 : V = j := Option.some.inj hj; have e2 : j = O := e; omega)
        rw [show srvK l k k = onL l from by rw [N1.out]; exact srvK_all l] at this
        exact this)
      have ORD := Lib.hid ho
      have OLE := Lib.hid hol
      have HOC := Lib.hid hoc
      have NA := Lib.hid (fun W h => needed_any l a k cp W h hn HD.out)
      have LD4 := Lib.hid (HL.out.below G4.out.2.2)
      have O4 : Hid (O < w4.heap.size) := Lib.hid (Nat.lt_of_lt_of_le (own_lt HI.out.od).2 hm4.size)
      clear SA HI hm4 ho hol hoc
      go_wp2_with (fail)
      have bt0 := cell_of (i := 0) G4.out.1.bt rfl
      have ls4 := cell_of (i := 0) G4.out.1.ls rfl
      have blt := lt_of_obj G4.out.1.bt
      have llt := lt_of_obj G4.out.1.ls
      have hwrp : IntKind.i64.wrap (c + made) = c + made := IntWalk.i64_in _ (by omega)
      refine region_calm (by kernel_rfl) (by kernel_rfl) ?_
      repeat (quiet_step ((go_at_call 23; exact calm_of (NA.out _ (LD4.out.below (below_ext _ _))))))
      refine wpQuiet_nil ?_; intro w5 hw'; have hb5 := below_of_ext hw'; clear hw'
      have S5 : Hid (ShI l w c f m u s (c + made) a k cp V O o (onL l) 0 w5) := Lib.hid
        ⟨G4.out.1.below hb5, own_calm G4.out.2.1 hb5, by rw [onL_len, N1.out], bl_step G4.out.2.2 hb5, Nat.lt_of_lt_of_le O4.out hb5.size, fun i hi => (hb5.cell (p := ⟨O, i, none⟩) O4.out).trans (HOC.out i hi), by rw [List.drop_zero]⟩
      clear hwrp bt0 ls4 blt llt hb5 NA LD4 O4 G4 HOC
      go_wp2_with (fail)
      go_loopw [13, 66] (fun uv i wr => ∃ (j : Nat) (S : List Bool), j ≤ k ∧ i = .int .i64 j ∧ uv = .int .i64 (sumS l S) ∧ ShI l w c f m u s (c + made) a k cp V O o S j wr) (fun _ i _ => k - (intOf i).toNat)
      case atStart => exact ⟨0, onL l, by omega, rfl, rfl, S5.out⟩
      case round =>
        clear S5
        obtain ⟨j, S, hj, rfl, rfl, hS⟩ := hrel
        have HS := Lib.hid hS
        clear hS
        by_cases hlt2 : j < k
        · have oj := HS.out.od j hlt2
          have hOlt := HS.out.lt
          obtain ⟨x, hx⟩ : ∃ x, x = o.getD j 0 := ⟨_, rfl⟩
          have hxo : x ∈ o := by rw [hx, List.getD_eq_getElem?_getD, List.getElem?_eq_getElem (by rw [OLE.out]; exact hlt2)]; exact List.getElem_mem _
          have hxn : x < k := by have := (ORD.out.mem x).1 hxo; rw [← N1.out] at this; exact this
          have hdrop : o.drop j = x :: o.drop (j + 1) := by
            rw [List.drop_eq_getElem_cons (by rw [OLE.out]; exact hlt2), hx, List.getD_eq_getElem?_getD, List.getElem?_eq_getElem (by rw [OLE.out]; exact hlt2)]
            rfl
          rw [← hx] at oj
          have HDR := Lib.hid hdrop
          clear hx hxo hdrop
          by_cases hle : sumS l S ≤ c + made
          · have hSF : S = shedL l (c + made) o (onL l) := by rw [← HS.out.sh, shed_done hle]
            have hU := sumK_bound HD.out S l.length
            rw [← N1.out] at hU
            obtain ⟨U, hUe⟩ : ∃ U, U = sumS l S := ⟨_, rfl⟩
            have hU1 : 0 ≤ U ∧ U ≤ 17179869184 := by rw [hUe, sumS, ← N1.out]; omega
            obtain ⟨P, hP⟩ : ∃ P, P = mx 0 (c + made - U - f) := ⟨_, rfl⟩
            have hP1 : 0 ≤ P ∧ P ≤ c + made := by rw [hP]; unfold mx; omega
            obtain ⟨M, hM⟩ : ∃ M, M = mx (mx (m + made) (u + U)) (s + P) := ⟨_, rfl⟩
            have gmx := fun w => run_max_mx Try.prog w #[2, 2] 2 .i64 .i64 0 (c + made - U - f)
            rw [← hP] at gmx
            have gm3 := fun w => run_max3 Try.prog w #[2, 2, 2] 2 .i64 .i64 .i64 (m + made) (u + U) (s + P)
            rw [← hM] at gm3
            have bt0 : wr.cell? ⟨w.heap.size, 0, none⟩ = some (.int .i64 c) := cell_of (i := 0) HS.out.fr.bt rfl
            have bt1 : wr.cell? ⟨w.heap.size, 1, none⟩ = some (.int .i64 f) := cell_of (i := 1) HS.out.fr.bt rfl
            have bt2 : wr.cell? ⟨w.heap.size, 2, none⟩ = some (.int .i64 m) := cell_of (i := 2) HS.out.fr.bt rfl
            have bt3 : wr.cell? ⟨w.heap.size, 3, none⟩ = some (.int .i64 u) := cell_of (i := 3) HS.out.fr.bt rfl
            have bt4 : wr.cell? ⟨w.heap.size, 4, none⟩ = some (.int .i64 s) := cell_of (i := 4) HS.out.fr.bt rfl
            have rs0 : wr.cell? ⟨w.heap.size + 1 + 1, 0, none⟩ = some (.int .i64 0) := cell_of (i := 0) HS.out.fr.rs rfl
            have rs1 : wr.cell? ⟨w.heap.size + 1 + 1, 1, none⟩ = some (.int .i64 0) := cell_of (i := 1) HS.out.fr.rs rfl
            have rs2 : wr.cell? ⟨w.heap.size + 1 + 1, 2, none⟩ = some (.int .i64 0) := cell_of (i := 2) HS.out.fr.rs rfl
            have rs3 : wr.cell? ⟨w.heap.size + 1 + 1, 3, none⟩ = some (.int .i64 0) := cell_of (i := 3) HS.out.fr.rs rfl
            have rs4 : wr.cell? ⟨w.heap.size + 1 + 1, 4, none⟩ = some (.int .i64 0) := cell_of (i := 4) HS.out.fr.rs rfl
            have rf : ∀ i, wr.frozen? ⟨w.heap.size + 1 + 1, i, none⟩ = false := fun i => free_of (i := i) HS.out.fr.rs
            have rlt : w.heap.size + 1 + 1 < wr.heap.size := lt_of_obj HS.out.fr.rs
            have blt := lt_of_obj HS.out.fr.bt
            have hrs : wr.heap[w.heap.size + 1 + 1]? = some (.cells #[.int .i64 0, .int .i64 0, .int .i64 0, .int .i64 0, .int .i64 0] 23 (0, 0)) := HS.out.fr.rs
            have HRS := Lib.hid hrs
            clear hrs
            have HU := Lib.hid hUe; have HP := Lib.hid hP; have HM := Lib.hid hM; have HSF := Lib.hid hSF
            (try rw [← hUe] at hle)
            rw [← hUe]
            clear hU hSF hUe hP hM
            by_cases hbig : 1152921504606846976 < M
            · go_wp2_with (fail)
              refine stp_fin (R := w.heap.size + 1 + 1) _ rfl rfl rfl (hp_old (set5_hp HRS.out _ _ _ _ _) _) ⟨o, S, U, P, ORD.out, HSF.out, HU.out, HP.out, ?_, .inl ⟨by rw [← HM.out]; exact hbig, rfl⟩⟩
              exact bl_alloc (set5_below (R := w.heap.size + 1 + 1) HS.out.bl (Nat.le_add_right _ 2) _ _ _ _ _) _
            · go_wp2_with (fail)
              have V3' := V3.out
              refine stp_fin (R := w.heap.size + 1 + 1) _ rfl rfl rfl (hp_old (set5_hp HRS.out _ _ _ _ _) _) ⟨o, S, U, P, ORD.out, HSF.out, HU.out, HP.out, ?_, .inr ⟨by rw [← HM.out]; omega, _, rfl, ?_⟩⟩
              · exact bl_alloc (set5_below (R := w.heap.size + 1 + 1) HS.out.bl (Nat.le_add_right _ 2) _ _ _ _ _) _
              · exact (own_mod HS.out.sv (set5_mod wr (w.heap.size + 1 + 1) _ _ _ _ _) (fun j hj e => by have e1 : V = j := Option.some.inj hj; have e2 : j = w.heap.size + 1 + 1 := e; omega)).alloc _
          · have hs1 := HS.out.sv.cellAt x (by omega)
            rw [bls_get S k x HS.out.len hxn] at hs1
            have hf1 := own_free HS.out.sv x
            have ls := cell_of (i := 0) HS.out.fr.ls rfl
            have llt := lt_of_obj HS.out.fr.ls
            obtain ⟨b, off, rfl, hbw, e0, _, _⟩ := HL.out.2.2.2 x hxn
            have c0 := (HS.out.bl.cell (p := ⟨b, off + x * 3, none⟩) hbw).trans e0
            have hbl : b < wr.heap.size := Nat.lt_of_lt_of_le hbw HS.out.bl.size
            have hne2 : b ≠ V := by have := V3.out; omega
            have hne1 : w.heap.size + 1 ≠ V := by have := V3.out; omega
            clear e0 hbw
            have hU := sumK_bound HD.out S l.length
            rw [← N1.out] at hU
            obtain ⟨d1, d2, _, _⟩ := HD.out.at x
            have hset := fun h => sumS_set l S x (by rw [← N1.out]; exact hxn) h
            have hU2 := sumK_bound HD.out (S.set x false) l.length
            rw [← N1.out] at hU2
            obtain ⟨U, hUe⟩ : ∃ U, U = sumS l S := ⟨_, rfl⟩
            have hU1 : 0 ≤ U ∧ U ≤ 17179869184 := by rw [hUe, sumS, ← N1.out]; omega
            obtain ⟨D, hDe⟩ : ∃ D, D = dr l x := ⟨_, rfl⟩
            rw [← hUe] at hle
            rw [← hUe, ← hDe] at hset
            rw [← hDe] at d1 d2 c0
            have HU := Lib.hid hUe; have HSET := Lib.hid hset; have HLE := Lib.hid hle
            rw [← hUe]
            have V3' := V3.out
            have VO := V4.out
            have hvlt : V < wr.heap.size := (own_lt HS.out.sv).2
            have hsh : shedL l (c + made) (o.drop (j + 1)) (S.set x false) = shedL l (c + made) o (onL l) := by
              rw [← HS.out.sh, HDR.out, shedL, if_neg (by rw [← hUe]; exact hle)]
            have HSH := Lib.hid hsh
            clear hU hU2 hUe hDe hset hsh
            cases ht : sv S x with
            | true =>
              rw [ht] at hs1
              have HT := Lib.hid ht
              clear ht
              go_wp2_with (fail)
              go_roundw
              case rel =>
                have hm := mod_at (b := V) (i := x) (Mod.refl _ wr) (.bool false)
                refine ⟨j + 1, S.set x false, by omega, by simp, by rw [HSET.out HT.out], ⟨?_, ?_, by rw [List.length_set]; exact HS.out.len, ?_, by rw [World.size_setCell]; exact HS.out.lt, fun i hi => ?_, HSH.out⟩⟩
                · exact HS.out.fr.mod hm (fun q e => by rw [e]; omega)
                · have s1 := own_set HS.out.sv (j := x) (by omega) (.bool false)
                  rw [show (bls S).set x (.bool false) = bls (S.set x false) from by unfold bls; rw [List.map_set]] at s1
                  exact s1
                · exact HS.out.bl.setCell (p := ⟨V, x, none⟩) (by show w.heap.size ≤ V; omega) _
                · rw [hm.cell HS.out.lt (by show ¬ O = V; omega)]; exact HS.out.od i hi
              case measure => simp [intOf]; omega
            | false =>
              rw [ht] at hs1
              have HT := Lib.hid ht
              clear ht
              go_wp2_with (fail)
              go_roundw
              case rel => exact ⟨j + 1, S, by omega, by simp, by rw [HU.out], ⟨HS.out.fr, HS.out.sv, HS.out.len, HS.out.bl, HS.out.lt, HS.out.od, by have := HSH.out; rw [set_off HT.out] at this; exact this⟩⟩
              case measure => simp [intOf]; omega
        · obtain rfl : j = k := by omega
          have hSF : S = shedL l (c + made) o (onL l) := by rw [← HS.out.sh, List.drop_of_length_le (by rw [OLE.out]; exact Nat.le_refl _)]; rfl
          have hU := sumK_bound HD.out S l.length
          rw [← N1.out] at hU
          obtain ⟨U, hUe⟩ : ∃ U, U = sumS l S := ⟨_, rfl⟩
          have hU1 : 0 ≤ U ∧ U ≤ 17179869184 := by rw [hUe, sumS, ← N1.out]; omega
          obtain ⟨P, hP⟩ : ∃ P, P = mx 0 (c + made - U - f) := ⟨_, rfl⟩
          have hP1 : 0 ≤ P ∧ P ≤ c + made := by rw [hP]; unfold mx; omega
          obtain ⟨M, hM⟩ : ∃ M, M = mx (mx (m + made) (u + U)) (s + P) := ⟨_, rfl⟩
          have gmx := fun w => run_max_mx Try.prog w #[2, 2] 2 .i64 .i64 0 (c + made - U - f)
          rw [← hP] at gmx
          have gm3 := fun w => run_max3 Try.prog w #[2, 2, 2] 2 .i64 .i64 .i64 (m + made) (u + U) (s + P)
          rw [← hM] at gm3
          have bt0 : wr.cell? ⟨w.heap.size, 0, none⟩ = some (.int .i64 c) := cell_of (i := 0) HS.out.fr.bt rfl
          have bt1 : wr.cell? ⟨w.heap.size, 1, none⟩ = some (.int .i64 f) := cell_of (i := 1) HS.out.fr.bt rfl
          have bt2 : wr.cell? ⟨w.heap.size, 2, none⟩ = some (.int .i64 m) := cell_of (i := 2) HS.out.fr.bt rfl
          have bt3 : wr.cell? ⟨w.heap.size, 3, none⟩ = some (.int .i64 u) := cell_of (i := 3) HS.out.fr.bt rfl
          have bt4 : wr.cell? ⟨w.heap.size, 4, none⟩ = some (.int .i64 s) := cell_of (i := 4) HS.out.fr.bt rfl
          have rs0 : wr.cell? ⟨w.heap.size + 1 + 1, 0, none⟩ = some (.int .i64 0) := cell_of (i := 0) HS.out.fr.rs rfl
          have rs1 : wr.cell? ⟨w.heap.size + 1 + 1, 1, none⟩ = some (.int .i64 0) := cell_of (i := 1) HS.out.fr.rs rfl
          have rs2 : wr.cell? ⟨w.heap.size + 1 + 1, 2, none⟩ = some (.int .i64 0) := cell_of (i := 2) HS.out.fr.rs rfl
          have rs3 : wr.cell? ⟨w.heap.size + 1 + 1, 3, none⟩ = some (.int .i64 0) := cell_of (i := 3) HS.out.fr.rs rfl
          have rs4 : wr.cell? ⟨w.heap.size + 1 + 1, 4, none⟩ = some (.int .i64 0) := cell_of (i := 4) HS.out.fr.rs rfl
          have rf : ∀ i, wr.frozen? ⟨w.heap.size + 1 + 1, i, none⟩ = false := fun i => free_of (i := i) HS.out.fr.rs
          have rlt : w.heap.size + 1 + 1 < wr.heap.size := lt_of_obj HS.out.fr.rs
          have blt := lt_of_obj HS.out.fr.bt
          have hrs : wr.heap[w.heap.size + 1 + 1]? = some (.cells #[.int .i64 0, .int .i64 0, .int .i64 0, .int .i64 0, .int .i64 0] 23 (0, 0)) := HS.out.fr.rs
          have HRS := Lib.hid hrs
          clear hrs
          have HU := Lib.hid hUe; have HP := Lib.hid hP; have HM := Lib.hid hM; have HSF := Lib.hid hSF
          (try rw [← hUe] at hle)
          rw [← hUe]
          clear hU hSF hUe hP hM
          by_cases hbig : 1152921504606846976 < M
          · go_wp2_with (fail)
            refine stp_fin (R := w.heap.size + 1 + 1) _ rfl rfl rfl (hp_old (set5_hp HRS.out _ _ _ _ _) _) ⟨o, S, U, P, ORD.out, HSF.out, HU.out, HP.out, ?_, .inl ⟨by rw [← HM.out]; exact hbig, rfl⟩⟩
            exact bl_alloc (set5_below (R := w.heap.size + 1 + 1) HS.out.bl (Nat.le_add_right _ 2) _ _ _ _ _) _
          · go_wp2_with (fail)
            have V3' := V3.out
            refine stp_fin (R := w.heap.size + 1 + 1) _ rfl rfl rfl (hp_old (set5_hp HRS.out _ _ _ _ _) _) ⟨o, S, U, P, ORD.out, HSF.out, HU.out, HP.out, ?_, .inr ⟨by rw [← HM.out]; omega, _, rfl, ?_⟩⟩
            · exact bl_alloc (set5_below (R := w.heap.size + 1 + 1) HS.out.bl (Nat.le_add_right _ 2) _ _ _ _ _) _
            · exact (own_mod HS.out.sv (set5_mod wr (w.heap.size + 1 + 1) _ _ _ _ _) (fun j hj e => by have e1 : V = j := Option.some.inj hj; have e2 : j = w.heap.size + 1 + 1 := e; omega)).alloc _
end Go.Proofs.Ytbdobcmblbojfaa
