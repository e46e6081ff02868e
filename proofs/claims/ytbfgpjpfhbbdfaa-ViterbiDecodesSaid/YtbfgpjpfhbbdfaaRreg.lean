/-
  The two drawn regions of the specification's Decode: the path that is looked at, and whether it is the better one. Conditions: those that each names.
-/
import Derived.Test.YtbfgpjpfhbbdfaaPcell
import Derived.BigRegion
import Derived.BigQuiet
import Derived.OwnWalk
namespace Go.Proofs.Ytbfgpjpfhbbdfaa
open Go.RowKit Kit
set_option linter.unusedVariables false
theorem Nx_none {X : List Int} {T m s t : Nat} (hs : s < 64) (ht : t ≤ 2) (h : P X T m s = none) (x : Nat) (hx : x < 64) : Nx X T m (2 * s + t) x = Nx X T m (2 * (s + 1)) x := by
  have hc : ∀ b, cand X T m (P X T m s) s b = none := fun b => by rw [h]; unfold cand; split <;> rfl
  have e0 := Nx_skip X T m s 0 hs (by omega) (hc 0) x hx
  have e1 := Nx_skip X T m s 1 hs (by omega) (hc 1) x hx
  rw [Nat.add_zero] at e0
  have e2 : 2 * (s + 1) = 2 * s + 1 + 1 := by omega
  rcases (by omega : t = 0 ∨ t = 1 ∨ t = 2) with rfl | rfl | rfl
  · rw [e2, e1, e0, Nat.add_zero]
  · rw [e2, e1]
  · rw [e2]
theorem Nx_over {X : List Int} {T m s : Nat} (hs : s < 64) (hT : T ≤ m) (x : Nat) (hx : x < 64) : Nx X T m (2 * s + 1) x = Nx X T m (2 * s + 2) x := by
  have := Nx_skip X T m s 1 hs (by omega) (by unfold cand; rw [if_pos ⟨hT, rfl⟩]) x hx
  exact this.symm
theorem wraps2 (s v0 v1 : Int) (f g m : Nat) (hm : m ≤ 9000) (hf : f < 2) (hg : g < 2) (h0 : -8 ≤ v0 ∧ v0 ≤ 7) (h1 : -8 ≤ v1 ∧ v1 ≤ 7) (h2 : -16 * (m : Int) ≤ s) (h3 : s ≤ 16 * (m : Int)) :
    IntKind.i64.wrap ((f : Int) * v0) = (f : Int) * v0 ∧ IntKind.i64.wrap ((g : Int) * v1) = (g : Int) * v1 ∧ IntKind.i64.wrap (s + (f : Int) * v0) = s + (f : Int) * v0 ∧ IntKind.i64.wrap (s + (f : Int) * v0 + (g : Int) * v1) = s + (f : Int) * v0 + (g : Int) * v1 := by
  have hf' : f = 0 ∨ f = 1 := by omega
  have hg' : g = 0 ∨ g = 1 := by omega
  rcases hf' with rfl | rfl <;> rcases hg' with rfl | rfl <;> refine ⟨IntWalk.i64_in _ ?_, IntWalk.i64_in _ ?_, IntWalk.i64_in _ ?_, IntWalk.i64_in _ ?_⟩ <;> omega
theorem cand_is {X : List Int} {T m s t : Nat} {c1 S : Int} {c2 : Nat} (hP : P X T m s = some (c1, c2)) (hT : ¬ (T ≤ m ∧ t = 1)) (hS : S = c1 + eW X m s t) : cand X T m (P X T m s) s t = some (S, 2 * c2 + t) := by
  unfold cand; rw [if_neg hT, hP, hS]; rfl
theorem nx_put {X : List Int} {T m s t z : Nat} (hs : s < 64) (ht : t < 2) {c1 S : Int} {c2 : Nat} (hP : P X T m s = some (c1, c2)) (hT : ¬ (T ≤ m ∧ t = 1)) (hz : z = nx s t) (hS : S = c1 + eW X m s t)
    (hc : pick (Nx X T m (2 * s + t) z) (some (S, 2 * c2 + t)) = some (S, 2 * c2 + t)) (x : Nat) (hx : x < 64) : (if x = z then some (S, 2 * c2 + t) else Nx X T m (2 * s + t) x) = Nx X T m (2 * s + (t + 1)) x := by
  rw [show 2 * s + (t + 1) = 2 * s + t + 1 by omega, Nx_step X T m s t hs ht x hx, ← hz, cand_is hP hT hS]
  by_cases e : x = z
  · subst e; rw [if_pos rfl, if_pos rfl, hc]
  · rw [if_neg e, if_neg e]
theorem nx_keep {X : List Int} {T m s t z : Nat} (hs : s < 64) (ht : t < 2) {c1 S : Int} {c2 : Nat} (hP : P X T m s = some (c1, c2)) (hT : ¬ (T ≤ m ∧ t = 1)) (hz : z = nx s t) (hS : S = c1 + eW X m s t)
    (hc : pick (Nx X T m (2 * s + t) z) (some (S, 2 * c2 + t)) = Nx X T m (2 * s + t) z) (x : Nat) (hx : x < 64) : Nx X T m (2 * s + t) x = Nx X T m (2 * s + (t + 1)) x := by
  rw [show 2 * s + (t + 1) = 2 * s + t + 1 by omega, Nx_step X T m s t hs ht x hx, ← hz, cand_is hP hT hS]
  by_cases e : x = z
  · subst e; rw [if_pos rfl, hc]
  · rw [if_neg e]
theorem two_small {X : List Int} {T m s t : Nat} (hs : s < 64) (ht : t < 2) {c1 : Int} {c2 : Nat} (hP : P X T m s = some (c1, c2)) : 2 * c2 + t < 2 ^ (m + 1) := by
  have := P_small hs hP
  simp only at this
  rw [Nat.pow_succ]; omega
/-- The two rows of paths, and the path that is looked at. -/
structure PW (w0 : World) (g h m : Nat) (o o' : Nat → Option (Int × Nat)) (pp : Nat) (S : Int) (B : ByteArray) (W : World) : Prop where
  p : W.heap[pp]? = some (.cells #[.bool true, .int .i64 S, .string B] 67)
  a : PD w0 g m o W
  b : PD w0 h (m + 1) o' W
theorem pw1 {w0 wr : World} {g h m : Nat} {o o' : Nat → Option (Int × Nat)} (HA : PD w0 g m o wr) (HB : PD w0 h (m + 1) o' wr) (x S : Int) (B : ByteArray) :
    PW w0 g h m o o' wr.heap.size S B ((wr.alloc (.cells #[.bool true, .int .i64 S, .string B] 67)).alloc (.cells #[.int .u8 x] 5)).drew :=
  ⟨hp_drew (hp_old (hp_new wr _) _), ((HA.alloc _).alloc _).drew, ((HB.alloc _).alloc _).drew⟩
theorem pw2 {w0 wr : World} {g h m : Nat} {o o' : Nat → Option (Int × Nat)} (HA : PD w0 g m o wr) (HB : PD w0 h (m + 1) o' wr) (x S : Int) (B : ByteArray) :
    PW w0 g h m o o' (wr.heap.size + 1) S B ((wr.alloc (.cells #[.int .u8 x] 5)).alloc (.cells #[.bool true, .int .i64 S, .string B] 67)).drew :=
  ⟨by have := hp_drew (hp_new (wr.alloc (.cells #[.int .u8 x] 5)) (.cells #[.bool true, .int .i64 S, .string B] 67)); simpa using this, ((HA.alloc _).alloc _).drew, ((HB.alloc _).alloc _).drew⟩
theorem convB (W : World) (B : Nat) (x : Int) (h : W.heap[B]? = some (.cells #[.int .u8 x] 5)) : (convert 37 9 (.slice (some ⟨B, 0, none⟩) 1 1)).run Try.prog W = .ok (.string (strOfNums [x])) W :=
  run_convert_bytes_arg W 37 5 Try.underlying37 Try.underlying5 B 0 1 1 [x] rfl (fun i hi => by
    have : i = 0 := by omega
    subst this
    exact cell_of h rfl) 9 Try.underlying9
theorem convA1 (w : World) (x : Int) : (convert 37 9 (.slice (some ⟨w.heap.size, 0, none⟩) 1 1)).run Try.prog (w.alloc (.cells #[.int .u8 x] 5)).drew = .ok (.string (strOfNums [x])) (w.alloc (.cells #[.int .u8 x] 5)).drew := convB _ _ x (hp_new w _)
theorem convA2 (w : World) (x : Int) (o : Obj) : (convert 37 9 (.slice (some ⟨w.heap.size, 0, none⟩) 1 1)).run Try.prog ((w.alloc (.cells #[.int .u8 x] 5)).alloc o).drew = .ok (.string (strOfNums [x])) ((w.alloc (.cells #[.int .u8 x] 5)).alloc o).drew := convB _ _ x (hp_drew (hp_old (hp_new w _) _))
theorem convA3 (w : World) (x : Int) (o : Obj) : (convert 37 9 (.slice (some ⟨w.heap.size + 1, 0, none⟩) 1 1)).run Try.prog ((w.alloc o).alloc (.cells #[.int .u8 x] 5)).drew = .ok (.string (strOfNums [x])) ((w.alloc o).alloc (.cells #[.int .u8 x] 5)).drew := convB _ _ x (by
  have := hp_drew (hp_new (w.alloc o) (.cells #[.int .u8 x] 5))
  simpa using this)
/-- What holds where a piece ends as it ought to. -/
def onN (K : Act → World → Prop) (e : Exit) (a : Act) (w : World) : Prop := match e with | .normal => K a w | _ => False
theorem wp_onN {P : Program} {c : Code} {Q : Exit → Act → World → Prop} {a : Act} {w : World} (h : c.wp P (onN (Q .normal)) a w) : c.wp P Q a w :=
  Code.wp_mono (fun e a w q => by cases e <;> first | exact q | exact q.elim) h
def findReg (id : Nat) : Code → Option Code
  | .region i ops d => if i = id then some (.region i ops d) else none
  | .seq a b => match findReg id a with
    | some c => some c
    | none => findReg id b
  | .block _ c => findReg id c
  | .scope c => findReg id c
  | .loop c => findReg id c
  | .cond _ a b => match findReg id a with
    | some c => some c
    | none => findReg id b
  | _ => none
noncomputable def code17 : Code := (Try.f12.body.bind (findReg 17)).getD .skip
noncomputable def code18 : Code := (Try.f12.body.bind (findReg 18)).getD .skip

set_option maxRecDepth 1000000 in
set_option maxHeartbeats 1600000 in
theorem r17 {n c m s t g h f q : Nat} {b off : Nat} {c1 v0 v1 S : Int} {c2 : Nat} {Bn : ByteArray} {w wr : World} {o o' : Nat → Option (Int × Nat)} {k1 k2 k3 k4 k5 k6 k9 k12 k15 k16 k17 k18 k19 k20 k21 k22 k23 k24 k25 k26 k27 k28 k29 k30 k31 k32 k33 k34 k35 k36 k37 k38 k39 k40 k41 k42 k43 k44 k45 k46 k47 k48 k49 k50 k51 k52 k53 k54 k55 k56 k57 k58 k59 k60 k61 k62 k63 k64 k65 k66 k67 k68 k69 k70 k71 k72 k73 k74 k75 k76 k77 k78 k79 k80 k81 k82 k83 k84 k85 k86 k87 k88 k89 k90 k91 k92 k93 k94 k95 k96 k97 k98 k99 k100 k101 k102 k103 k104 k105 k106 k107 k108 k109 k110 k111 k112 k113 k114 k115 k116 k117 k118 k119 k120 k121 k122 k123 k124 k125 k126 k127 k128 k129 k130 k131 k132 k133 k134 k135 k136 k137 k138 k139 k140 k141 k142 k143 k144 k145 k146 k147 k148 k149 k150 k151 k152 k153 k154 k155 k156 k157 k158 k159 : Value} {Q : Exit → Act → World → Prop}
    (hls : s < 64) (ht2 : t < 2) (hm : m ≤ 9000) (hun : 2 * m + 1 < n) (hs1 : g < wr.heap.size) (hbl : b < wr.heap.size)
    (a1 : wr.cell? ⟨g, s * 3 + 1, none⟩ = some (.int .i64 c1)) (a2 : wr.cell? ⟨g, s * 3 + 2, none⟩ = some (.string (bstr m c2)))
    (lw0 : wr.cell? ⟨b, off + 2 * m, none⟩ = some (.int .i64 v0)) (lw1 : wr.cell? ⟨b, off + (2 * m + 1), none⟩ = some (.int .i64 v1))
    (W1 : IntKind.i64.wrap ((f : Int) * v0) = (f : Int) * v0) (W2 : IntKind.i64.wrap ((q : Int) * v1) = (q : Int) * v1) (W3 : IntKind.i64.wrap (c1 + (f : Int) * v0) = c1 + (f : Int) * v0) (W4 : IntKind.i64.wrap (c1 + (f : Int) * v0 + (q : Int) * v1) = S)
    (hBn : Bn = bstr (m + 1) (2 * c2 + t)) (HA : Hid (PD w g m o wr)) (HB : Hid (PD w h (m + 1) o' wr))
    (hQ : ∀ (pp : Nat) (u76 u77 u78 u79 u80 u81 u82 u83 u84 u85 u86 u87 u88 u89 u90 u91 u92 u93 u94 u95 u96 u97 u98 u99 u100 u101 u102 u103 u104 u105 u106 u107 u108 : Value) (wx : World), PW w g h m o o' pp S Bn wx → Q .normal ⟨List.toArray (.slice (some ⟨b, off, none⟩) n c :: k1 :: k2 :: k3 :: k4 :: k5 :: k6 :: .slice (some ⟨g, 0, none⟩) 64 64 :: .int .i64 (m : Int) :: k9 :: .int .i64 (s : Int) :: .int .i64 (t : Int) :: k12 :: .int .i64 (f : Int) :: .int .i64 (q : Int) :: .pointer (some ⟨pp, 0, none⟩) :: k16 :: k17 :: k18 :: k19 :: k20 :: k21 :: k22 :: k23 :: k24 :: k25 :: k26 :: k27 :: k28 :: k29 :: k30 :: k31 :: k32 :: k33 :: k34 :: k35 :: k36 :: k37 :: k38 :: k39 :: k40 :: k41 :: k42 :: k43 :: k44 :: k45 :: k46 :: k47 :: k48 :: k49 :: k50 :: k51 :: k52 :: k53 :: k54 :: k55 :: k56 :: k57 :: k58 :: k59 :: k60 :: k61 :: k62 :: k63 :: k64 :: k65 :: k66 :: k67 :: k68 :: k69 :: k70 :: k71 :: k72 :: k73 :: k74 :: k75 :: u76 :: u77 :: u78 :: u79 :: u80 :: u81 :: u82 :: u83 :: u84 :: u85 :: u86 :: u87 :: u88 :: u89 :: u90 :: u91 :: u92 :: u93 :: u94 :: u95 :: u96 :: u97 :: u98 :: u99 :: u100 :: u101 :: u102 :: u103 :: u104 :: u105 :: u106 :: u107 :: u108 :: k109 :: k110 :: k111 :: k112 :: k113 :: k114 :: k115 :: k116 :: k117 :: k118 :: k119 :: k120 :: k121 :: k122 :: k123 :: k124 :: k125 :: k126 :: k127 :: k128 :: k129 :: k130 :: k131 :: k132 :: k133 :: k134 :: k135 :: k136 :: k137 :: k138 :: k139 :: k140 :: k141 :: k142 :: k143 :: k144 :: k145 :: k146 :: k147 :: k148 :: k149 :: k150 :: k151 :: k152 :: k153 :: k154 :: k155 :: k156 :: k157 :: k158 :: k159 :: []), []⟩ wx) :
    Code.wp Try.prog code17 Q ⟨List.toArray (.slice (some ⟨b, off, none⟩) n c :: k1 :: k2 :: k3 :: k4 :: k5 :: k6 :: .slice (some ⟨g, 0, none⟩) 64 64 :: .int .i64 (m : Int) :: k9 :: .int .i64 (s : Int) :: .int .i64 (t : Int) :: k12 :: .int .i64 (f : Int) :: .int .i64 (q : Int) :: k15 :: k16 :: k17 :: k18 :: k19 :: k20 :: k21 :: k22 :: k23 :: k24 :: k25 :: k26 :: k27 :: k28 :: k29 :: k30 :: k31 :: k32 :: k33 :: k34 :: k35 :: k36 :: k37 :: k38 :: k39 :: k40 :: k41 :: k42 :: k43 :: k44 :: k45 :: k46 :: k47 :: k48 :: k49 :: k50 :: k51 :: k52 :: k53 :: k54 :: k55 :: k56 :: k57 :: k58 :: k59 :: k60 :: k61 :: k62 :: k63 :: k64 :: k65 :: k66 :: k67 :: k68 :: k69 :: k70 :: k71 :: k72 :: k73 :: k74 :: k75 :: k76 :: k77 :: k78 :: k79 :: k80 :: k81 :: k82 :: k83 :: k84 :: k85 :: k86 :: k87 :: k88 :: k89 :: k90 :: k91 :: k92 :: k93 :: k94 :: k95 :: k96 :: k97 :: k98 :: k99 :: k100 :: k101 :: k102 :: k103 :: k104 :: k105 :: k106 :: k107 :: k108 :: k109 :: k110 :: k111 :: k112 :: k113 :: k114 :: k115 :: k116 :: k117 :: k118 :: k119 :: k120 :: k121 :: k122 :: k123 :: k124 :: k125 :: k126 :: k127 :: k128 :: k129 :: k130 :: k131 :: k132 :: k133 :: k134 :: k135 :: k136 :: k137 :: k138 :: k139 :: k140 :: k141 :: k142 :: k143 :: k144 :: k145 :: k146 :: k147 :: k148 :: k149 :: k150 :: k151 :: k152 :: k153 :: k154 :: k155 :: k156 :: k157 :: k158 :: k159 :: []), []⟩ wr := by
  conv => arg 2; whnf
  obtain ⟨u, hu⟩ : ∃ u, u = 2 * m := ⟨_, rfl⟩
  obtain ⟨u1, hu1⟩ : ∃ u1, u1 = 2 * m + 1 := ⟨_, rfl⟩
  have X5 : IntKind.i64.wrap (2 * (m : Int)) = (u : Int) := by rw [IntWalk.i64_in _ (by omega)]; omega
  have X6 : IntKind.i64.wrap ((u : Int) + 1) = (u1 : Int) := by rw [IntWalk.i64_in _ (by omega)]; omega
  have X5' : wrap64 (2 * (m : Int)) = (u : Int) := by rw [IntWalk.wrap64_in _ (by omega)]; omega
  have X6' : wrap64 ((u : Int) + 1) = (u1 : Int) := by rw [IntWalk.wrap64_in _ (by omega)]; omega
  have hun0 : u < n := by omega
  have hun1 : u1 < n := by omega
  rw [← hu] at lw0
  rw [← hu1] at lw1
  have W5 : IntKind.u8.wrap (t : Int) = (t : Int) := by
    rcases (by omega : t = 0 ∨ t = 1) with rfl | rfl <;> rfl
  have cv1 := convA1 wr (t : Int)
  have cv2 := fun o => convA2 wr (t : Int) o
  have cv3 := fun o => convA3 wr (t : Int) o
  obtain ⟨Bt, hBt⟩ : ∃ Bt, Bt = strOfNums [(t : Int)] := ⟨_, rfl⟩
  rw [← hBt] at cv1 cv2 cv3
  obtain ⟨Bm, hBm⟩ : ∃ Bm, Bm = bstr m c2 := ⟨_, rfl⟩
  have cat : ∀ w, (Op.stringOp .add Bm Bt).run Try.prog w = .ok (.string Bn) w := fun w => by
    rw [hBm, hBn, hBt]
    rw [← bstr_succ m c2 t ht2 (strOfNums [(t : Int)]) (by rw [strOfNums_size]; rfl) (by unfold byteAt; rw [strOfNums_data]; simp; omega)]
    exact run_string_add_sum w _ _ (by rw [bstr_size, strOfNums_size]; simp; omega)
  rw [← hBm] at a2
  have HQ := Lib.hid hQ
  clear hBt hBm hBn hu hu1 hQ hun
  refine wp_onN ?_
  go_region
  · exact HQ.out _ _ _ _ _ _ _ _ _ _ _ _ _ _ _ _ _ _ _ _ _ _ _ _ _ _ _ _ _ _ _ _ _ _ _ (pw2 HA.out HB.out (t : Int) S Bn)
  · exact HQ.out _ _ _ _ _ _ _ _ _ _ _ _ _ _ _ _ _ _ _ _ _ _ _ _ _ _ _ _ _ _ _ _ _ _ _ (pw1 HA.out HB.out (t : Int) S Bn)

/-- Is the new path the better one? -/
def tkB (o : Option (Int × Nat)) (S : Int) (M : Nat) : Bool := match o with | none => true | some e => decide (e.1 < S ∨ (e.1 = S ∧ M < e.2))
set_option maxRecDepth 1000000 in
set_option maxHeartbeats 3200000 in
theorem r18 {h z pp m : Nat} {S : Int} {M : Nat} {Bn : ByteArray} {w wq : World} {g : Nat} {o o' : Nat → Option (Int × Nat)} {k0 k1 k2 k3 k4 k5 k6 k7 k8 k10 k11 k13 k14 k16 k17 k18 k19 k20 k21 k22 k23 k24 k25 k26 k27 k28 k29 k30 k31 k32 k33 k34 k35 k36 k37 k38 k39 k40 k41 k42 k43 k44 k45 k46 k47 k48 k49 k50 k51 k52 k53 k54 k55 k56 k57 k58 k59 k60 k61 k62 k63 k64 k65 k66 k67 k68 k69 k70 k71 k72 k73 k74 k75 k76 k77 k78 k79 k80 k81 k82 k83 k84 k85 k86 k87 k88 k89 k90 k91 k92 k93 k94 k95 k96 k97 k98 k99 k100 k101 k102 k103 k104 k105 k106 k107 k108 k109 k110 k111 k112 k113 k114 k115 k116 k117 k118 k119 k120 k121 k122 k123 k124 k125 k126 k127 k128 k129 k130 k131 k132 k133 k134 k135 k136 k137 k138 k139 k140 k141 k142 k143 k144 k145 k146 k147 k148 k149 k150 k151 k152 k153 k154 k155 k156 k157 k158 k159 : Value} {Q : Exit → Act → World → Prop} (hz : z < 64) (HQ0 : Hid (PW w g h m o o' pp S Bn wq)) (hBn : Bn = bstr (m + 1) M) (hM : M < 2 ^ (m + 1)) (hE : ∀ e, o' z = some e → e.2 < 2 ^ (m + 1))
    (tk : Bool) (htk : tk = tkB (o' z) S M)
    (hQ : ∀ (nq : Nat) (u109 u110 u111 u112 u113 u114 u115 u116 u117 u118 u119 u120 u121 u122 u123 u124 u125 u126 u127 u128 u129 u130 u131 u132 u133 u134 u135 u136 u137 u138 u139 u140 u141 u142 u143 : Value), Q .normal ⟨List.toArray (k0 :: k1 :: k2 :: k3 :: k4 :: k5 :: k6 :: k7 :: k8 :: .slice (some ⟨h, 0, none⟩) 64 64 :: k10 :: k11 :: .int .i64 (z : Int) :: k13 :: k14 :: .pointer (some ⟨pp, 0, none⟩) :: k16 :: k17 :: k18 :: k19 :: k20 :: k21 :: k22 :: k23 :: k24 :: k25 :: k26 :: k27 :: k28 :: k29 :: k30 :: k31 :: k32 :: k33 :: k34 :: k35 :: k36 :: k37 :: k38 :: k39 :: k40 :: k41 :: k42 :: k43 :: k44 :: k45 :: k46 :: k47 :: k48 :: k49 :: k50 :: k51 :: k52 :: k53 :: k54 :: k55 :: k56 :: k57 :: k58 :: k59 :: k60 :: k61 :: k62 :: k63 :: k64 :: k65 :: k66 :: k67 :: k68 :: k69 :: k70 :: k71 :: k72 :: k73 :: k74 :: k75 :: k76 :: k77 :: k78 :: k79 :: k80 :: k81 :: k82 :: k83 :: k84 :: k85 :: k86 :: k87 :: k88 :: k89 :: k90 :: k91 :: k92 :: k93 :: k94 :: k95 :: k96 :: k97 :: k98 :: k99 :: k100 :: k101 :: k102 :: k103 :: k104 :: k105 :: k106 :: k107 :: k108 :: u109 :: u110 :: u111 :: u112 :: u113 :: u114 :: u115 :: u116 :: u117 :: u118 :: u119 :: u120 :: u121 :: u122 :: u123 :: u124 :: u125 :: u126 :: u127 :: u128 :: u129 :: u130 :: u131 :: u132 :: u133 :: u134 :: u135 :: u136 :: u137 :: u138 :: u139 :: u140 :: u141 :: u142 :: u143 :: .bool tk :: k145 :: k146 :: k147 :: k148 :: k149 :: k150 :: k151 :: k152 :: k153 :: k154 :: k155 :: k156 :: k157 :: k158 :: k159 :: []), []⟩ (wq.drewN nq)) :
    Code.wp Try.prog code18 Q ⟨List.toArray (k0 :: k1 :: k2 :: k3 :: k4 :: k5 :: k6 :: k7 :: k8 :: .slice (some ⟨h, 0, none⟩) 64 64 :: k10 :: k11 :: .int .i64 (z : Int) :: k13 :: k14 :: .pointer (some ⟨pp, 0, none⟩) :: k16 :: k17 :: k18 :: k19 :: k20 :: k21 :: k22 :: k23 :: k24 :: k25 :: k26 :: k27 :: k28 :: k29 :: k30 :: k31 :: k32 :: k33 :: k34 :: k35 :: k36 :: k37 :: k38 :: k39 :: k40 :: k41 :: k42 :: k43 :: k44 :: k45 :: k46 :: k47 :: k48 :: k49 :: k50 :: k51 :: k52 :: k53 :: k54 :: k55 :: k56 :: k57 :: k58 :: k59 :: k60 :: k61 :: k62 :: k63 :: k64 :: k65 :: k66 :: k67 :: k68 :: k69 :: k70 :: k71 :: k72 :: k73 :: k74 :: k75 :: k76 :: k77 :: k78 :: k79 :: k80 :: k81 :: k82 :: k83 :: k84 :: k85 :: k86 :: k87 :: k88 :: k89 :: k90 :: k91 :: k92 :: k93 :: k94 :: k95 :: k96 :: k97 :: k98 :: k99 :: k100 :: k101 :: k102 :: k103 :: k104 :: k105 :: k106 :: k107 :: k108 :: k109 :: k110 :: k111 :: k112 :: k113 :: k114 :: k115 :: k116 :: k117 :: k118 :: k119 :: k120 :: k121 :: k122 :: k123 :: k124 :: k125 :: k126 :: k127 :: k128 :: k129 :: k130 :: k131 :: k132 :: k133 :: k134 :: k135 :: k136 :: k137 :: k138 :: k139 :: k140 :: k141 :: k142 :: k143 :: k144 :: k145 :: k146 :: k147 :: k148 :: k149 :: k150 :: k151 :: k152 :: k153 :: k154 :: k155 :: k156 :: k157 :: k158 :: k159 :: []), []⟩ wq := by
  conv => arg 2; whnf
  have p1 : wq.cell? ⟨pp, 1, none⟩ = some (.int .i64 S) := cell_of HQ0.out.p rfl
  have p2 : wq.cell? ⟨pp, 2, none⟩ = some (.string Bn) := cell_of HQ0.out.p rfl
  have hpp : pp < wq.heap.size := lt_of_obj HQ0.out.p
  have hhq : h < wq.heap.size := lt_of_obj HQ0.out.b.row
  obtain ⟨n0, n1, n2⟩ := HQ0.out.b.cell z hz
  have HQ := Lib.hid hQ
  clear hQ HQ0
  cases ho : o' z with
  | none =>
    rw [ho] at n0 n1 n2
    have m0 : wq.cell? ⟨h, z * 3, none⟩ = some (.bool false) := n0
    have m1 : wq.cell? ⟨h, z * 3 + 1, none⟩ = some (.int .i64 0) := n1
    have m2 : wq.cell? ⟨h, z * 3 + 2, none⟩ = some (.string ⟨#[]⟩) := n2
    have e : tk = true := by rw [htk, ho]; rfl
    subst e
    clear n0 n1 n2 ho htk hBn hM hE
    go_big_quiet (fail)
    exact HQ.out _ _ _ _ _ _ _ _ _ _ _ _ _ _ _ _ _ _ _ _ _ _ _ _ _ _ _ _ _ _ _ _ _ _ _ _
  | some ee =>
    obtain ⟨e1, e2⟩ := ee
    rw [ho] at n0 n1 n2 htk
    have m0 : wq.cell? ⟨h, z * 3, none⟩ = some (.bool true) := n0
    have m1 : wq.cell? ⟨h, z * 3 + 1, none⟩ = some (.int .i64 e1) := n1
    have m2 : wq.cell? ⟨h, z * 3 + 2, none⟩ = some (.string (bstr (m + 1) e2)) := n2
    have LS := bstr_less (m + 1) M e2 hM (hE _ ho)
    rw [← hBn] at LS
    generalize bstr (m + 1) e2 = Be at m2 LS
    simp only [tkB] at htk
    clear n0 n1 n2 ho hBn hM hE
    rcases Int.lt_trichotomy e1 S with hlt3 | heq3 | hgt3
    · have e : tk = true := by rw [htk]; simp [hlt3]
      subst e
      have d1 : decide (e1 < S) = true := decide_eq_true hlt3
      clear LS hlt3 htk
      go_big_quiet (fail)
      exact HQ.out _ _ _ _ _ _ _ _ _ _ _ _ _ _ _ _ _ _ _ _ _ _ _ _ _ _ _ _ _ _ _ _ _ _ _ _
    · subst heq3
      have d1 : decide (e1 < e1) = false := by simp
      cases hl : decide (M < e2) with
      | true =>
        have e : tk = true := by rw [htk]; simpa using hl
        subst e
        rw [hl] at LS
        clear hl htk
        go_big_quiet (fail)
        exact HQ.out _ _ _ _ _ _ _ _ _ _ _ _ _ _ _ _ _ _ _ _ _ _ _ _ _ _ _ _ _ _ _ _ _ _ _ _
      | false =>
        have e : tk = false := by rw [htk]; simpa using hl
        subst e
        rw [hl] at LS
        clear hl htk
        go_big_quiet (fail)
        exact HQ.out _ _ _ _ _ _ _ _ _ _ _ _ _ _ _ _ _ _ _ _ _ _ _ _ _ _ _ _ _ _ _ _ _ _ _ _
    · have e : tk = false := by rw [htk]; simp; omega
      subst e
      have d1 : decide (e1 < S) = false := decide_eq_false (by omega)
      have d2 : (S == e1) = false := by simp; omega
      have d3 : decide (S = e1) = false := decide_eq_false (by omega)
      clear LS hgt3 htk
      go_big_quiet (fail)
      exact HQ.out _ _ _ _ _ _ _ _ _ _ _ _ _ _ _ _ _ _ _ _ _ _ _ _ _ _ _ _ _ _ _ _ _ _ _ _
theorem tk_put {o : Option (Int × Nat)} {S : Int} {M : Nat} (h : tkB o S M = true) : pick o (some (S, M)) = some (S, M) := by
  cases o with
  | none => rfl
  | some e => simp only [tkB] at h; exact if_pos (of_decide_eq_true h)
theorem tk_keep {o : Option (Int × Nat)} {S : Int} {M : Nat} (h : tkB o S M = false) : pick o (some (S, M)) = o := by
  cases o with
  | none => simp [tkB] at h
  | some e => simp only [tkB] at h; exact if_neg (of_decide_eq_false h)
theorem PW.drewN {w0 : World} {g h m : Nat} {o o' : Nat → Option (Int × Nat)} {pp : Nat} {S : Int} {B : ByteArray} {W : World} (H : PW w0 g h m o o' pp S B W) (n : Nat) : PW w0 g h m o o' pp S B (W.drewN n) := ⟨hp_drewN H.p n, H.a.drewN n, H.b.drewN n⟩
end Go.Proofs.Ytbfgpjpfhbbdfaa
