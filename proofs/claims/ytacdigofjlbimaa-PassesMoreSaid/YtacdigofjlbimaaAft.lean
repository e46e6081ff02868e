/-
  The walk of after, and rest and after of any point. Conditions: valid windows.
-/
import Derived.Test.YtacdigofjlbimaaRest
namespace Go.Proofs.Ytacdigofjlbimaa
open Go.RowKit Kit Go.Maps
set_option linter.unusedVariables false
set_option maxHeartbeats 1600000 in
theorem aft_of (L : List Wn) (gap : Int) (a : Option Addr) (n c mb p k : Nat) (hv : vL (wl L) n) (hk : k ≤ 40) (hR : RestC L gap a n c mb p k) : AftC L gap a n c mb p k := by
  intro i bud w hRP hb hi
  obtain ⟨A, hA⟩ : ∃ A, Hid (A = plus (rest (wl L) n gap k (some i) bud) (wl L i).va) := ⟨_, Lib.hid rfl⟩
  rw [← hA.out]
  have HRP := Lib.hid hRP
  have hmb : mb < w.heap.size := by obtain ⟨es, cl, hm⟩ := hRP.me.map; exact lt_of_obj hm
  obtain ⟨h1, h2, h3, h4⟩ := rest_bound (gap := gap) hv k (some i) bud
  have hx := (hv i hi)
  have hva : 0 ≤ (wl L i).va ∧ (wl L i).va ≤ 1099511627776 := ⟨hx.2.2.2.2.2.1, hx.2.2.2.2.2.2.1⟩
  obtain ⟨B, hB⟩ : ∃ B, B = rest (wl L) n gap k (some i) bud := ⟨_, rfl⟩
  obtain ⟨W2, hW2⟩ : ∃ W2, W2 = (w.alloc (.cells #[.int .i64 (i : Int), .int .i64 k, .int .i64 bud] 55)).alloc (.cells #[.int .i64 0, .int .i64 0] 57) := ⟨_, rfl⟩
  have RR := Lib.hid (hR (some i) bud W2 (hRP.below (r1_of hW2).1) hb (fun j e => by cases e; exact hi))
  rw [← hB] at h1 h2 h3 h4 RR hA
  rw [show lz (some i) = (i : Int) from rfl] at RR
  clear hB
  obtain ⟨bv, bm⟩ := B
  have hA2 : Hid (A = (bv + (wl L i).va, bm + 1)) := Lib.hid (by rw [hA.out]; rfl)
  simp only at h1 h2 h3 h4
  have HW2 := Lib.hid hW2
  have p0 : w.cell? ⟨p, 0, none⟩ = some (.slice a n c) := cell_of hRP.po rfl
  have hpl := lt_of_obj hRP.po
  clear hRP hR hW2 hx hA
  go_enter Try.func28, Try.ntmps28
  go_wp2_with (fail)
  rw [← HW2.out]
  refine RR.out.mono ?_
  rintro e w3 ⟨rfl, me3, md3⟩
  obtain ⟨b2, o0, o1, s2⟩ := r1_of HW2.out
  have S3 : Hid (RI w mb (wl L) n gap i k bud (bv, bm) (w3.alloc (.cells #[.int .i64 bv, .int .i64 bm] 57)) ∧ w3.heap.size ≠ w.heap.size + 1 ∨ True) := Lib.hid (.inr trivial)
  have md0 : Hid (Mod (fun x => x = mb) w w3) := Lib.hid ((Mod.of_below (S := fun x => x = mb) b2).trans md3 (fun _ _ h => h))
  have y0 : w3.heap[w.heap.size]? = some (.cells #[.int .i64 (i : Int), .int .i64 k, .int .i64 bud] 55) := md3.keeps o0 (by omega)
  have y1 : w3.heap[w.heap.size + 1]? = some (.cells #[.int .i64 0, .int .i64 0] 57) := md3.keeps o1 (by omega)
  have yp := md0.out.keeps HRP.out.po HRP.out.pm
  have yw : WS w3 a n c L := by obtain ⟨es, cl, hmm⟩ := HRP.out.me.map; exact HRP.out.ws.keep (keep_map hmm md0.out)
  have ME := Lib.hid me3
  clear me3 md3 RR HW2 b2 o0 o1 s2 HRP p0
  obtain ⟨W4, hW4⟩ : ∃ W4, W4 = w3.alloc (.cells #[.int .i64 bv, .int .i64 bm] 57) := ⟨_, rfl⟩
  have HW4 := Lib.hid hW4
  have b4 : Below w3.heap.size w3 W4 := by rw [hW4]; exact bl_alloc (Below.refl _ _) _
  have u0 := below_keeps b4 y0 (lt_of_obj y0)
  have u1 := below_keeps b4 y1 (lt_of_obj y1)
  have u3 : W4.heap[w3.heap.size]? = some (.cells #[.int .i64 bv, .int .i64 bm] 57) := by rw [hW4]; exact hp_new _ _
  have up := below_keeps b4 yp (lt_of_obj yp)
  have uw := yw.below b4
  obtain ⟨b, off, rfl, hbl, c0, c1, c2, c3, c4⟩ := uw.2.2.2 i hi
  have hcap := uw.2.1
  have hcap2 := uw.2.2.1
  unfold maxLen at hcap2
  generalize (wl L i).va = va at c3 hva hA2
  have i0 : W4.cell? ⟨w.heap.size, 0, none⟩ = some (.int .i64 (i : Int)) := cell_of u0 rfl
  have t0 : W4.cell? ⟨w.heap.size + 1, 0, none⟩ = some (.int .i64 0) := cell_of u1 rfl
  have t1 : W4.cell? ⟨w.heap.size + 1, 1, none⟩ = some (.int .i64 0) := cell_of u1 rfl
  have f0 := free_of (i := 0) u1
  have f1 := free_of (i := 1) u1
  have g0 : W4.cell? ⟨w3.heap.size, 0, none⟩ = some (.int .i64 bv) := cell_of u3 rfl
  have g1 : W4.cell? ⟨w3.heap.size, 1, none⟩ = some (.int .i64 bm) := cell_of u3 rfl
  have p0 : W4.cell? ⟨p, 0, none⟩ = some (.slice (some ⟨b, off, none⟩) n c) := cell_of up rfl
  have l0 := lt_of_obj u0
  have l1 := lt_of_obj u1
  have l3 := lt_of_obj u3
  have lp := lt_of_obj up
  have U1 := Lib.hid u1
  have B4 := Lib.hid b4
  have w1 := IntWalk.i64_in (bv + va) (by omega)
  have w2 := IntWalk.i64_in (bm + 1) (by omega)
  clear y0 y1 yp yw b4 u0 u1 u3 up uw hW4 c0 c1 c2 c4
  go_wp2_with (fail)
  rw [← HW4.out]
  refine region_still_tail 16 (by kernel_rfl) (by kernel_rfl) ?_
  simp only [List.take_succ_cons, List.take_zero, List.drop_succ_cons, List.drop_zero]
  (repeat still_step)
  refine wpStill_nil ?_
  go_wp2_with (fail)
  have hA3 := hA2.out
  subst hA3
  have MD : Mod (fun x => x = mb) w W4 := md0.out.trans (Mod.of_below (S := fun x => x = mb) B4.out) (fun _ _ h => h)
  have ME5 : Memo W4 mb (wl L) n gap := ME.out.below B4.out
  refine rs_fin (g := (bv + va, bm + 1)) rfl _ rfl (hp_drew (hp_set (hp_set U1.out _) _)) rfl ⟨rfl, ?_, ?_⟩
  · exact ((ME5.setNe (by omega)).setNe (by omega)).below (Below.refl _ _).drew
  · exact ((MD.setCell (.inr (by simp)) _).setCell (.inr (by simp)) _).drew
/-- What may be gained from any point. -/
theorem rest_any (L : List Wn) (gap : Int) (a : Option Addr) (n c mb p : Nat) (hv : vL (wl L) n) (hg : 0 ≤ gap ∧ gap ≤ 1099511627776) (hn : n ≤ 40) : ∀ k, k ≤ 40 → RestC L gap a n c mb p k
  | 0, hk => rest_of L gap a n c mb p 0 hv hg hk hn (fun k' h => by omega)
  | k + 1, hk => rest_of L gap a n c mb p (k + 1) hv hg hk hn (fun k' h => by
    obtain rfl : k = k' := by omega
    exact aft_of L gap a n c mb p k hv (by omega) (rest_any L gap a n c mb p hv hg hn k (by omega)))
theorem aft_any (L : List Wn) (gap : Int) (a : Option Addr) (n c mb p : Nat) (hv : vL (wl L) n) (hg : 0 ≤ gap ∧ gap ≤ 1099511627776) (hn : n ≤ 40) (k : Nat) (hk : k ≤ 40) : AftC L gap a n c mb p k :=
  aft_of L gap a n c mb p k hv hk (rest_any L gap a n c mb p hv hg hn k hk)
end Go.Proofs.Ytacdigofjlbimaa
