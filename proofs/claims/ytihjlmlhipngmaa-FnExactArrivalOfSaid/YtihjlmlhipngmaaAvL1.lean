/- Exact laws over grids: ArrivalOf. -/
import Derived.Test.YtihjlmlhipngmaaAvD
import Derived.Deep.RegionHeld3
namespace Go.Proofs.Ytihjlmlhipngmaa
open Go.ChangeShapes Go.WideShapes Go.ChangeAt Go.RowKit
set_option linter.unusedVariables false
theorem Blk.onlyB {w w' : World} {g lo hi : Nat} {T : TypeId} {cs : Array Value} (h : Blk w g T cs) (ho : Only lo hi w w') (hd : g < lo ∨ hi ≤ g) : Blk w' g T cs := (ho.block g h.lt hd).trans h

set_option maxHeartbeats 8000000 in
set_option maxRecDepth 100000 in
theorem wArrivalOf (w : World) (x : Gr × Option Addr × Nat × Nat) (R : Reads w w.heap.size 1 x.2.1 x.2.2.1 (ints x.1.hs) ∧ x.2.2.1 ≤ x.2.2.2 ∧ x.2.2.1 ≤ 9223372036854775807) (A0 : Option Addr) (n0 c0 : Nat) (zs0 : List Int) (hz0 : Reads w w.heap.size 1 A0 n0 (ints zs0)) (_ : ∀ z ∈ zs0, (Lit.int .i64 z).wf = true) (a1 : Int) (_ : (Lit.int .i64 a1).wf = true) (a2 : Int) (_ : (Lit.int .i64 a2).wf = true) :
    Calls Try.prog 4 #[x.1.val x.2.1 x.2.2.1 x.2.2.2, .slice A0 n0 c0, .int .i64 a1, .int .i64 a2] w fun e w' => e = .returned (.bool true) ∧ Below w.heap.size w w' := by
  obtain ⟨g, A, n, c⟩ := x
  obtain ⟨ha, hnc, hm⟩ := R
  simp only at ha hnc hm ⊢
  have hsz := fun W => szGrid_c g A n c 1048576 W (by omega) (by omega) hm
  obtain ⟨r, co, s, hs⟩ := g
  simp only [Gr.val, Gr.cells] at *
  by_cases h20 : 1048576 < n0
  · clear ha hsz hz0
    go_enter Try.func4, Try.ntmps4
    go_wp2
    go_ret
    exact ⟨rfl, by go_grown⟩
  by_cases h20 : 1048576 < n
  · rw [if_pos (by omega)] at hsz
    have HSZ := Lib.hid hsz
    clear ha hsz hz0
    go_enter Try.func4, Try.ntmps4
    go_wp2_with fail
    refine (HSZ.out _).mono ?_
    rintro e w0 ⟨rfl, B0⟩
    have HB := Lib.hid B0; clear B0
    go_wp2
    go_ret
    exact ⟨rfl, ((Below.refl _ _).alloc (Nat.le_refl _) _).trans (HB.out.mono (by simp))⟩
  · rw [if_neg (by omega)] at hsz
    have hpos : ¬ (1048576 - (n : Int) < 0) := by omega
    have RA := Lib.hid ha; clear ha
    have RZ0 := Lib.hid hz0; clear hz0
    have HSZ := Lib.hid hsz; clear hsz
    go_enter Try.func4, Try.ntmps4
    go_wp2_with fail
    refine (HSZ.out _).mono ?_
    rintro e w0 ⟨rfl, B0⟩
    have KB : Hid (Blk w0 w.heap.size 36 #[.int .i64 r, .int .i64 co, .int .i64 s, .slice A n c]) := Lib.hid ((Blk.new _ _ _).below B0 (by simp))
    have T : Hid (Below w.heap.size w w0) := Lib.hid (((Below.refl _ _).alloc (Nat.le_refl _) _).trans (B0.mono (by simp)))
    have hs0 : w.heap.size + 1 ≤ w0.heap.size := by have := B0.size; simpa using this
    have hKBl := KB.out.lt
    clear B0 HSZ
    have yKB0 : w0.cell? ⟨w.heap.size, 0, none⟩ = some (.int .i64 r) := KB.out.cell 0
    have yKB1 : w0.cell? ⟨w.heap.size, 1, none⟩ = some (.int .i64 co) := KB.out.cell 1
    have yKB2 : w0.cell? ⟨w.heap.size, 2, none⟩ = some (.int .i64 s) := KB.out.cell 2
    have yKB3 : w0.cell? ⟨w.heap.size, 3, none⟩ = some (.slice A n c) := KB.out.cell 3
    go_wp2_with fail
    refine (toGrid_c ⟨r, co, s, hs⟩ A n c _ w0 (RA.out.below T.out) (by have := T.out.size; omega) (by omega)).mono ?_
    rintro e w1 ⟨DG1, dg1, rfl, OG1, B1⟩
    simp only [Gr.val, Gr.cells]
    have hs1 := B1.size
    clear yKB0 yKB1 yKB2 yKB3
    replace T := Lib.hid (T.out.trans (B1.mono T.out.size))
    replace KB := Lib.hid (KB.out.below B1 (by omega))
    have hKBl := KB.out.lt
    replace OG1 := Lib.hid OG1
    clear B1
    go_wp2_with fail
    refine (toInt64S_own A0 n0 c0 _ zs0 w1 (RZ0.out.below T.out) (by have := T.out.size; omega) (by omega)).mono ?_
    rintro e w2 ⟨DM01, dm01, rfl, OM01, B2⟩
    have hs2 := B2.size
    replace T := Lib.hid (T.out.trans (B2.mono T.out.size))
    replace OG1 := Lib.hid (OG1.out.below B2 (by omega))
    replace KB := Lib.hid (KB.out.below B2 (by omega))
    have hKBl := KB.out.lt
    replace OM01 := Lib.hid OM01
    clear B2
    go_wp2_with fail
    refine (sArrivalOf_c ⟨r, co, s, hs⟩ DG1 n dg1 _ DM01 n0 dm01 _ zs0 a1 a2 w2 (.of_own OG1.out (by omega) (by omega)) OM01.out.reads (by omega) (by omega)).mono ?_
    rintro e w3 ⟨rfl, B3⟩
    have hs3 := B3.size
    replace T := Lib.hid (T.out.trans (B3.mono T.out.size))
    replace OG1 := Lib.hid (OG1.out.below B3 (by omega))
    replace OM01 := Lib.hid (OM01.out.below B3 (by omega))
    replace KB := Lib.hid (KB.out.below B3 (by omega))
    have hKBl := KB.out.lt
    clear B3
    have yKB0 : w3.cell? ⟨w.heap.size, 0, none⟩ = some (.int .i64 r) := KB.out.cell 0
    have yKB1 : w3.cell? ⟨w.heap.size, 1, none⟩ = some (.int .i64 co) := KB.out.cell 1
    have yKB2 : w3.cell? ⟨w.heap.size, 2, none⟩ = some (.int .i64 s) := KB.out.cell 2
    have yKB3 : w3.cell? ⟨w.heap.size, 3, none⟩ = some (.slice A n c) := KB.out.cell 3
    go_wp2_with fail
    refine (toGrid_c ⟨r, co, s, hs⟩ A n c _ w3 (RA.out.below T.out) (by have := T.out.size; omega) (by omega)).mono ?_
    rintro e w4 ⟨DG2, dg2, rfl, OG2, B4⟩
    simp only [Gr.val, Gr.cells]
    have hs4 := B4.size
    clear yKB0 yKB1 yKB2 yKB3
    replace T := Lib.hid (T.out.trans (B4.mono T.out.size))
    replace OG1 := Lib.hid (OG1.out.below B4 (by omega))
    replace OM01 := Lib.hid (OM01.out.below B4 (by omega))
    replace KB := Lib.hid (KB.out.below B4 (by omega))
    have hKBl := KB.out.lt
    replace OG2 := Lib.hid OG2
    clear B4
    obtain ⟨w5, hX5⟩ : ∃ X, X = w4.alloc (.cells #[.int .i64 r, .int .i64 co, .int .i64 s, .slice DG2 n dg2] 40) := ⟨_, rfl⟩
    have B5 : Below w4.heap.size w4 w5 := by rw [hX5]; exact (Below.refl _ _).alloc (Nat.le_refl _) _
    have KX : Hid (Blk w5 w4.heap.size 40 #[.int .i64 r, .int .i64 co, .int .i64 s, .slice DG2 n dg2]) := Lib.hid (by rw [hX5]; exact Blk.new _ _ _)
    have hs5 : w4.heap.size + 1 = w5.heap.size := by rw [hX5]; simp
    replace T := Lib.hid (T.out.trans (B5.mono T.out.size))
    replace OG1 := Lib.hid (OG1.out.below B5 (by omega))
    replace OM01 := Lib.hid (OM01.out.below B5 (by omega))
    replace OG2 := Lib.hid (OG2.out.below B5 (by omega))
    replace KB := Lib.hid (KB.out.below B5 (by omega))
    have hKBl := KB.out.lt
    have hKXl := KX.out.lt
    clear B5
    go_wp2_with fail
    rw [← hX5]
    clear hX5
    refine (toInt64S_own A0 n0 c0 _ zs0 w5 (RZ0.out.below T.out) (by have := T.out.size; omega) (by omega)).mono ?_
    rintro e w6 ⟨DM02, dm02, rfl, OM02, B6⟩
    have hs6 := B6.size
    replace T := Lib.hid (T.out.trans (B6.mono T.out.size))
    replace OG1 := Lib.hid (OG1.out.below B6 (by omega))
    replace OM01 := Lib.hid (OM01.out.below B6 (by omega))
    replace OG2 := Lib.hid (OG2.out.below B6 (by omega))
    replace KB := Lib.hid (KB.out.below B6 (by omega))
    have hKBl := KB.out.lt
    replace KX := Lib.hid (KX.out.below B6 (by omega))
    have hKXl := KX.out.lt
    replace OM02 := Lib.hid OM02
    clear B6
    have yKX0 : w6.cell? ⟨w4.heap.size, 0, none⟩ = some (.int .i64 r) := KX.out.cell 0
    have yKX1 : w6.cell? ⟨w4.heap.size, 1, none⟩ = some (.int .i64 co) := KX.out.cell 1
    have yKX2 : w6.cell? ⟨w4.heap.size, 2, none⟩ = some (.int .i64 s) := KX.out.cell 2
    have yKX3 : w6.cell? ⟨w4.heap.size, 3, none⟩ = some (.slice DG2 n dg2) := KX.out.cell 3
    go_wp2_with fail
    refine (iArrivalOf_c ⟨r, co, s, hs⟩ DG2 n dg2 _ DM02 n0 dm02 _ zs0 a1 a2 w6 (.of_own OG2.out (by omega) (by omega)) OM02.out.reads (by omega) (by omega)).mono ?_
    rintro e w7 ⟨rfl, B7⟩
    have hs7 := B7.size
    clear yKX0 yKX1 yKX2 yKX3
    replace T := Lib.hid (T.out.trans (B7.mono T.out.size))
    replace OG1 := Lib.hid (OG1.out.below B7 (by omega))
    replace OM01 := Lib.hid (OM01.out.below B7 (by omega))
    replace OG2 := Lib.hid (OG2.out.below B7 (by omega))
    replace OM02 := Lib.hid (OM02.out.below B7 (by omega))
    replace KB := Lib.hid (KB.out.below B7 (by omega))
    have hKBl := KB.out.lt
    replace KX := Lib.hid (KX.out.below B7 (by omega))
    have hKXl := KX.out.lt
    clear B7
    have yKB0 : w7.cell? ⟨w.heap.size, 0, none⟩ = some (.int .i64 r) := KB.out.cell 0
    have yKB1 : w7.cell? ⟨w.heap.size, 1, none⟩ = some (.int .i64 co) := KB.out.cell 1
    have yKB2 : w7.cell? ⟨w.heap.size, 2, none⟩ = some (.int .i64 s) := KB.out.cell 2
    have yKB3 : w7.cell? ⟨w.heap.size, 3, none⟩ = some (.slice A n c) := KB.out.cell 3
    have yKX0 : w7.cell? ⟨w4.heap.size, 0, none⟩ = some (.int .i64 r) := KX.out.cell 0
    have yKX1 : w7.cell? ⟨w4.heap.size, 1, none⟩ = some (.int .i64 co) := KX.out.cell 1
    have yKX2 : w7.cell? ⟨w4.heap.size, 2, none⟩ = some (.int .i64 s) := KX.out.cell 2
    have yKX3 : w7.cell? ⟨w4.heap.size, 3, none⟩ = some (.slice DG2 n dg2) := KX.out.cell 3
    have HS : Hid (∀ W, Below w7.heap.size w7 W → (W.cell? ⟨w.heap.size, 0, none⟩ = some (.int .i64 r) ∧ W.cell? ⟨w.heap.size, 1, none⟩ = some (.int .i64 co) ∧ W.cell? ⟨w.heap.size, 2, none⟩ = some (.int .i64 s) ∧ W.cell? ⟨w.heap.size, 3, none⟩ = some (.slice A n c) ∧ W.cell? ⟨w4.heap.size, 0, none⟩ = some (.int .i64 r) ∧ W.cell? ⟨w4.heap.size, 1, none⟩ = some (.int .i64 co) ∧ W.cell? ⟨w4.heap.size, 2, none⟩ = some (.int .i64 s) ∧ W.cell? ⟨w4.heap.size, 3, none⟩ = some (.slice DG2 n dg2))) := Lib.hid fun W hW => by
      have z1 := KX.out.below hW (by omega)
      have z2 := KB.out.below hW (by omega)
      exact ⟨z2.cell 0, z2.cell 1, z2.cell 2, z2.cell 3, z1.cell 0, z1.cell 1, z1.cell 2, z1.cell 3⟩
    have hB := Below.refl w7.heap.size w7
    go_wp2
    go_region_held3 (fun w' => Below w7.heap.size w7 w' ∧ (w'.cell? ⟨w.heap.size, 0, none⟩ = some (.int .i64 r) ∧ w'.cell? ⟨w.heap.size, 1, none⟩ = some (.int .i64 co) ∧ w'.cell? ⟨w.heap.size, 2, none⟩ = some (.int .i64 s) ∧ w'.cell? ⟨w.heap.size, 3, none⟩ = some (.slice A n c) ∧ w'.cell? ⟨w4.heap.size, 0, none⟩ = some (.int .i64 r) ∧ w'.cell? ⟨w4.heap.size, 1, none⟩ = some (.int .i64 co) ∧ w'.cell? ⟨w4.heap.size, 2, none⟩ = some (.int .i64 s) ∧ w'.cell? ⟨w4.heap.size, 3, none⟩ = some (.slice DG2 n dg2))) (first | exact keepB HS.out (by assumption) (by first | assumption | exact And.left (by assumption)) | exact keepD HS.out (by assumption) | (go_keep; done)) (first | (go_at_call 16; refine (toGrid_c ⟨r, co, s, hs⟩ A n c _ _ (RA.out.below (T.out.trans (Below.mono (by first | assumption | exact And.left (by assumption)) T.out.size))) (Nat.le_trans T.out.size (Below.size (by first | assumption | exact And.left (by assumption)))) (by omega)).mono ?_; rintro e wq ⟨DQ, dq, rfl, OQ, hb⟩; simp only [Gr.val, Gr.cells]) | (go_at_call 19; refine (eqGrid_same ⟨r, co, s, hs⟩ DG2 DQ n n dg2 dq _ _ _ (OG2.out.reads.below (Below.mono (by first | assumption | exact And.left (by assumption)) (by omega))) OQ.reads (Nat.le_trans (by omega : _ ≤ w7.heap.size) (Below.size (by first | assumption | exact And.left (by assumption)))) (Nat.le_refl _) (by omega)).mono ?_; rintro e w8 ⟨rfl, hbe⟩))
    have B8 : Below w7.heap.size w7 w8 := And.left (by assumption)
    have hs8 := B8.size
    clear HS hB OQ hbe yKB0 yKB1 yKB2 yKB3 yKX0 yKX1 yKX2 yKX3
    replace T := Lib.hid (T.out.trans (B8.mono T.out.size))
    replace OG1 := Lib.hid (OG1.out.below B8 (by omega))
    replace OM01 := Lib.hid (OM01.out.below B8 (by omega))
    replace OG2 := Lib.hid (OG2.out.below B8 (by omega))
    replace OM02 := Lib.hid (OM02.out.below B8 (by omega))
    replace KB := Lib.hid (KB.out.below B8 (by omega))
    have hKBl := KB.out.lt
    replace KX := Lib.hid (KX.out.below B8 (by omega))
    have hKXl := KX.out.lt
    clear B8
    go_wp2_with fail
    refine (toInt64S_own A0 n0 c0 _ zs0 w8 (RZ0.out.below T.out) (by have := T.out.size; omega) (by omega)).mono ?_
    rintro e w9 ⟨DM03, dm03, rfl, OM03, B9⟩
    have hs9 := B9.size
    replace T := Lib.hid (T.out.trans (B9.mono T.out.size))
    replace OG1 := Lib.hid (OG1.out.below B9 (by omega))
    replace OM01 := Lib.hid (OM01.out.below B9 (by omega))
    replace OG2 := Lib.hid (OG2.out.below B9 (by omega))
    replace OM02 := Lib.hid (OM02.out.below B9 (by omega))
    replace KB := Lib.hid (KB.out.below B9 (by omega))
    have hKBl := KB.out.lt
    replace KX := Lib.hid (KX.out.below B9 (by omega))
    have hKXl := KX.out.lt
    replace OM03 := Lib.hid OM03
    clear B9
    go_wp2_with fail
    refine (eqInt64S_same DM02 DM03 n0 n0 dm02 dm03 _ _ zs0 w9 OM02.out.reads OM03.out.reads (by omega)).mono ?_
    rintro e w10 ⟨rfl, B10⟩
    have hs10 := B10.size
    replace T := Lib.hid (T.out.trans (B10.mono T.out.size))
    replace OG1 := Lib.hid (OG1.out.below B10 (by omega))
    replace OM01 := Lib.hid (OM01.out.below B10 (by omega))
    replace OG2 := Lib.hid (OG2.out.below B10 (by omega))
    replace OM02 := Lib.hid (OM02.out.below B10 (by omega))
    replace OM03 := Lib.hid (OM03.out.below B10 (by omega))
    replace KB := Lib.hid (KB.out.below B10 (by omega))
    have hKBl := KB.out.lt
    replace KX := Lib.hid (KX.out.below B10 (by omega))
    have hKXl := KX.out.lt
    clear B10
    go_wp2
    go_ret
    exact ⟨rfl, T.out⟩
namespace fnExactArrivalOf
set_option maxRecDepth 100000 in
theorem lifted (os : Os) (started : os.Started) (H : Type) (enc : TypeId × Value → H) :
    ReturnsInHanded {} Try.checked os 4 .any (Rows.fnExactArrivalOfSpec.pre6 enc Try.prog Try.f4 Rows.fnExactArrivalOfRow.domain false) (Rows.fnExactArrivalOfSpec.post enc Try.prog Try.f4 false true false false) := by
  refine returnsInHanded_of_change (C := Try.checked) ownKnobNone started (by kernel_rfl) Try.func4
    (ChangeSpec.witness6 (enc := enc) (C := Try.checked) false ⟨#[], #[wit_grv, .slice none 0 0, .int .i64 0, .int .i64 0], []⟩ 8 (by kernel_rfl) (by kernel_rfl) (by kernel_rfl) (by kernel_rfl)) ?_
  intro W base args ds gs before hval0 hW hcnd _
  have hval : ∀ (j : Nat) t v, Try.f4.params[j]? = some t → args[j]? = some v → Value.okWide Try.prog W .any base t v := hval0
  have hW' := hW
  obtain ⟨p, q, hA0, hV, rfl, hfz, hnd⟩ := hW
  have hA : DataW.TrodAll enc Try.prog W 0 (fun _ => true) true Try.f4.params.toList args.toList ds p := hA0
  rw [Try.params4] at hA hval
  obtain ⟨v0, vs0, d0, ds0, p0, q0, hargs, rfl, rfl, h0, r0⟩ := trodAll_cons hA
  obtain ⟨v1, vs1, d1, ds1, p1, q1, rfl, rfl, rfl, h1, r1⟩ := trodAll_cons r0
  obtain ⟨v2, vs2, d2, ds2, p2, q2, rfl, rfl, rfl, h2, r2⟩ := trodAll_cons r1
  obtain ⟨v3, vs3, d3, ds3, p3, q3, rfl, rfl, rfl, h3, r3⟩ := trodAll_cons r2
  obtain ⟨rfl, rfl, rfl⟩ := trodAll_nil r3
  obtain rfl : args = #[v0, v1, v2, v3] := by cases args; simp_all
  obtain ⟨rfl, rfl⟩ := trodVars_none hV
  have k0 := h0
  have lt0 : ∀ x ∈ p0, x.block < W.heap.size := by obtain ⟨m, hm⟩ := k0; exact DataW.trod_lt m _ _ _ hm
  have k1 := h1
  have lt1 : ∀ x ∈ p1, x.block < W.heap.size := by obtain ⟨m, hm⟩ := k1; exact DataW.trod_lt m _ _ _ hm
  have k2 := h2
  have lt2 : ∀ x ∈ p2, x.block < W.heap.size := by obtain ⟨m, hm⟩ := k2; exact DataW.trod_lt m _ _ _ hm
  have k3 := h3
  have lt3 : ∀ x ∈ p3, x.block < W.heap.size := by obtain ⟨m, hm⟩ := k3; exact DataW.trod_lt m _ _ _ hm
  obtain ⟨x0, rfl, R0⟩ := open_grv (hval 0 36 v0 rfl rfl) h0
  obtain ⟨A1, n1, c1, z1, rfl, R1, -, -, wf1⟩ := open_i64s (hval 1 34 v1 rfl rfl) h1
  obtain ⟨a2, rfl, -, -, wf2⟩ := open_int Try.underlying2 (hval 2 2 v2 rfl rfl) h2
  obtain ⟨a3, rfl, -, -, wf3⟩ := open_int Try.underlying2 (hval 3 2 v3 rfl rfl) h3
  clear hA0 hval0
  refine (wArrivalOf W x0 R0 A1 n1 c1 z1 R1 wf1 a2 wf2 a3 wf3).mono fun e W' ⟨he, bel⟩ => ?_
  subst he
  exact ⟨_, rfl, _, _, _, [], _, [], hW', trodAll_mk1 (shut_bool Try.underlying4 _), (trodAll_cons_mk (Below.trod laidOut (by kernel_rfl) (of_decide_eq_true (by kernel_rfl)) k0 bel lt0) (trodAll_cons_mk (Below.trod laidOut (by kernel_rfl) (of_decide_eq_true (by kernel_rfl)) k1 bel lt1) (trodAll_cons_mk (Below.trod laidOut (by kernel_rfl) (of_decide_eq_true (by kernel_rfl)) k2 bel lt2) (trodAll_cons_mk (Below.trod laidOut (by kernel_rfl) (of_decide_eq_true (by kernel_rfl)) k3 bel lt3) trodAll_mk0)))), rfl, bel.frame _, fun h => by cases h⟩
theorem over : Rows.fnExactArrivalOfRow.holds Try.pinned (OpenSpec.ofChange Rows.fnExactArrivalOfSpec) :=
  OpenClaim.holds_of_wide 4 Try.f4 rfl rfl rfl rfl rfl rfl rfl ⟨rfl, rfl, rfl, rfl, rfl⟩ rfl rfl rfl rfl rfl (by kernel_rfl) Try.func4 (by kernel_rfl)
    (of_decide_eq_true (by kernel_rfl)) (by unfold Func.isWrapper; first | (rw [if_pos (by decide +kernel)]; kernel_rfl) | (rw [if_neg (by decide +kernel)]; exact ⟨rfl, rfl⟩))
    (fun os started H enc _ => lifted os started H enc)
theorem proved : Rows.FnExactArrivalOfSaid := over
end fnExactArrivalOf

end Go.Proofs.Ytihjlmlhipngmaa
