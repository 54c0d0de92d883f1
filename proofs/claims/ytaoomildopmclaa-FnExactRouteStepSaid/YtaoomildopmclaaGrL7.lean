/- Exact laws over grids: RouteStep. -/
import Derived.Test.YtaoomildopmclaaRoE
import Derived.Deep.RegionHeld3
namespace Go.Proofs.Ytaoomildopmclaa
open Go.ChangeShapes Go.WideShapes Go.ChangeAt Go.RowKit
set_option linter.unusedVariables false
theorem Blk.onlyB {w w' : World} {g lo hi : Nat} {T : TypeId} {cs : Array Value} (h : Blk w g T cs) (ho : Only lo hi w w') (hd : g < lo ∨ hi ≤ g) : Blk w' g T cs := (ho.block g h.lt hd).trans h

set_option maxHeartbeats 8000000 in
set_option maxRecDepth 100000 in
theorem wRouteStep (w : World) (x : Gr × Option Addr × Nat × Nat) (R : Reads w w.heap.size 1 x.2.1 x.2.2.1 (ints x.1.hs) ∧ x.2.2.1 ≤ x.2.2.2 ∧ x.2.2.1 ≤ 9223372036854775807) (A0 : Option Addr) (n0 c0 : Nat) (zs0 : List Int) (hz0 : Reads w w.heap.size 1 A0 n0 (ints zs0)) (_ : ∀ z ∈ zs0, (Lit.int .i64 z).wf = true) (a1 : Int) (_ : (Lit.int .i64 a1).wf = true) :
    Calls Try.prog 11 #[x.1.val x.2.1 x.2.2.1 x.2.2.2, .slice A0 n0 c0, .int .i64 a1] w fun e w' => e = .returned (.bool true) ∧ Below w.heap.size w w' := by
  obtain ⟨g, A, n, c⟩ := x
  obtain ⟨ha, hnc, hm⟩ := R
  simp only at ha hnc hm ⊢
  have hsz := fun W => szGrid_c g A n c 1048576 W (by omega) (by omega) hm
  obtain ⟨r, co, s, hs⟩ := g
  simp only [Gr.val, Gr.cells] at *
  by_cases h20 : 1048576 < n0
  · clear ha hsz hz0
    go_enter Try.func11, Try.ntmps11
    go_wp2
    go_ret
    exact ⟨rfl, by go_grown⟩
  by_cases h20 : 1048576 < n
  · rw [if_pos (by omega)] at hsz
    have HSZ := Lib.hid hsz
    clear ha hsz hz0
    go_enter Try.func11, Try.ntmps11
    go_wp2_with fail
    refine (HSZ.out _).mono ?_
    rintro e w0 ⟨rfl, B0⟩
    have HB := Lib.hid B0; clear B0
    go_wp2
    go_ret
    exact ⟨rfl, ((Below.refl _ _).alloc (Nat.le_refl _) _).trans (HB.out.mono (by simp))⟩
  · rw [if_neg (by omega)] at hsz
    have hpos : ¬ (1048576 - (n : Int) < 0) := by omega
    have RA := Lib.hid ha; clear ha
    have RZ0 := Lib.hid hz0; clear hz0
    have HSZ := Lib.hid hsz; clear hsz
    go_enter Try.func11, Try.ntmps11
    go_wp2_with fail
    refine (HSZ.out _).mono ?_
    rintro e w0 ⟨rfl, B0⟩
    have KB : Hid (Blk w0 w.heap.size 41 #[.int .i64 r, .int .i64 co, .int .i64 s, .slice A n c]) := Lib.hid ((Blk.new _ _ _).below B0 (by simp))
    have T : Hid (Below w.heap.size w w0) := Lib.hid (((Below.refl _ _).alloc (Nat.le_refl _) _).trans (B0.mono (by simp)))
    have hs0 : w.heap.size + 1 ≤ w0.heap.size := by have := B0.size; simpa using this
    have hKBl := KB.out.lt
    clear B0 HSZ
    have yKB0 : w0.cell? ⟨w.heap.size, 0, none⟩ = some (.int .i64 r) := KB.out.cell 0
    have yKB1 : w0.cell? ⟨w.heap.size, 1, none⟩ = some (.int .i64 co) := KB.out.cell 1
    have yKB2 : w0.cell? ⟨w.heap.size, 2, none⟩ = some (.int .i64 s) := KB.out.cell 2
    have yKB3 : w0.cell? ⟨w.heap.size, 3, none⟩ = some (.slice A n c) := KB.out.cell 3
    go_wp2_with fail
    refine (toGrid_c ⟨r, co, s, hs⟩ A n c _ w0 (RA.out.below T.out) (by have := T.out.size; omega) (by omega)).mono ?_
    rintro e w1 ⟨DG1, dg1, rfl, OG1, B1⟩
    simp only [Gr.val, Gr.cells]
    have hs1 := B1.size
    clear yKB0 yKB1 yKB2 yKB3
    replace T := Lib.hid (T.out.trans (B1.mono T.out.size))
    replace KB := Lib.hid (KB.out.below B1 (by omega))
    have hKBl := KB.out.lt
    replace OG1 := Lib.hid OG1
    clear B1
    go_wp2_with fail
    refine (toInt64S_own A0 n0 c0 _ zs0 w1 (RZ0.out.below T.out) (by have := T.out.size; omega) (by omega)).mono ?_
    rintro e w2 ⟨DM01, dm01, rfl, OM01, B2⟩
    have hs2 := B2.size
    replace T := Lib.hid (T.out.trans (B2.mono T.out.size))
    replace OG1 := Lib.hid (OG1.out.below B2 (by omega))
    replace KB := Lib.hid (KB.out.below B2 (by omega))
    have hKBl := KB.out.lt
    replace OM01 := Lib.hid OM01
    clear B2
    go_wp2_with fail
    refine (sRouteStep_c ⟨r, co, s, hs⟩ DG1 n dg1 _ DM01 n0 dm01 _ zs0 a1 w2 (.of_own OG1.out (by omega) (by omega)) OM01.out.reads (by omega) (by omega)).mono ?_
    rintro e w3 ⟨Aw0, nw0, cw0, Aw1, nw1, cw1, law, lbw, lcw, ldw, rfl, Ow0, Ow1, habw, hraw, hrbw, hrcw, hrdw, hnw0, hnw1, B3⟩
    have hs3 := B3.size
    replace T := Lib.hid (T.out.trans (B3.mono T.out.size))
    replace OG1 := Lib.hid (OG1.out.below B3 (by omega))
    replace OM01 := Lib.hid (OM01.out.below B3 (by omega))
    replace KB := Lib.hid (KB.out.below B3 (by omega))
    have hKBl := KB.out.lt
    replace Ow0 := Lib.hid Ow0
    replace Ow1 := Lib.hid Ow1
    clear B3
    have yKB0 : w3.cell? ⟨w.heap.size, 0, none⟩ = some (.int .i64 r) := KB.out.cell 0
    have yKB1 : w3.cell? ⟨w.heap.size, 1, none⟩ = some (.int .i64 co) := KB.out.cell 1
    have yKB2 : w3.cell? ⟨w.heap.size, 2, none⟩ = some (.int .i64 s) := KB.out.cell 2
    have yKB3 : w3.cell? ⟨w.heap.size, 3, none⟩ = some (.slice A n c) := KB.out.cell 3
    go_wp2_with fail
    refine (toGrid_c ⟨r, co, s, hs⟩ A n c _ w3 (RA.out.below T.out) (by have := T.out.size; omega) (by omega)).mono ?_
    rintro e w4 ⟨DG2, dg2, rfl, OG2, B4⟩
    simp only [Gr.val, Gr.cells]
    have hs4 := B4.size
    clear yKB0 yKB1 yKB2 yKB3
    replace T := Lib.hid (T.out.trans (B4.mono T.out.size))
    replace OG1 := Lib.hid (OG1.out.below B4 (by omega))
    replace OM01 := Lib.hid (OM01.out.below B4 (by omega))
    replace Ow0 := Lib.hid (Ow0.out.below B4 (by omega))
    replace Ow1 := Lib.hid (Ow1.out.below B4 (by omega))
    replace KB := Lib.hid (KB.out.below B4 (by omega))
    have hKBl := KB.out.lt
    replace OG2 := Lib.hid OG2
    clear B4
    obtain ⟨w5, hX5⟩ : ∃ X, X = w4.alloc (.cells #[.int .i64 r, .int .i64 co, .int .i64 s, .slice DG2 n dg2] 26) := ⟨_, rfl⟩
    have B5 : Below w4.heap.size w4 w5 := by rw [hX5]; exact (Below.refl _ _).alloc (Nat.le_refl _) _
    have KX : Hid (Blk w5 w4.heap.size 26 #[.int .i64 r, .int .i64 co, .int .i64 s, .slice DG2 n dg2]) := Lib.hid (by rw [hX5]; exact Blk.new _ _ _)
    have hs5 : w4.heap.size + 1 = w5.heap.size := by rw [hX5]; simp
    replace T := Lib.hid (T.out.trans (B5.mono T.out.size))
    replace OG1 := Lib.hid (OG1.out.below B5 (by omega))
    replace OM01 := Lib.hid (OM01.out.below B5 (by omega))
    replace Ow0 := Lib.hid (Ow0.out.below B5 (by omega))
    replace Ow1 := Lib.hid (Ow1.out.below B5 (by omega))
    replace OG2 := Lib.hid (OG2.out.below B5 (by omega))
    replace KB := Lib.hid (KB.out.below B5 (by omega))
    have hKBl := KB.out.lt
    have hKXl := KX.out.lt
    clear B5
    go_wp2_with fail
    rw [← hX5]
    clear hX5
    refine (toInt64S_own A0 n0 c0 _ zs0 w5 (RZ0.out.below T.out) (by have := T.out.size; omega) (by omega)).mono ?_
    rintro e w6 ⟨DM02, dm02, rfl, OM02, B6⟩
    have hs6 := B6.size
    replace T := Lib.hid (T.out.trans (B6.mono T.out.size))
    replace OG1 := Lib.hid (OG1.out.below B6 (by omega))
    replace OM01 := Lib.hid (OM01.out.below B6 (by omega))
    replace Ow0 := Lib.hid (Ow0.out.below B6 (by omega))
    replace Ow1 := Lib.hid (Ow1.out.below B6 (by omega))
    replace OG2 := Lib.hid (OG2.out.below B6 (by omega))
    replace KB := Lib.hid (KB.out.below B6 (by omega))
    have hKBl := KB.out.lt
    replace KX := Lib.hid (KX.out.below B6 (by omega))
    have hKXl := KX.out.lt
    replace OM02 := Lib.hid OM02
    clear B6
    have yKX0 : w6.cell? ⟨w4.heap.size, 0, none⟩ = some (.int .i64 r) := KX.out.cell 0
    have yKX1 : w6.cell? ⟨w4.heap.size, 1, none⟩ = some (.int .i64 co) := KX.out.cell 1
    have yKX2 : w6.cell? ⟨w4.heap.size, 2, none⟩ = some (.int .i64 s) := KX.out.cell 2
    have yKX3 : w6.cell? ⟨w4.heap.size, 3, none⟩ = some (.slice DG2 n dg2) := KX.out.cell 3
    go_wp2_with fail
    refine (iRouteStep_c ⟨r, co, s, hs⟩ DG2 n dg2 _ DM02 n0 dm02 _ zs0 a1 w6 (.of_own OG2.out (by omega) (by omega)) OM02.out.reads (by omega) (by omega)).mono ?_
    rintro e w7 ⟨Ag0, ng0, cg0, Ag1, ng1, cg1, lag, lbg, lcg, ldg, rfl, Og0, Og1, habg, hrag, hrbg, hrcg, hrdg, hng0, hng1, B7⟩
    have hs7 := B7.size
    clear yKX0 yKX1 yKX2 yKX3
    replace T := Lib.hid (T.out.trans (B7.mono T.out.size))
    replace OG1 := Lib.hid (OG1.out.below B7 (by omega))
    replace OM01 := Lib.hid (OM01.out.below B7 (by omega))
    replace Ow0 := Lib.hid (Ow0.out.below B7 (by omega))
    replace Ow1 := Lib.hid (Ow1.out.below B7 (by omega))
    replace OG2 := Lib.hid (OG2.out.below B7 (by omega))
    replace OM02 := Lib.hid (OM02.out.below B7 (by omega))
    replace KB := Lib.hid (KB.out.below B7 (by omega))
    have hKBl := KB.out.lt
    replace KX := Lib.hid (KX.out.below B7 (by omega))
    have hKXl := KX.out.lt
    replace Og0 := Lib.hid Og0
    replace Og1 := Lib.hid Og1
    clear B7
    go_wp2_with fail
    refine (eqInt64S_same Ag0 Aw0 ng0 nw0 cg0 cw0 _ _ _ w7 Og0.out.reads Ow0.out.reads (by omega)).mono ?_
    rintro e w8 ⟨rfl, B8⟩
    have hs8 := B8.size
    replace T := Lib.hid (T.out.trans (B8.mono T.out.size))
    replace OG1 := Lib.hid (OG1.out.below B8 (by omega))
    replace OM01 := Lib.hid (OM01.out.below B8 (by omega))
    replace Ow0 := Lib.hid (Ow0.out.below B8 (by omega))
    replace Ow1 := Lib.hid (Ow1.out.below B8 (by omega))
    replace OG2 := Lib.hid (OG2.out.below B8 (by omega))
    replace OM02 := Lib.hid (OM02.out.below B8 (by omega))
    replace Og0 := Lib.hid (Og0.out.below B8 (by omega))
    replace Og1 := Lib.hid (Og1.out.below B8 (by omega))
    replace KB := Lib.hid (KB.out.below B8 (by omega))
    have hKBl := KB.out.lt
    replace KX := Lib.hid (KX.out.below B8 (by omega))
    have hKXl := KX.out.lt
    clear B8
    go_wp2_with fail
    refine (eqInt64S_same Ag1 Aw1 ng1 nw1 cg1 cw1 _ _ _ w8 Og1.out.reads Ow1.out.reads (by omega)).mono ?_
    rintro e w9 ⟨rfl, B9⟩
    have hs9 := B9.size
    replace T := Lib.hid (T.out.trans (B9.mono T.out.size))
    replace OG1 := Lib.hid (OG1.out.below B9 (by omega))
    replace OM01 := Lib.hid (OM01.out.below B9 (by omega))
    replace Ow0 := Lib.hid (Ow0.out.below B9 (by omega))
    replace Ow1 := Lib.hid (Ow1.out.below B9 (by omega))
    replace OG2 := Lib.hid (OG2.out.below B9 (by omega))
    replace OM02 := Lib.hid (OM02.out.below B9 (by omega))
    replace Og0 := Lib.hid (Og0.out.below B9 (by omega))
    replace Og1 := Lib.hid (Og1.out.below B9 (by omega))
    replace KB := Lib.hid (KB.out.below B9 (by omega))
    have hKBl := KB.out.lt
    replace KX := Lib.hid (KX.out.below B9 (by omega))
    have hKXl := KX.out.lt
    clear B9
    have yKB0 : w9.cell? ⟨w.heap.size, 0, none⟩ = some (.int .i64 r) := KB.out.cell 0
    have yKB1 : w9.cell? ⟨w.heap.size, 1, none⟩ = some (.int .i64 co) := KB.out.cell 1
    have yKB2 : w9.cell? ⟨w.heap.size, 2, none⟩ = some (.int .i64 s) := KB.out.cell 2
    have yKB3 : w9.cell? ⟨w.heap.size, 3, none⟩ = some (.slice A n c) := KB.out.cell 3
    have yKX0 : w9.cell? ⟨w4.heap.size, 0, none⟩ = some (.int .i64 r) := KX.out.cell 0
    have yKX1 : w9.cell? ⟨w4.heap.size, 1, none⟩ = some (.int .i64 co) := KX.out.cell 1
    have yKX2 : w9.cell? ⟨w4.heap.size, 2, none⟩ = some (.int .i64 s) := KX.out.cell 2
    have yKX3 : w9.cell? ⟨w4.heap.size, 3, none⟩ = some (.slice DG2 n dg2) := KX.out.cell 3
    have HS : Hid (∀ W, Below w9.heap.size w9 W → (W.cell? ⟨w.heap.size, 0, none⟩ = some (.int .i64 r) ∧ W.cell? ⟨w.heap.size, 1, none⟩ = some (.int .i64 co) ∧ W.cell? ⟨w.heap.size, 2, none⟩ = some (.int .i64 s) ∧ W.cell? ⟨w.heap.size, 3, none⟩ = some (.slice A n c) ∧ W.cell? ⟨w4.heap.size, 0, none⟩ = some (.int .i64 r) ∧ W.cell? ⟨w4.heap.size, 1, none⟩ = some (.int .i64 co) ∧ W.cell? ⟨w4.heap.size, 2, none⟩ = some (.int .i64 s) ∧ W.cell? ⟨w4.heap.size, 3, none⟩ = some (.slice DG2 n dg2))) := Lib.hid fun W hW => by
      have z1 := KX.out.below hW (by omega)
      have z2 := KB.out.below hW (by omega)
      exact ⟨z2.cell 0, z2.cell 1, z2.cell 2, z2.cell 3, z1.cell 0, z1.cell 1, z1.cell 2, z1.cell 3⟩
    have hB := Below.refl w9.heap.size w9
    go_wp2
    go_region_held3 (fun w' => Below w9.heap.size w9 w' ∧ (w'.cell? ⟨w.heap.size, 0, none⟩ = some (.int .i64 r) ∧ w'.cell? ⟨w.heap.size, 1, none⟩ = some (.int .i64 co) ∧ w'.cell? ⟨w.heap.size, 2, none⟩ = some (.int .i64 s) ∧ w'.cell? ⟨w.heap.size, 3, none⟩ = some (.slice A n c) ∧ w'.cell? ⟨w4.heap.size, 0, none⟩ = some (.int .i64 r) ∧ w'.cell? ⟨w4.heap.size, 1, none⟩ = some (.int .i64 co) ∧ w'.cell? ⟨w4.heap.size, 2, none⟩ = some (.int .i64 s) ∧ w'.cell? ⟨w4.heap.size, 3, none⟩ = some (.slice DG2 n dg2))) (first | exact keepB HS.out (by assumption) (by first | assumption | exact And.left (by assumption)) | exact keepD HS.out (by assumption) | (go_keep; done)) (first | (go_at_call 25; refine (toGrid_c ⟨r, co, s, hs⟩ A n c _ _ (RA.out.below (T.out.trans (Below.mono (by first | assumption | exact And.left (by assumption)) T.out.size))) (Nat.le_trans T.out.size (Below.size (by first | assumption | exact And.left (by assumption)))) (by omega)).mono ?_; rintro e wq ⟨DQ, dq, rfl, OQ, hb⟩; simp only [Gr.val, Gr.cells]) | (go_at_call 27; refine (eqGrid_same ⟨r, co, s, hs⟩ DG2 DQ n n dg2 dq _ _ _ (OG2.out.reads.below (Below.mono (by first | assumption | exact And.left (by assumption)) (by omega))) OQ.reads (Nat.le_trans (by omega : _ ≤ w9.heap.size) (Below.size (by first | assumption | exact And.left (by assumption)))) (Nat.le_refl _) (by omega)).mono ?_; rintro e w10 ⟨rfl, hbe⟩))
    have B10 : Below w9.heap.size w9 w10 := And.left (by assumption)
    have hs10 := B10.size
    clear HS hB OQ hbe yKB0 yKB1 yKB2 yKB3 yKX0 yKX1 yKX2 yKX3
    replace T := Lib.hid (T.out.trans (B10.mono T.out.size))
    replace OG1 := Lib.hid (OG1.out.below B10 (by omega))
    replace OM01 := Lib.hid (OM01.out.below B10 (by omega))
    replace Ow0 := Lib.hid (Ow0.out.below B10 (by omega))
    replace Ow1 := Lib.hid (Ow1.out.below B10 (by omega))
    replace OG2 := Lib.hid (OG2.out.below B10 (by omega))
    replace OM02 := Lib.hid (OM02.out.below B10 (by omega))
    replace Og0 := Lib.hid (Og0.out.below B10 (by omega))
    replace Og1 := Lib.hid (Og1.out.below B10 (by omega))
    replace KB := Lib.hid (KB.out.below B10 (by omega))
    have hKBl := KB.out.lt
    replace KX := Lib.hid (KX.out.below B10 (by omega))
    have hKXl := KX.out.lt
    clear B10
    go_wp2_with fail
    refine (toInt64S_own A0 n0 c0 _ zs0 w10 (RZ0.out.below T.out) (by have := T.out.size; omega) (by omega)).mono ?_
    rintro e w11 ⟨DM03, dm03, rfl, OM03, B11⟩
    have hs11 := B11.size
    replace T := Lib.hid (T.out.trans (B11.mono T.out.size))
    replace OG1 := Lib.hid (OG1.out.below B11 (by omega))
    replace OM01 := Lib.hid (OM01.out.below B11 (by omega))
    replace Ow0 := Lib.hid (Ow0.out.below B11 (by omega))
    replace Ow1 := Lib.hid (Ow1.out.below B11 (by omega))
    replace OG2 := Lib.hid (OG2.out.below B11 (by omega))
    replace OM02 := Lib.hid (OM02.out.below B11 (by omega))
    replace Og0 := Lib.hid (Og0.out.below B11 (by omega))
    replace Og1 := Lib.hid (Og1.out.below B11 (by omega))
    replace KB := Lib.hid (KB.out.below B11 (by omega))
    have hKBl := KB.out.lt
    replace KX := Lib.hid (KX.out.below B11 (by omega))
    have hKXl := KX.out.lt
    replace OM03 := Lib.hid OM03
    clear B11
    go_wp2_with fail
    refine (eqInt64S_same DM02 DM03 n0 n0 dm02 dm03 _ _ zs0 w11 OM02.out.reads OM03.out.reads (by omega)).mono ?_
    rintro e w12 ⟨rfl, B12⟩
    have hs12 := B12.size
    replace T := Lib.hid (T.out.trans (B12.mono T.out.size))
    replace OG1 := Lib.hid (OG1.out.below B12 (by omega))
    replace OM01 := Lib.hid (OM01.out.below B12 (by omega))
    replace Ow0 := Lib.hid (Ow0.out.below B12 (by omega))
    replace Ow1 := Lib.hid (Ow1.out.below B12 (by omega))
    replace OG2 := Lib.hid (OG2.out.below B12 (by omega))
    replace OM02 := Lib.hid (OM02.out.below B12 (by omega))
    replace Og0 := Lib.hid (Og0.out.below B12 (by omega))
    replace Og1 := Lib.hid (Og1.out.below B12 (by omega))
    replace OM03 := Lib.hid (OM03.out.below B12 (by omega))
    replace KB := Lib.hid (KB.out.below B12 (by omega))
    have hKBl := KB.out.lt
    replace KX := Lib.hid (KX.out.below B12 (by omega))
    have hKXl := KX.out.lt
    clear B12
    have yKX0 : w12.cell? ⟨w4.heap.size, 0, none⟩ = some (.int .i64 r) := KX.out.cell 0
    have yKX1 : w12.cell? ⟨w4.heap.size, 1, none⟩ = some (.int .i64 co) := KX.out.cell 1
    have yKX2 : w12.cell? ⟨w4.heap.size, 2, none⟩ = some (.int .i64 s) := KX.out.cell 2
    have yKX3 : w12.cell? ⟨w4.heap.size, 3, none⟩ = some (.slice DG2 n dg2) := KX.out.cell 3
    go_wp2_with fail
    refine (markGrid_c ⟨r, co, s, hs⟩ DG2 n dg2 _ _ _ 1 w12 OG2.out (by omega) (by omega) (by omega) (by omega)).mono ?_
    rintro e w13 ⟨rfl, OG2', Y13⟩
    have hs13 := Y13.size
    clear yKX0 yKX1 yKX2 yKX3
    replace T := Lib.hid (T.out.trans (Y13.below (by omega) (by omega)))
    replace OG1 := Lib.hid (OG1.out.only Y13 (by omega))
    replace OM01 := Lib.hid (OM01.out.only Y13 (by omega))
    replace Ow0 := Lib.hid (Ow0.out.only Y13 (by omega))
    replace Ow1 := Lib.hid (Ow1.out.only Y13 (by omega))
    replace OM02 := Lib.hid (OM02.out.only Y13 (by omega))
    replace Og0 := Lib.hid (Og0.out.only Y13 (by omega))
    replace Og1 := Lib.hid (Og1.out.only Y13 (by omega))
    replace OM03 := Lib.hid (OM03.out.only Y13 (by omega))
    replace KB := Lib.hid (KB.out.onlyB Y13 (by omega))
    have hKBl := KB.out.lt
    replace KX := Lib.hid (KX.out.onlyB Y13 (by omega))
    have hKXl := KX.out.lt
    clear OG2; have OG2 := Lib.hid OG2'; clear OG2' Y13
    go_wp2_with fail
    refine (markInt64S_c DM02 n0 dm02 _ _ _ (1 + n) w13 OM02.out (by omega) (by omega) (by omega)).mono ?_
    rintro e w14 ⟨rfl, OM02', Y14⟩
    have hs14 := Y14.size
    replace T := Lib.hid (T.out.trans (Y14.below (by omega) (by omega)))
    replace OG1 := Lib.hid (OG1.out.only Y14 (by omega))
    replace OM01 := Lib.hid (OM01.out.only Y14 (by omega))
    replace Ow0 := Lib.hid (Ow0.out.only Y14 (by omega))
    replace Ow1 := Lib.hid (Ow1.out.only Y14 (by omega))
    replace OG2 := Lib.hid (OG2.out.only Y14 (by omega))
    replace Og0 := Lib.hid (Og0.out.only Y14 (by omega))
    replace Og1 := Lib.hid (Og1.out.only Y14 (by omega))
    replace OM03 := Lib.hid (OM03.out.only Y14 (by omega))
    replace KB := Lib.hid (KB.out.onlyB Y14 (by omega))
    have hKBl := KB.out.lt
    replace KX := Lib.hid (KX.out.onlyB Y14 (by omega))
    have hKXl := KX.out.lt
    clear OM02; have OM02 := Lib.hid OM02'; clear OM02' Y14
    go_wp2_with fail
    refine (eqInt64S_same Ag0 Aw0 ng0 nw0 cg0 cw0 _ _ _ w14 Og0.out.reads Ow0.out.reads (by omega)).mono ?_
    rintro e w15 ⟨rfl, B15⟩
    have hs15 := B15.size
    replace T := Lib.hid (T.out.trans (B15.mono T.out.size))
    replace OG1 := Lib.hid (OG1.out.below B15 (by omega))
    replace OM01 := Lib.hid (OM01.out.below B15 (by omega))
    replace Ow0 := Lib.hid (Ow0.out.below B15 (by omega))
    replace Ow1 := Lib.hid (Ow1.out.below B15 (by omega))
    replace OG2 := Lib.hid (OG2.out.below B15 (by omega))
    replace OM02 := Lib.hid (OM02.out.below B15 (by omega))
    replace Og0 := Lib.hid (Og0.out.below B15 (by omega))
    replace Og1 := Lib.hid (Og1.out.below B15 (by omega))
    replace OM03 := Lib.hid (OM03.out.below B15 (by omega))
    replace KB := Lib.hid (KB.out.below B15 (by omega))
    have hKBl := KB.out.lt
    replace KX := Lib.hid (KX.out.below B15 (by omega))
    have hKXl := KX.out.lt
    clear B15
    go_wp2_with fail
    refine (eqInt64S_same Ag1 Aw1 ng1 nw1 cg1 cw1 _ _ _ w15 Og1.out.reads Ow1.out.reads (by omega)).mono ?_
    rintro e w16 ⟨rfl, B16⟩
    have hs16 := B16.size
    replace T := Lib.hid (T.out.trans (B16.mono T.out.size))
    replace OG1 := Lib.hid (OG1.out.below B16 (by omega))
    replace OM01 := Lib.hid (OM01.out.below B16 (by omega))
    replace Ow0 := Lib.hid (Ow0.out.below B16 (by omega))
    replace Ow1 := Lib.hid (Ow1.out.below B16 (by omega))
    replace OG2 := Lib.hid (OG2.out.below B16 (by omega))
    replace OM02 := Lib.hid (OM02.out.below B16 (by omega))
    replace Og0 := Lib.hid (Og0.out.below B16 (by omega))
    replace Og1 := Lib.hid (Og1.out.below B16 (by omega))
    replace OM03 := Lib.hid (OM03.out.below B16 (by omega))
    replace KB := Lib.hid (KB.out.below B16 (by omega))
    have hKBl := KB.out.lt
    replace KX := Lib.hid (KX.out.below B16 (by omega))
    have hKXl := KX.out.lt
    clear B16
    go_wp2_with fail
    refine (markInt64S_c Ag0 ng0 cg0 _ _ _ 1 w16 Og0.out (by omega) (by omega) (by omega)).mono ?_
    rintro e w17 ⟨rfl, Og0', Y17⟩
    have hs17 := Y17.size
    replace T := Lib.hid (T.out.trans (Y17.below (by omega) (by omega)))
    replace OG1 := Lib.hid (OG1.out.only Y17 (by omega))
    replace OM01 := Lib.hid (OM01.out.only Y17 (by omega))
    replace Ow0 := Lib.hid (Ow0.out.only Y17 (by omega))
    replace Ow1 := Lib.hid (Ow1.out.only Y17 (by omega))
    replace OG2 := Lib.hid (OG2.out.only Y17 (by omega))
    replace OM02 := Lib.hid (OM02.out.only Y17 (by omega))
    replace Og1 := Lib.hid (Og1.out.only Y17 (by omega))
    replace OM03 := Lib.hid (OM03.out.only Y17 (by omega))
    replace KB := Lib.hid (KB.out.onlyB Y17 (by omega))
    have hKBl := KB.out.lt
    replace KX := Lib.hid (KX.out.onlyB Y17 (by omega))
    have hKXl := KX.out.lt
    clear Og0; have Og0 := Lib.hid Og0'; clear Og0' Y17
    go_wp2_with fail
    refine (markInt64S_c Ag1 ng1 cg1 _ _ _ (1 + ng0) w17 Og1.out (by omega) (by omega) (by omega)).mono ?_
    rintro e w18 ⟨rfl, Og1', Y18⟩
    have hs18 := Y18.size
    replace T := Lib.hid (T.out.trans (Y18.below (by omega) (by omega)))
    replace OG1 := Lib.hid (OG1.out.only Y18 (by omega))
    replace OM01 := Lib.hid (OM01.out.only Y18 (by omega))
    replace Ow0 := Lib.hid (Ow0.out.only Y18 (by omega))
    replace Ow1 := Lib.hid (Ow1.out.only Y18 (by omega))
    replace OG2 := Lib.hid (OG2.out.only Y18 (by omega))
    replace OM02 := Lib.hid (OM02.out.only Y18 (by omega))
    replace Og0 := Lib.hid (Og0.out.only Y18 (by omega))
    replace OM03 := Lib.hid (OM03.out.only Y18 (by omega))
    replace KB := Lib.hid (KB.out.onlyB Y18 (by omega))
    have hKBl := KB.out.lt
    replace KX := Lib.hid (KX.out.onlyB Y18 (by omega))
    have hKXl := KX.out.lt
    clear Og1; have Og1 := Lib.hid Og1'; clear Og1' Y18
    go_wp2_with fail
    refine (heldInt64S_c Ag0 ng0 cg0 _ 1 w18 Og0.out.reads (by omega) (by omega) (by omega)).mono ?_
    rintro e w19 ⟨rfl, B19⟩
    have hs19 := B19.size
    replace T := Lib.hid (T.out.trans (B19.mono T.out.size))
    replace OG1 := Lib.hid (OG1.out.below B19 (by omega))
    replace OM01 := Lib.hid (OM01.out.below B19 (by omega))
    replace Ow0 := Lib.hid (Ow0.out.below B19 (by omega))
    replace Ow1 := Lib.hid (Ow1.out.below B19 (by omega))
    replace OG2 := Lib.hid (OG2.out.below B19 (by omega))
    replace OM02 := Lib.hid (OM02.out.below B19 (by omega))
    replace Og0 := Lib.hid (Og0.out.below B19 (by omega))
    replace Og1 := Lib.hid (Og1.out.below B19 (by omega))
    replace OM03 := Lib.hid (OM03.out.below B19 (by omega))
    replace KB := Lib.hid (KB.out.below B19 (by omega))
    have hKBl := KB.out.lt
    replace KX := Lib.hid (KX.out.below B19 (by omega))
    have hKXl := KX.out.lt
    clear B19
    go_wp2_with fail
    refine (heldInt64S_c Ag1 ng1 cg1 _ (1 + ng0) w19 Og1.out.reads (by omega) (by omega) (by omega)).mono ?_
    rintro e w20 ⟨rfl, B20⟩
    have hs20 := B20.size
    replace T := Lib.hid (T.out.trans (B20.mono T.out.size))
    replace OG1 := Lib.hid (OG1.out.below B20 (by omega))
    replace OM01 := Lib.hid (OM01.out.below B20 (by omega))
    replace Ow0 := Lib.hid (Ow0.out.below B20 (by omega))
    replace Ow1 := Lib.hid (Ow1.out.below B20 (by omega))
    replace OG2 := Lib.hid (OG2.out.below B20 (by omega))
    replace OM02 := Lib.hid (OM02.out.below B20 (by omega))
    replace Og0 := Lib.hid (Og0.out.below B20 (by omega))
    replace Og1 := Lib.hid (Og1.out.below B20 (by omega))
    replace OM03 := Lib.hid (OM03.out.below B20 (by omega))
    replace KB := Lib.hid (KB.out.below B20 (by omega))
    have hKBl := KB.out.lt
    replace KX := Lib.hid (KX.out.below B20 (by omega))
    have hKXl := KX.out.lt
    clear B20
    have yKB0 : w20.cell? ⟨w.heap.size, 0, none⟩ = some (.int .i64 r) := KB.out.cell 0
    have yKB1 : w20.cell? ⟨w.heap.size, 1, none⟩ = some (.int .i64 co) := KB.out.cell 1
    have yKB2 : w20.cell? ⟨w.heap.size, 2, none⟩ = some (.int .i64 s) := KB.out.cell 2
    have yKB3 : w20.cell? ⟨w.heap.size, 3, none⟩ = some (.slice A n c) := KB.out.cell 3
    go_wp2_with fail
    refine (toGrid_c ⟨r, co, s, hs⟩ A n c _ w20 (RA.out.below T.out) (by have := T.out.size; omega) (by omega)).mono ?_
    rintro e w21 ⟨DG4, dg4, rfl, OG4, B21⟩
    simp only [Gr.val, Gr.cells]
    have hs21 := B21.size
    clear yKB0 yKB1 yKB2 yKB3
    replace T := Lib.hid (T.out.trans (B21.mono T.out.size))
    replace OG1 := Lib.hid (OG1.out.below B21 (by omega))
    replace OM01 := Lib.hid (OM01.out.below B21 (by omega))
    replace Ow0 := Lib.hid (Ow0.out.below B21 (by omega))
    replace Ow1 := Lib.hid (Ow1.out.below B21 (by omega))
    replace OG2 := Lib.hid (OG2.out.below B21 (by omega))
    replace OM02 := Lib.hid (OM02.out.below B21 (by omega))
    replace Og0 := Lib.hid (Og0.out.below B21 (by omega))
    replace Og1 := Lib.hid (Og1.out.below B21 (by omega))
    replace OM03 := Lib.hid (OM03.out.below B21 (by omega))
    replace KB := Lib.hid (KB.out.below B21 (by omega))
    have hKBl := KB.out.lt
    replace KX := Lib.hid (KX.out.below B21 (by omega))
    have hKXl := KX.out.lt
    replace OG4 := Lib.hid OG4
    clear B21
    go_wp2_with fail
    refine (toInt64S_own A0 n0 c0 _ zs0 w21 (RZ0.out.below T.out) (by have := T.out.size; omega) (by omega)).mono ?_
    rintro e w22 ⟨DM04, dm04, rfl, OM04, B22⟩
    have hs22 := B22.size
    replace T := Lib.hid (T.out.trans (B22.mono T.out.size))
    replace OG1 := Lib.hid (OG1.out.below B22 (by omega))
    replace OM01 := Lib.hid (OM01.out.below B22 (by omega))
    replace Ow0 := Lib.hid (Ow0.out.below B22 (by omega))
    replace Ow1 := Lib.hid (Ow1.out.below B22 (by omega))
    replace OG2 := Lib.hid (OG2.out.below B22 (by omega))
    replace OM02 := Lib.hid (OM02.out.below B22 (by omega))
    replace Og0 := Lib.hid (Og0.out.below B22 (by omega))
    replace Og1 := Lib.hid (Og1.out.below B22 (by omega))
    replace OM03 := Lib.hid (OM03.out.below B22 (by omega))
    replace OG4 := Lib.hid (OG4.out.below B22 (by omega))
    replace KB := Lib.hid (KB.out.below B22 (by omega))
    have hKBl := KB.out.lt
    replace KX := Lib.hid (KX.out.below B22 (by omega))
    have hKXl := KX.out.lt
    replace OM04 := Lib.hid OM04
    clear B22
    go_wp2_with fail
    refine (iRouteStep_c ⟨r, co, s, hs⟩ DG4 n dg4 _ DM04 n0 dm04 _ zs0 a1 w22 (.of_own OG4.out (by omega) (by omega)) OM04.out.reads (by omega) (by omega)).mono ?_
    rintro e w23 ⟨Ah0, nh0, ch0, Ah1, nh1, ch1, lah, lbh, lch, ldh, rfl, Oh0, Oh1, habh, hrah, hrbh, hrch, hrdh, hnh0, hnh1, B23⟩
    have hs23 := B23.size
    replace T := Lib.hid (T.out.trans (B23.mono T.out.size))
    replace OG1 := Lib.hid (OG1.out.below B23 (by omega))
    replace OM01 := Lib.hid (OM01.out.below B23 (by omega))
    replace Ow0 := Lib.hid (Ow0.out.below B23 (by omega))
    replace Ow1 := Lib.hid (Ow1.out.below B23 (by omega))
    replace OG2 := Lib.hid (OG2.out.below B23 (by omega))
    replace OM02 := Lib.hid (OM02.out.below B23 (by omega))
    replace Og0 := Lib.hid (Og0.out.below B23 (by omega))
    replace Og1 := Lib.hid (Og1.out.below B23 (by omega))
    replace OM03 := Lib.hid (OM03.out.below B23 (by omega))
    replace OG4 := Lib.hid (OG4.out.below B23 (by omega))
    replace OM04 := Lib.hid (OM04.out.below B23 (by omega))
    replace KB := Lib.hid (KB.out.below B23 (by omega))
    have hKBl := KB.out.lt
    replace KX := Lib.hid (KX.out.below B23 (by omega))
    have hKXl := KX.out.lt
    replace Oh0 := Lib.hid Oh0
    replace Oh1 := Lib.hid Oh1
    clear B23
    go_wp2_with fail
    refine (eqInt64S_same Ah0 Aw0 nh0 nw0 ch0 cw0 _ _ _ w23 Oh0.out.reads Ow0.out.reads (by omega)).mono ?_
    rintro e w24 ⟨rfl, B24⟩
    have hs24 := B24.size
    replace T := Lib.hid (T.out.trans (B24.mono T.out.size))
    replace OG1 := Lib.hid (OG1.out.below B24 (by omega))
    replace OM01 := Lib.hid (OM01.out.below B24 (by omega))
    replace Ow0 := Lib.hid (Ow0.out.below B24 (by omega))
    replace Ow1 := Lib.hid (Ow1.out.below B24 (by omega))
    replace OG2 := Lib.hid (OG2.out.below B24 (by omega))
    replace OM02 := Lib.hid (OM02.out.below B24 (by omega))
    replace Og0 := Lib.hid (Og0.out.below B24 (by omega))
    replace Og1 := Lib.hid (Og1.out.below B24 (by omega))
    replace OM03 := Lib.hid (OM03.out.below B24 (by omega))
    replace OG4 := Lib.hid (OG4.out.below B24 (by omega))
    replace OM04 := Lib.hid (OM04.out.below B24 (by omega))
    replace Oh0 := Lib.hid (Oh0.out.below B24 (by omega))
    replace Oh1 := Lib.hid (Oh1.out.below B24 (by omega))
    replace KB := Lib.hid (KB.out.below B24 (by omega))
    have hKBl := KB.out.lt
    replace KX := Lib.hid (KX.out.below B24 (by omega))
    have hKXl := KX.out.lt
    clear B24
    go_wp2_with fail
    refine (eqInt64S_same Ah1 Aw1 nh1 nw1 ch1 cw1 _ _ _ w24 Oh1.out.reads Ow1.out.reads (by omega)).mono ?_
    rintro e w25 ⟨rfl, B25⟩
    have hs25 := B25.size
    replace T := Lib.hid (T.out.trans (B25.mono T.out.size))
    replace OG1 := Lib.hid (OG1.out.below B25 (by omega))
    replace OM01 := Lib.hid (OM01.out.below B25 (by omega))
    replace Ow0 := Lib.hid (Ow0.out.below B25 (by omega))
    replace Ow1 := Lib.hid (Ow1.out.below B25 (by omega))
    replace OG2 := Lib.hid (OG2.out.below B25 (by omega))
    replace OM02 := Lib.hid (OM02.out.below B25 (by omega))
    replace Og0 := Lib.hid (Og0.out.below B25 (by omega))
    replace Og1 := Lib.hid (Og1.out.below B25 (by omega))
    replace OM03 := Lib.hid (OM03.out.below B25 (by omega))
    replace OG4 := Lib.hid (OG4.out.below B25 (by omega))
    replace OM04 := Lib.hid (OM04.out.below B25 (by omega))
    replace Oh0 := Lib.hid (Oh0.out.below B25 (by omega))
    replace Oh1 := Lib.hid (Oh1.out.below B25 (by omega))
    replace KB := Lib.hid (KB.out.below B25 (by omega))
    have hKBl := KB.out.lt
    replace KX := Lib.hid (KX.out.below B25 (by omega))
    have hKXl := KX.out.lt
    clear B25
    go_wp2_with fail
    refine (heldInt64S_c Ag0 ng0 cg0 _ 1 w25 Og0.out.reads (by omega) (by omega) (by omega)).mono ?_
    rintro e w26 ⟨rfl, B26⟩
    have hs26 := B26.size
    replace T := Lib.hid (T.out.trans (B26.mono T.out.size))
    replace OG1 := Lib.hid (OG1.out.below B26 (by omega))
    replace OM01 := Lib.hid (OM01.out.below B26 (by omega))
    replace Ow0 := Lib.hid (Ow0.out.below B26 (by omega))
    replace Ow1 := Lib.hid (Ow1.out.below B26 (by omega))
    replace OG2 := Lib.hid (OG2.out.below B26 (by omega))
    replace OM02 := Lib.hid (OM02.out.below B26 (by omega))
    replace Og0 := Lib.hid (Og0.out.below B26 (by omega))
    replace Og1 := Lib.hid (Og1.out.below B26 (by omega))
    replace OM03 := Lib.hid (OM03.out.below B26 (by omega))
    replace OG4 := Lib.hid (OG4.out.below B26 (by omega))
    replace OM04 := Lib.hid (OM04.out.below B26 (by omega))
    replace Oh0 := Lib.hid (Oh0.out.below B26 (by omega))
    replace Oh1 := Lib.hid (Oh1.out.below B26 (by omega))
    replace KB := Lib.hid (KB.out.below B26 (by omega))
    have hKBl := KB.out.lt
    replace KX := Lib.hid (KX.out.below B26 (by omega))
    have hKXl := KX.out.lt
    clear B26
    go_wp2_with fail
    refine (heldInt64S_c Ag1 ng1 cg1 _ (1 + ng0) w26 Og1.out.reads (by omega) (by omega) (by omega)).mono ?_
    rintro e w27 ⟨rfl, B27⟩
    have hs27 := B27.size
    replace T := Lib.hid (T.out.trans (B27.mono T.out.size))
    replace OG1 := Lib.hid (OG1.out.below B27 (by omega))
    replace OM01 := Lib.hid (OM01.out.below B27 (by omega))
    replace Ow0 := Lib.hid (Ow0.out.below B27 (by omega))
    replace Ow1 := Lib.hid (Ow1.out.below B27 (by omega))
    replace OG2 := Lib.hid (OG2.out.below B27 (by omega))
    replace OM02 := Lib.hid (OM02.out.below B27 (by omega))
    replace Og0 := Lib.hid (Og0.out.below B27 (by omega))
    replace Og1 := Lib.hid (Og1.out.below B27 (by omega))
    replace OM03 := Lib.hid (OM03.out.below B27 (by omega))
    replace OG4 := Lib.hid (OG4.out.below B27 (by omega))
    replace OM04 := Lib.hid (OM04.out.below B27 (by omega))
    replace Oh0 := Lib.hid (Oh0.out.below B27 (by omega))
    replace Oh1 := Lib.hid (Oh1.out.below B27 (by omega))
    replace KB := Lib.hid (KB.out.below B27 (by omega))
    have hKBl := KB.out.lt
    replace KX := Lib.hid (KX.out.below B27 (by omega))
    have hKXl := KX.out.lt
    clear B27
    go_wp2
    go_ret
    exact ⟨rfl, T.out⟩
namespace fnExactRouteStep
set_option maxRecDepth 100000 in
theorem lifted (os : Os) (started : os.Started) (H : Type) (enc : TypeId × Value → H) :
    ReturnsInHanded {} Try.checked os 11 .any (Rows.fnExactRouteStepSpec.pre6 enc Try.prog Try.f11 Rows.fnExactRouteStepRow.domain false) (Rows.fnExactRouteStepSpec.post enc Try.prog Try.f11 false true false false) := by
  refine returnsInHanded_of_change (C := Try.checked) ownKnobNone started (by kernel_rfl) Try.func11
    (ChangeSpec.witness6 (enc := enc) (C := Try.checked) false ⟨#[], #[wit_grv, .slice none 0 0, .int .i64 0], []⟩ 8 (by kernel_rfl) (by kernel_rfl) (by kernel_rfl) (by kernel_rfl)) ?_
  intro W base args ds gs before hval0 hW hcnd _
  have hval : ∀ (j : Nat) t v, Try.f11.params[j]? = some t → args[j]? = some v → Value.okWide Try.prog W .any base t v := hval0
  have hW' := hW
  obtain ⟨p, q, hA0, hV, rfl, hfz, hnd⟩ := hW
  have hA : DataW.TrodAll enc Try.prog W 0 (fun _ => true) true Try.f11.params.toList args.toList ds p := hA0
  rw [Try.params11] at hA hval
  obtain ⟨v0, vs0, d0, ds0, p0, q0, hargs, rfl, rfl, h0, r0⟩ := trodAll_cons hA
  obtain ⟨v1, vs1, d1, ds1, p1, q1, rfl, rfl, rfl, h1, r1⟩ := trodAll_cons r0
  obtain ⟨v2, vs2, d2, ds2, p2, q2, rfl, rfl, rfl, h2, r2⟩ := trodAll_cons r1
  obtain ⟨rfl, rfl, rfl⟩ := trodAll_nil r2
  obtain rfl : args = #[v0, v1, v2] := by cases args; simp_all
  obtain ⟨rfl, rfl⟩ := trodVars_none hV
  have k0 := h0
  have lt0 : ∀ x ∈ p0, x.block < W.heap.size := by obtain ⟨m, hm⟩ := k0; exact DataW.trod_lt m _ _ _ hm
  have k1 := h1
  have lt1 : ∀ x ∈ p1, x.block < W.heap.size := by obtain ⟨m, hm⟩ := k1; exact DataW.trod_lt m _ _ _ hm
  have k2 := h2
  have lt2 : ∀ x ∈ p2, x.block < W.heap.size := by obtain ⟨m, hm⟩ := k2; exact DataW.trod_lt m _ _ _ hm
  obtain ⟨x0, rfl, R0⟩ := open_grv (hval 0 41 v0 rfl rfl) h0
  obtain ⟨A1, n1, c1, z1, rfl, R1, -, -, wf1⟩ := open_i64s (hval 1 24 v1 rfl rfl) h1
  obtain ⟨a2, rfl, -, -, wf2⟩ := open_int Try.underlying2 (hval 2 2 v2 rfl rfl) h2
  clear hA0 hval0
  refine (wRouteStep W x0 R0 A1 n1 c1 z1 R1 wf1 a2 wf2).mono fun e W' ⟨he, bel⟩ => ?_
  subst he
  exact ⟨_, rfl, _, _, _, [], _, [], hW', trodAll_mk1 (shut_bool Try.underlying4 _), (trodAll_cons_mk (Below.trod laidOut (by kernel_rfl) (of_decide_eq_true (by kernel_rfl)) k0 bel lt0) (trodAll_cons_mk (Below.trod laidOut (by kernel_rfl) (of_decide_eq_true (by kernel_rfl)) k1 bel lt1) (trodAll_cons_mk (Below.trod laidOut (by kernel_rfl) (of_decide_eq_true (by kernel_rfl)) k2 bel lt2) trodAll_mk0))), rfl, bel.frame _, fun h => by cases h⟩
theorem over : Rows.fnExactRouteStepRow.holds Try.pinned (OpenSpec.ofChange Rows.fnExactRouteStepSpec) :=
  OpenClaim.holds_of_wide 11 Try.f11 rfl rfl rfl rfl rfl rfl rfl ⟨rfl, rfl, rfl, rfl, rfl⟩ rfl rfl rfl rfl rfl (by kernel_rfl) Try.func11 (by kernel_rfl)
    (of_decide_eq_true (by kernel_rfl)) (by unfold Func.isWrapper; first | (rw [if_pos (by decide +kernel)]; kernel_rfl) | (rw [if_neg (by decide +kernel)]; exact ⟨rfl, rfl⟩))
    (fun os started H enc _ => lifted os started H enc)
theorem proved : Rows.FnExactRouteStepSaid := over
end fnExactRouteStep

end Go.Proofs.Ytaoomildopmclaa
