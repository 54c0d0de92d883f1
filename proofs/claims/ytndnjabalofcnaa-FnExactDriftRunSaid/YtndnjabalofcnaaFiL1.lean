/- Exact laws over fields: DriftRun, DriftStep. -/
import Derived.Test.YtndnjabalofcnaaFiF
import Derived.Deep.RegionHeld3
namespace Go.Proofs.Ytndnjabalofcnaa
open Go.ChangeShapes Go.WideShapes Go.ChangeAt Go.RowKit
set_option linter.unusedVariables false
theorem Blk.onlyB {w w' : World} {g lo hi : Nat} {T : TypeId} {cs : Array Value} (h : Blk w g T cs) (ho : Only lo hi w w') (hd : g < lo ∨ hi ≤ g) : Blk w' g T cs := (ho.block g h.lt hd).trans h

set_option maxHeartbeats 8000000 in
theorem wDriftRun (w : World) (x : Fi × Option Addr × Nat × Nat) (R : Reads w w.heap.size 1 x.2.1 x.2.2.1 (ints x.1.hs) ∧ x.2.2.1 ≤ x.2.2.2 ∧ x.2.2.1 ≤ 9223372036854775807) (A0 : Option Addr) (n0 c0 : Nat) (zs0 : List Int) (hz0 : Reads w w.heap.size 1 A0 n0 (ints zs0)) (_ : ∀ z ∈ zs0, (Lit.int .i64 z).wf = true) (a1 : Int) (_ : (Lit.int .i64 a1).wf = true) :
    Calls Try.prog 6 #[x.1.val x.2.1 x.2.2.1 x.2.2.2, .slice A0 n0 c0, .int .i64 a1] w fun e w' => e = .returned (.bool true) ∧ Below w.heap.size w w' := by
  obtain ⟨g, A, n, c⟩ := x
  obtain ⟨ha, hnc, hm⟩ := R
  simp only at ha hnc hm ⊢
  have hsz := fun W => szField_c g A n c 1048576 W (by omega) (by omega) hm
  obtain ⟨r, co, hs⟩ := g
  simp only [Fi.val, Fi.cells] at *
  by_cases h20 : 1048576 < n0
  · clear ha hsz hz0
    go_enter Try.func6, Try.ntmps6
    go_wp2
    go_ret
    exact ⟨rfl, by go_grown⟩
  by_cases h20 : 1048576 < n
  · rw [if_pos (by omega)] at hsz
    have HSZ := Lib.hid hsz
    clear ha hsz hz0
    go_enter Try.func6, Try.ntmps6
    go_wp2_with fail
    refine (HSZ.out _).mono ?_
    rintro e w0 ⟨rfl, B0⟩
    have HB := Lib.hid B0; clear B0
    go_wp2
    go_ret
    exact ⟨rfl, ((Below.refl _ _).alloc (Nat.le_refl _) _).trans (HB.out.mono (by simp))⟩
  · rw [if_neg (by omega)] at hsz
    have hpos : ¬ (1048576 - (n : Int) < 0) := by omega
    have RA := Lib.hid ha; clear ha
    have RZ0 := Lib.hid hz0; clear hz0
    have HSZ := Lib.hid hsz; clear hsz
    go_enter Try.func6, Try.ntmps6
    go_wp2_with fail
    refine (HSZ.out _).mono ?_
    rintro e w0 ⟨rfl, B0⟩
    have KB : Hid (Blk w0 w.heap.size 24 #[.int .i64 r, .int .i64 co, .slice A n c]) := Lib.hid ((Blk.new _ _ _).below B0 (by simp))
    have T : Hid (Below w.heap.size w w0) := Lib.hid (((Below.refl _ _).alloc (Nat.le_refl _) _).trans (B0.mono (by simp)))
    have hs0 : w.heap.size + 1 ≤ w0.heap.size := by have := B0.size; simpa using this
    have hKBl := KB.out.lt
    clear B0 HSZ
    have yKB0 : w0.cell? ⟨w.heap.size, 0, none⟩ = some (.int .i64 r) := KB.out.cell 0
    have yKB1 : w0.cell? ⟨w.heap.size, 1, none⟩ = some (.int .i64 co) := KB.out.cell 1
    have yKB2 : w0.cell? ⟨w.heap.size, 2, none⟩ = some (.slice A n c) := KB.out.cell 2
    go_wp2_with fail
    refine (toField_c ⟨r, co, hs⟩ A n c _ w0 (RA.out.below T.out) (by have := T.out.size; omega) (by omega)).mono ?_
    rintro e w1 ⟨DG1, dg1, rfl, OG1, B1⟩
    simp only [Fi.val, Fi.cells]
    have hs1 := B1.size
    clear yKB0 yKB1 yKB2
    replace T := Lib.hid (T.out.trans (B1.mono T.out.size))
    replace KB := Lib.hid (KB.out.below B1 (by omega))
    have hKBl := KB.out.lt
    replace OG1 := Lib.hid OG1
    clear B1
    go_wp2_with fail
    refine (toInt64S_own A0 n0 c0 _ zs0 w1 (RZ0.out.below T.out) (by have := T.out.size; omega) (by omega)).mono ?_
    rintro e w2 ⟨DM01, dm01, rfl, OM01, B2⟩
    have hs2 := B2.size
    replace T := Lib.hid (T.out.trans (B2.mono T.out.size))
    replace OG1 := Lib.hid (OG1.out.below B2 (by omega))
    replace KB := Lib.hid (KB.out.below B2 (by omega))
    have hKBl := KB.out.lt
    replace OM01 := Lib.hid OM01
    clear B2
    go_wp2_with fail
    refine (sDriftRun_c ⟨r, co, hs⟩ DG1 n dg1 _ DM01 n0 dm01 _ zs0 a1 w2 (.of_own OG1.out (by omega) (by omega)) OM01.out.reads (by omega) (by omega)).mono ?_
    rintro e w3 ⟨Aw0, nw0, cw0, rfl, Ow0, hnw0, B3⟩
    simp only [Fi.val, Fi.cells]
    have hs3 := B3.size
    replace T := Lib.hid (T.out.trans (B3.mono T.out.size))
    replace OG1 := Lib.hid (OG1.out.below B3 (by omega))
    replace OM01 := Lib.hid (OM01.out.below B3 (by omega))
    replace KB := Lib.hid (KB.out.below B3 (by omega))
    have hKBl := KB.out.lt
    replace Ow0 := Lib.hid Ow0
    clear B3
    obtain ⟨w4, hX4⟩ : ∃ X, X = w3.alloc (.cells #[.int .i64 (driftV ⟨r, co, hs⟩ zs0 a1).1.rows, .int .i64 (driftV ⟨r, co, hs⟩ zs0 a1).1.cols, .slice Aw0 nw0 cw0] 26) := ⟨_, rfl⟩
    have B4 : Below w3.heap.size w3 w4 := by rw [hX4]; exact (Below.refl _ _).alloc (Nat.le_refl _) _
    have Kw : Hid (Blk w4 w3.heap.size 26 #[.int .i64 (driftV ⟨r, co, hs⟩ zs0 a1).1.rows, .int .i64 (driftV ⟨r, co, hs⟩ zs0 a1).1.cols, .slice Aw0 nw0 cw0]) := Lib.hid (by rw [hX4]; exact Blk.new _ _ _)
    have hs4 : w3.heap.size + 1 = w4.heap.size := by rw [hX4]; simp
    replace T := Lib.hid (T.out.trans (B4.mono T.out.size))
    replace OG1 := Lib.hid (OG1.out.below B4 (by omega))
    replace OM01 := Lib.hid (OM01.out.below B4 (by omega))
    replace Ow0 := Lib.hid (Ow0.out.below B4 (by omega))
    replace KB := Lib.hid (KB.out.below B4 (by omega))
    have hKBl := KB.out.lt
    have hKwl := Kw.out.lt
    clear B4
    go_upto_region 8 with (fail)
    rw [← hX4]
    clear hX4
    have yKB0 : w4.cell? ⟨w.heap.size, 0, none⟩ = some (.int .i64 r) := KB.out.cell 0
    have yKB1 : w4.cell? ⟨w.heap.size, 1, none⟩ = some (.int .i64 co) := KB.out.cell 1
    have yKB2 : w4.cell? ⟨w.heap.size, 2, none⟩ = some (.slice A n c) := KB.out.cell 2
    go_wp2_with fail
    refine (toField_c ⟨r, co, hs⟩ A n c _ w4 (RA.out.below T.out) (by have := T.out.size; omega) (by omega)).mono ?_
    rintro e w5 ⟨DG2, dg2, rfl, OG2, B5⟩
    simp only [Fi.val, Fi.cells]
    have hs5 := B5.size
    clear yKB0 yKB1 yKB2
    replace T := Lib.hid (T.out.trans (B5.mono T.out.size))
    replace OG1 := Lib.hid (OG1.out.below B5 (by omega))
    replace OM01 := Lib.hid (OM01.out.below B5 (by omega))
    replace Ow0 := Lib.hid (Ow0.out.below B5 (by omega))
    replace KB := Lib.hid (KB.out.below B5 (by omega))
    have hKBl := KB.out.lt
    replace Kw := Lib.hid (Kw.out.below B5 (by omega))
    have hKwl := Kw.out.lt
    replace OG2 := Lib.hid OG2
    clear B5
    obtain ⟨w6, hX6⟩ : ∃ X, X = w5.alloc (.cells #[.int .i64 r, .int .i64 co, .slice DG2 n dg2] 26) := ⟨_, rfl⟩
    have B6 : Below w5.heap.size w5 w6 := by rw [hX6]; exact (Below.refl _ _).alloc (Nat.le_refl _) _
    have KX : Hid (Blk w6 w5.heap.size 26 #[.int .i64 r, .int .i64 co, .slice DG2 n dg2]) := Lib.hid (by rw [hX6]; exact Blk.new _ _ _)
    have hs6 : w5.heap.size + 1 = w6.heap.size := by rw [hX6]; simp
    replace T := Lib.hid (T.out.trans (B6.mono T.out.size))
    replace OG1 := Lib.hid (OG1.out.below B6 (by omega))
    replace OM01 := Lib.hid (OM01.out.below B6 (by omega))
    replace Ow0 := Lib.hid (Ow0.out.below B6 (by omega))
    replace OG2 := Lib.hid (OG2.out.below B6 (by omega))
    replace KB := Lib.hid (KB.out.below B6 (by omega))
    have hKBl := KB.out.lt
    replace Kw := Lib.hid (Kw.out.below B6 (by omega))
    have hKwl := Kw.out.lt
    have hKXl := KX.out.lt
    clear B6
    go_wp2_with fail
    rw [← hX6]
    clear hX6
    refine (toInt64S_own A0 n0 c0 _ zs0 w6 (RZ0.out.below T.out) (by have := T.out.size; omega) (by omega)).mono ?_
    rintro e w7 ⟨DM02, dm02, rfl, OM02, B7⟩
    have hs7 := B7.size
    replace T := Lib.hid (T.out.trans (B7.mono T.out.size))
    replace OG1 := Lib.hid (OG1.out.below B7 (by omega))
    replace OM01 := Lib.hid (OM01.out.below B7 (by omega))
    replace Ow0 := Lib.hid (Ow0.out.below B7 (by omega))
    replace OG2 := Lib.hid (OG2.out.below B7 (by omega))
    replace KB := Lib.hid (KB.out.below B7 (by omega))
    have hKBl := KB.out.lt
    replace Kw := Lib.hid (Kw.out.below B7 (by omega))
    have hKwl := Kw.out.lt
    replace KX := Lib.hid (KX.out.below B7 (by omega))
    have hKXl := KX.out.lt
    replace OM02 := Lib.hid OM02
    clear B7
    have yKX0 : w7.cell? ⟨w5.heap.size, 0, none⟩ = some (.int .i64 r) := KX.out.cell 0
    have yKX1 : w7.cell? ⟨w5.heap.size, 1, none⟩ = some (.int .i64 co) := KX.out.cell 1
    have yKX2 : w7.cell? ⟨w5.heap.size, 2, none⟩ = some (.slice DG2 n dg2) := KX.out.cell 2
    go_wp2_with fail
    refine (iDriftRun_c ⟨r, co, hs⟩ DG2 n dg2 _ DM02 n0 dm02 _ zs0 a1 w7 (.of_own OG2.out (by omega) (by omega)) OM02.out.reads (by omega) (by omega)).mono ?_
    rintro e w8 ⟨Ag0, ng0, cg0, rfl, Og0, hng0, B8⟩
    simp only [Fi.val, Fi.cells]
    have hs8 := B8.size
    clear yKX0 yKX1 yKX2
    replace T := Lib.hid (T.out.trans (B8.mono T.out.size))
    replace OG1 := Lib.hid (OG1.out.below B8 (by omega))
    replace OM01 := Lib.hid (OM01.out.below B8 (by omega))
    replace Ow0 := Lib.hid (Ow0.out.below B8 (by omega))
    replace OG2 := Lib.hid (OG2.out.below B8 (by omega))
    replace OM02 := Lib.hid (OM02.out.below B8 (by omega))
    replace KB := Lib.hid (KB.out.below B8 (by omega))
    have hKBl := KB.out.lt
    replace Kw := Lib.hid (Kw.out.below B8 (by omega))
    have hKwl := Kw.out.lt
    replace KX := Lib.hid (KX.out.below B8 (by omega))
    have hKXl := KX.out.lt
    replace Og0 := Lib.hid Og0
    clear B8
    obtain ⟨w9, hX9⟩ : ∃ X, X = w8.alloc (.cells #[.int .i64 (driftV ⟨r, co, hs⟩ zs0 a1).1.rows, .int .i64 (driftV ⟨r, co, hs⟩ zs0 a1).1.cols, .slice Ag0 ng0 cg0] 26) := ⟨_, rfl⟩
    have B9 : Below w8.heap.size w8 w9 := by rw [hX9]; exact (Below.refl _ _).alloc (Nat.le_refl _) _
    have Kg : Hid (Blk w9 w8.heap.size 26 #[.int .i64 (driftV ⟨r, co, hs⟩ zs0 a1).1.rows, .int .i64 (driftV ⟨r, co, hs⟩ zs0 a1).1.cols, .slice Ag0 ng0 cg0]) := Lib.hid (by rw [hX9]; exact Blk.new _ _ _)
    have hs9 : w8.heap.size + 1 = w9.heap.size := by rw [hX9]; simp
    replace T := Lib.hid (T.out.trans (B9.mono T.out.size))
    replace OG1 := Lib.hid (OG1.out.below B9 (by omega))
    replace OM01 := Lib.hid (OM01.out.below B9 (by omega))
    replace Ow0 := Lib.hid (Ow0.out.below B9 (by omega))
    replace OG2 := Lib.hid (OG2.out.below B9 (by omega))
    replace OM02 := Lib.hid (OM02.out.below B9 (by omega))
    replace Og0 := Lib.hid (Og0.out.below B9 (by omega))
    replace KB := Lib.hid (KB.out.below B9 (by omega))
    have hKBl := KB.out.lt
    replace Kw := Lib.hid (Kw.out.below B9 (by omega))
    have hKwl := Kw.out.lt
    replace KX := Lib.hid (KX.out.below B9 (by omega))
    have hKXl := KX.out.lt
    have hKgl := Kg.out.lt
    clear B9
    go_upto_region 11 with (fail)
    rw [← hX9]
    clear hX9
    have yKw0 : w9.cell? ⟨w3.heap.size, 0, none⟩ = some (.int .i64 (driftV ⟨r, co, hs⟩ zs0 a1).1.rows) := Kw.out.cell 0
    have yKw1 : w9.cell? ⟨w3.heap.size, 1, none⟩ = some (.int .i64 (driftV ⟨r, co, hs⟩ zs0 a1).1.cols) := Kw.out.cell 1
    have yKw2 : w9.cell? ⟨w3.heap.size, 2, none⟩ = some (.slice Aw0 nw0 cw0) := Kw.out.cell 2
    have yKg0 : w9.cell? ⟨w8.heap.size, 0, none⟩ = some (.int .i64 (driftV ⟨r, co, hs⟩ zs0 a1).1.rows) := Kg.out.cell 0
    have yKg1 : w9.cell? ⟨w8.heap.size, 1, none⟩ = some (.int .i64 (driftV ⟨r, co, hs⟩ zs0 a1).1.cols) := Kg.out.cell 1
    have yKg2 : w9.cell? ⟨w8.heap.size, 2, none⟩ = some (.slice Ag0 ng0 cg0) := Kg.out.cell 2
    go_wp2_with fail
    refine (eqField_same (driftV ⟨r, co, hs⟩ zs0 a1).1 Ag0 Aw0 ng0 nw0 cg0 cw0 _ _ w9 Og0.out.reads Ow0.out.reads (by omega) (by omega) (by omega)).mono ?_
    rintro e w10 ⟨rfl, B10⟩
    have hs10 := B10.size
    clear yKw0 yKw1 yKw2 yKg0 yKg1 yKg2
    replace T := Lib.hid (T.out.trans (B10.mono T.out.size))
    replace OG1 := Lib.hid (OG1.out.below B10 (by omega))
    replace OM01 := Lib.hid (OM01.out.below B10 (by omega))
    replace Ow0 := Lib.hid (Ow0.out.below B10 (by omega))
    replace OG2 := Lib.hid (OG2.out.below B10 (by omega))
    replace OM02 := Lib.hid (OM02.out.below B10 (by omega))
    replace Og0 := Lib.hid (Og0.out.below B10 (by omega))
    replace KB := Lib.hid (KB.out.below B10 (by omega))
    have hKBl := KB.out.lt
    replace Kw := Lib.hid (Kw.out.below B10 (by omega))
    have hKwl := Kw.out.lt
    replace KX := Lib.hid (KX.out.below B10 (by omega))
    have hKXl := KX.out.lt
    replace Kg := Lib.hid (Kg.out.below B10 (by omega))
    have hKgl := Kg.out.lt
    clear B10
    have yKB0 : w10.cell? ⟨w.heap.size, 0, none⟩ = some (.int .i64 r) := KB.out.cell 0
    have yKB1 : w10.cell? ⟨w.heap.size, 1, none⟩ = some (.int .i64 co) := KB.out.cell 1
    have yKB2 : w10.cell? ⟨w.heap.size, 2, none⟩ = some (.slice A n c) := KB.out.cell 2
    have yKX0 : w10.cell? ⟨w5.heap.size, 0, none⟩ = some (.int .i64 r) := KX.out.cell 0
    have yKX1 : w10.cell? ⟨w5.heap.size, 1, none⟩ = some (.int .i64 co) := KX.out.cell 1
    have yKX2 : w10.cell? ⟨w5.heap.size, 2, none⟩ = some (.slice DG2 n dg2) := KX.out.cell 2
    have HS : Hid (∀ W, Below w10.heap.size w10 W → (W.cell? ⟨w.heap.size, 0, none⟩ = some (.int .i64 r) ∧ W.cell? ⟨w.heap.size, 1, none⟩ = some (.int .i64 co) ∧ W.cell? ⟨w.heap.size, 2, none⟩ = some (.slice A n c) ∧ W.cell? ⟨w5.heap.size, 0, none⟩ = some (.int .i64 r) ∧ W.cell? ⟨w5.heap.size, 1, none⟩ = some (.int .i64 co) ∧ W.cell? ⟨w5.heap.size, 2, none⟩ = some (.slice DG2 n dg2))) := Lib.hid fun W hW => by
      have z1 := KX.out.below hW (by omega)
      have z2 := KB.out.below hW (by omega)
      exact ⟨z2.cell 0, z2.cell 1, z2.cell 2, z1.cell 0, z1.cell 1, z1.cell 2⟩
    have hB := Below.refl w10.heap.size w10
    go_wp2
    go_region_held3 (fun w' => Below w10.heap.size w10 w' ∧ (w'.cell? ⟨w.heap.size, 0, none⟩ = some (.int .i64 r) ∧ w'.cell? ⟨w.heap.size, 1, none⟩ = some (.int .i64 co) ∧ w'.cell? ⟨w.heap.size, 2, none⟩ = some (.slice A n c) ∧ w'.cell? ⟨w5.heap.size, 0, none⟩ = some (.int .i64 r) ∧ w'.cell? ⟨w5.heap.size, 1, none⟩ = some (.int .i64 co) ∧ w'.cell? ⟨w5.heap.size, 2, none⟩ = some (.slice DG2 n dg2))) (first | exact keepB HS.out (by assumption) (by first | assumption | exact And.left (by assumption)) | exact keepD HS.out (by assumption) | (go_keep; done)) (first | (go_at_call 12; refine (toField_c ⟨r, co, hs⟩ A n c _ _ (RA.out.below (T.out.trans (Below.mono (by first | assumption | exact And.left (by assumption)) T.out.size))) (Nat.le_trans T.out.size (Below.size (by first | assumption | exact And.left (by assumption)))) (by omega)).mono ?_; rintro e wq ⟨DQ, dq, rfl, OQ, hb⟩; simp only [Fi.val, Fi.cells]) | (go_at_call 14; refine (eqField_same ⟨r, co, hs⟩ DG2 DQ n n dg2 dq _ _ _ (OG2.out.reads.below (Below.mono (by first | assumption | exact And.left (by assumption)) (by omega))) OQ.reads (Nat.le_trans (by omega : _ ≤ w10.heap.size) (Below.size (by first | assumption | exact And.left (by assumption)))) (Nat.le_refl _) (by omega)).mono ?_; rintro e w11 ⟨rfl, hbe⟩))
    have B11 : Below w10.heap.size w10 w11 := And.left (by assumption)
    have hs11 := B11.size
    clear HS hB OQ hbe yKB0 yKB1 yKB2 yKX0 yKX1 yKX2
    replace T := Lib.hid (T.out.trans (B11.mono T.out.size))
    replace OG1 := Lib.hid (OG1.out.below B11 (by omega))
    replace OM01 := Lib.hid (OM01.out.below B11 (by omega))
    replace Ow0 := Lib.hid (Ow0.out.below B11 (by omega))
    replace OG2 := Lib.hid (OG2.out.below B11 (by omega))
    replace OM02 := Lib.hid (OM02.out.below B11 (by omega))
    replace Og0 := Lib.hid (Og0.out.below B11 (by omega))
    replace KB := Lib.hid (KB.out.below B11 (by omega))
    have hKBl := KB.out.lt
    replace Kw := Lib.hid (Kw.out.below B11 (by omega))
    have hKwl := Kw.out.lt
    replace KX := Lib.hid (KX.out.below B11 (by omega))
    have hKXl := KX.out.lt
    replace Kg := Lib.hid (Kg.out.below B11 (by omega))
    have hKgl := Kg.out.lt
    clear B11
    go_wp2_with fail
    refine (toInt64S_own A0 n0 c0 _ zs0 w11 (RZ0.out.below T.out) (by have := T.out.size; omega) (by omega)).mono ?_
    rintro e w12 ⟨DM03, dm03, rfl, OM03, B12⟩
    have hs12 := B12.size
    replace T := Lib.hid (T.out.trans (B12.mono T.out.size))
    replace OG1 := Lib.hid (OG1.out.below B12 (by omega))
    replace OM01 := Lib.hid (OM01.out.below B12 (by omega))
    replace Ow0 := Lib.hid (Ow0.out.below B12 (by omega))
    replace OG2 := Lib.hid (OG2.out.below B12 (by omega))
    replace OM02 := Lib.hid (OM02.out.below B12 (by omega))
    replace Og0 := Lib.hid (Og0.out.below B12 (by omega))
    replace KB := Lib.hid (KB.out.below B12 (by omega))
    have hKBl := KB.out.lt
    replace Kw := Lib.hid (Kw.out.below B12 (by omega))
    have hKwl := Kw.out.lt
    replace KX := Lib.hid (KX.out.below B12 (by omega))
    have hKXl := KX.out.lt
    replace Kg := Lib.hid (Kg.out.below B12 (by omega))
    have hKgl := Kg.out.lt
    replace OM03 := Lib.hid OM03
    clear B12
    go_wp2_with fail
    refine (eqInt64S_same DM02 DM03 n0 n0 dm02 dm03 _ _ zs0 w12 OM02.out.reads OM03.out.reads (by omega)).mono ?_
    rintro e w13 ⟨rfl, B13⟩
    have hs13 := B13.size
    replace T := Lib.hid (T.out.trans (B13.mono T.out.size))
    replace OG1 := Lib.hid (OG1.out.below B13 (by omega))
    replace OM01 := Lib.hid (OM01.out.below B13 (by omega))
    replace Ow0 := Lib.hid (Ow0.out.below B13 (by omega))
    replace OG2 := Lib.hid (OG2.out.below B13 (by omega))
    replace OM02 := Lib.hid (OM02.out.below B13 (by omega))
    replace Og0 := Lib.hid (Og0.out.below B13 (by omega))
    replace OM03 := Lib.hid (OM03.out.below B13 (by omega))
    replace KB := Lib.hid (KB.out.below B13 (by omega))
    have hKBl := KB.out.lt
    replace Kw := Lib.hid (Kw.out.below B13 (by omega))
    have hKwl := Kw.out.lt
    replace KX := Lib.hid (KX.out.below B13 (by omega))
    have hKXl := KX.out.lt
    replace Kg := Lib.hid (Kg.out.below B13 (by omega))
    have hKgl := Kg.out.lt
    clear B13
    have yKX0 : w13.cell? ⟨w5.heap.size, 0, none⟩ = some (.int .i64 r) := KX.out.cell 0
    have yKX1 : w13.cell? ⟨w5.heap.size, 1, none⟩ = some (.int .i64 co) := KX.out.cell 1
    have yKX2 : w13.cell? ⟨w5.heap.size, 2, none⟩ = some (.slice DG2 n dg2) := KX.out.cell 2
    go_wp2_with fail
    refine (markField_c ⟨r, co, hs⟩ DG2 n dg2 _ _ _ 1 w13 OG2.out (by omega) (by omega) (by omega) (by omega)).mono ?_
    rintro e w14 ⟨rfl, OG2', Y14⟩
    have hs14 := Y14.size
    clear yKX0 yKX1 yKX2
    replace T := Lib.hid (T.out.trans (Y14.below (by omega) (by omega)))
    replace OG1 := Lib.hid (OG1.out.only Y14 (by omega))
    replace OM01 := Lib.hid (OM01.out.only Y14 (by omega))
    replace Ow0 := Lib.hid (Ow0.out.only Y14 (by omega))
    replace OM02 := Lib.hid (OM02.out.only Y14 (by omega))
    replace Og0 := Lib.hid (Og0.out.only Y14 (by omega))
    replace OM03 := Lib.hid (OM03.out.only Y14 (by omega))
    replace KB := Lib.hid (KB.out.onlyB Y14 (by omega))
    have hKBl := KB.out.lt
    replace Kw := Lib.hid (Kw.out.onlyB Y14 (by omega))
    have hKwl := Kw.out.lt
    replace KX := Lib.hid (KX.out.onlyB Y14 (by omega))
    have hKXl := KX.out.lt
    replace Kg := Lib.hid (Kg.out.onlyB Y14 (by omega))
    have hKgl := Kg.out.lt
    clear OG2; have OG2 := Lib.hid OG2'; clear OG2' Y14
    go_wp2_with fail
    refine (markInt64S_c DM02 n0 dm02 _ _ _ (1 + n) w14 OM02.out (by omega) (by omega) (by omega)).mono ?_
    rintro e w15 ⟨rfl, OM02', Y15⟩
    have hs15 := Y15.size
    replace T := Lib.hid (T.out.trans (Y15.below (by omega) (by omega)))
    replace OG1 := Lib.hid (OG1.out.only Y15 (by omega))
    replace OM01 := Lib.hid (OM01.out.only Y15 (by omega))
    replace Ow0 := Lib.hid (Ow0.out.only Y15 (by omega))
    replace OG2 := Lib.hid (OG2.out.only Y15 (by omega))
    replace Og0 := Lib.hid (Og0.out.only Y15 (by omega))
    replace OM03 := Lib.hid (OM03.out.only Y15 (by omega))
    replace KB := Lib.hid (KB.out.onlyB Y15 (by omega))
    have hKBl := KB.out.lt
    replace Kw := Lib.hid (Kw.out.onlyB Y15 (by omega))
    have hKwl := Kw.out.lt
    replace KX := Lib.hid (KX.out.onlyB Y15 (by omega))
    have hKXl := KX.out.lt
    replace Kg := Lib.hid (Kg.out.onlyB Y15 (by omega))
    have hKgl := Kg.out.lt
    clear OM02; have OM02 := Lib.hid OM02'; clear OM02' Y15
    have yKw0 : w15.cell? ⟨w3.heap.size, 0, none⟩ = some (.int .i64 (driftV ⟨r, co, hs⟩ zs0 a1).1.rows) := Kw.out.cell 0
    have yKw1 : w15.cell? ⟨w3.heap.size, 1, none⟩ = some (.int .i64 (driftV ⟨r, co, hs⟩ zs0 a1).1.cols) := Kw.out.cell 1
    have yKw2 : w15.cell? ⟨w3.heap.size, 2, none⟩ = some (.slice Aw0 nw0 cw0) := Kw.out.cell 2
    have yKg0 : w15.cell? ⟨w8.heap.size, 0, none⟩ = some (.int .i64 (driftV ⟨r, co, hs⟩ zs0 a1).1.rows) := Kg.out.cell 0
    have yKg1 : w15.cell? ⟨w8.heap.size, 1, none⟩ = some (.int .i64 (driftV ⟨r, co, hs⟩ zs0 a1).1.cols) := Kg.out.cell 1
    have yKg2 : w15.cell? ⟨w8.heap.size, 2, none⟩ = some (.slice Ag0 ng0 cg0) := Kg.out.cell 2
    go_wp2_with fail
    refine (eqField_same (driftV ⟨r, co, hs⟩ zs0 a1).1 Ag0 Aw0 ng0 nw0 cg0 cw0 _ _ w15 Og0.out.reads Ow0.out.reads (by omega) (by omega) (by omega)).mono ?_
    rintro e w16 ⟨rfl, B16⟩
    have hs16 := B16.size
    clear yKw0 yKw1 yKw2 yKg0 yKg1 yKg2
    replace T := Lib.hid (T.out.trans (B16.mono T.out.size))
    replace OG1 := Lib.hid (OG1.out.below B16 (by omega))
    replace OM01 := Lib.hid (OM01.out.below B16 (by omega))
    replace Ow0 := Lib.hid (Ow0.out.below B16 (by omega))
    replace OG2 := Lib.hid (OG2.out.below B16 (by omega))
    replace OM02 := Lib.hid (OM02.out.below B16 (by omega))
    replace Og0 := Lib.hid (Og0.out.below B16 (by omega))
    replace OM03 := Lib.hid (OM03.out.below B16 (by omega))
    replace KB := Lib.hid (KB.out.below B16 (by omega))
    have hKBl := KB.out.lt
    replace Kw := Lib.hid (Kw.out.below B16 (by omega))
    have hKwl := Kw.out.lt
    replace KX := Lib.hid (KX.out.below B16 (by omega))
    have hKXl := KX.out.lt
    replace Kg := Lib.hid (Kg.out.below B16 (by omega))
    have hKgl := Kg.out.lt
    clear B16
    have yKg0 : w16.cell? ⟨w8.heap.size, 0, none⟩ = some (.int .i64 (driftV ⟨r, co, hs⟩ zs0 a1).1.rows) := Kg.out.cell 0
    have yKg1 : w16.cell? ⟨w8.heap.size, 1, none⟩ = some (.int .i64 (driftV ⟨r, co, hs⟩ zs0 a1).1.cols) := Kg.out.cell 1
    have yKg2 : w16.cell? ⟨w8.heap.size, 2, none⟩ = some (.slice Ag0 ng0 cg0) := Kg.out.cell 2
    go_wp2_with fail
    refine (markField_c (driftV ⟨r, co, hs⟩ zs0 a1).1 Ag0 ng0 cg0 _ _ _ 1 w16 Og0.out (by omega) (by omega) (by omega) (by omega)).mono ?_
    rintro e w17 ⟨rfl, Og0', Y17⟩
    have hs17 := Y17.size
    clear yKg0 yKg1 yKg2
    replace T := Lib.hid (T.out.trans (Y17.below (by omega) (by omega)))
    replace OG1 := Lib.hid (OG1.out.only Y17 (by omega))
    replace OM01 := Lib.hid (OM01.out.only Y17 (by omega))
    replace Ow0 := Lib.hid (Ow0.out.only Y17 (by omega))
    replace OG2 := Lib.hid (OG2.out.only Y17 (by omega))
    replace OM02 := Lib.hid (OM02.out.only Y17 (by omega))
    replace OM03 := Lib.hid (OM03.out.only Y17 (by omega))
    replace KB := Lib.hid (KB.out.onlyB Y17 (by omega))
    have hKBl := KB.out.lt
    replace Kw := Lib.hid (Kw.out.onlyB Y17 (by omega))
    have hKwl := Kw.out.lt
    replace KX := Lib.hid (KX.out.onlyB Y17 (by omega))
    have hKXl := KX.out.lt
    replace Kg := Lib.hid (Kg.out.onlyB Y17 (by omega))
    have hKgl := Kg.out.lt
    clear Og0; have Og0 := Lib.hid Og0'; clear Og0' Y17
    have yKg0 : w17.cell? ⟨w8.heap.size, 0, none⟩ = some (.int .i64 (driftV ⟨r, co, hs⟩ zs0 a1).1.rows) := Kg.out.cell 0
    have yKg1 : w17.cell? ⟨w8.heap.size, 1, none⟩ = some (.int .i64 (driftV ⟨r, co, hs⟩ zs0 a1).1.cols) := Kg.out.cell 1
    have yKg2 : w17.cell? ⟨w8.heap.size, 2, none⟩ = some (.slice Ag0 ng0 cg0) := Kg.out.cell 2
    go_wp2_with fail
    refine (heldField_c (driftV ⟨r, co, hs⟩ zs0 a1).1 Ag0 ng0 cg0 _ 1 w17 Og0.out.reads (by omega) (by omega) (by omega) (by omega)).mono ?_
    rintro e w18 ⟨rfl, B18⟩
    have hs18 := B18.size
    clear yKg0 yKg1 yKg2
    replace T := Lib.hid (T.out.trans (B18.mono T.out.size))
    replace OG1 := Lib.hid (OG1.out.below B18 (by omega))
    replace OM01 := Lib.hid (OM01.out.below B18 (by omega))
    replace Ow0 := Lib.hid (Ow0.out.below B18 (by omega))
    replace OG2 := Lib.hid (OG2.out.below B18 (by omega))
    replace OM02 := Lib.hid (OM02.out.below B18 (by omega))
    replace Og0 := Lib.hid (Og0.out.below B18 (by omega))
    replace OM03 := Lib.hid (OM03.out.below B18 (by omega))
    replace KB := Lib.hid (KB.out.below B18 (by omega))
    have hKBl := KB.out.lt
    replace Kw := Lib.hid (Kw.out.below B18 (by omega))
    have hKwl := Kw.out.lt
    replace KX := Lib.hid (KX.out.below B18 (by omega))
    have hKXl := KX.out.lt
    replace Kg := Lib.hid (Kg.out.below B18 (by omega))
    have hKgl := Kg.out.lt
    clear B18
    have yKB0 : w18.cell? ⟨w.heap.size, 0, none⟩ = some (.int .i64 r) := KB.out.cell 0
    have yKB1 : w18.cell? ⟨w.heap.size, 1, none⟩ = some (.int .i64 co) := KB.out.cell 1
    have yKB2 : w18.cell? ⟨w.heap.size, 2, none⟩ = some (.slice A n c) := KB.out.cell 2
    go_wp2_with fail
    refine (toField_c ⟨r, co, hs⟩ A n c _ w18 (RA.out.below T.out) (by have := T.out.size; omega) (by omega)).mono ?_
    rintro e w19 ⟨DG4, dg4, rfl, OG4, B19⟩
    simp only [Fi.val, Fi.cells]
    have hs19 := B19.size
    clear yKB0 yKB1 yKB2
    replace T := Lib.hid (T.out.trans (B19.mono T.out.size))
    replace OG1 := Lib.hid (OG1.out.below B19 (by omega))
    replace OM01 := Lib.hid (OM01.out.below B19 (by omega))
    replace Ow0 := Lib.hid (Ow0.out.below B19 (by omega))
    replace OG2 := Lib.hid (OG2.out.below B19 (by omega))
    replace OM02 := Lib.hid (OM02.out.below B19 (by omega))
    replace Og0 := Lib.hid (Og0.out.below B19 (by omega))
    replace OM03 := Lib.hid (OM03.out.below B19 (by omega))
    replace KB := Lib.hid (KB.out.below B19 (by omega))
    have hKBl := KB.out.lt
    replace Kw := Lib.hid (Kw.out.below B19 (by omega))
    have hKwl := Kw.out.lt
    replace KX := Lib.hid (KX.out.below B19 (by omega))
    have hKXl := KX.out.lt
    replace Kg := Lib.hid (Kg.out.below B19 (by omega))
    have hKgl := Kg.out.lt
    replace OG4 := Lib.hid OG4
    clear B19
    go_wp2_with fail
    refine (toInt64S_own A0 n0 c0 _ zs0 w19 (RZ0.out.below T.out) (by have := T.out.size; omega) (by omega)).mono ?_
    rintro e w20 ⟨DM04, dm04, rfl, OM04, B20⟩
    have hs20 := B20.size
    replace T := Lib.hid (T.out.trans (B20.mono T.out.size))
    replace OG1 := Lib.hid (OG1.out.below B20 (by omega))
    replace OM01 := Lib.hid (OM01.out.below B20 (by omega))
    replace Ow0 := Lib.hid (Ow0.out.below B20 (by omega))
    replace OG2 := Lib.hid (OG2.out.below B20 (by omega))
    replace OM02 := Lib.hid (OM02.out.below B20 (by omega))
    replace Og0 := Lib.hid (Og0.out.below B20 (by omega))
    replace OM03 := Lib.hid (OM03.out.below B20 (by omega))
    replace OG4 := Lib.hid (OG4.out.below B20 (by omega))
    replace KB := Lib.hid (KB.out.below B20 (by omega))
    have hKBl := KB.out.lt
    replace Kw := Lib.hid (Kw.out.below B20 (by omega))
    have hKwl := Kw.out.lt
    replace KX := Lib.hid (KX.out.below B20 (by omega))
    have hKXl := KX.out.lt
    replace Kg := Lib.hid (Kg.out.below B20 (by omega))
    have hKgl := Kg.out.lt
    replace OM04 := Lib.hid OM04
    clear B20
    go_wp2_with fail
    refine (iDriftRun_c ⟨r, co, hs⟩ DG4 n dg4 _ DM04 n0 dm04 _ zs0 a1 w20 (.of_own OG4.out (by omega) (by omega)) OM04.out.reads (by omega) (by omega)).mono ?_
    rintro e w21 ⟨Ah0, nh0, ch0, rfl, Oh0, hnh0, B21⟩
    simp only [Fi.val, Fi.cells]
    have hs21 := B21.size
    replace T := Lib.hid (T.out.trans (B21.mono T.out.size))
    replace OG1 := Lib.hid (OG1.out.below B21 (by omega))
    replace OM01 := Lib.hid (OM01.out.below B21 (by omega))
    replace Ow0 := Lib.hid (Ow0.out.below B21 (by omega))
    replace OG2 := Lib.hid (OG2.out.below B21 (by omega))
    replace OM02 := Lib.hid (OM02.out.below B21 (by omega))
    replace Og0 := Lib.hid (Og0.out.below B21 (by omega))
    replace OM03 := Lib.hid (OM03.out.below B21 (by omega))
    replace OG4 := Lib.hid (OG4.out.below B21 (by omega))
    replace OM04 := Lib.hid (OM04.out.below B21 (by omega))
    replace KB := Lib.hid (KB.out.below B21 (by omega))
    have hKBl := KB.out.lt
    replace Kw := Lib.hid (Kw.out.below B21 (by omega))
    have hKwl := Kw.out.lt
    replace KX := Lib.hid (KX.out.below B21 (by omega))
    have hKXl := KX.out.lt
    replace Kg := Lib.hid (Kg.out.below B21 (by omega))
    have hKgl := Kg.out.lt
    replace Oh0 := Lib.hid Oh0
    clear B21
    obtain ⟨w22, hX22⟩ : ∃ X, X = w21.alloc (.cells #[.int .i64 (driftV ⟨r, co, hs⟩ zs0 a1).1.rows, .int .i64 (driftV ⟨r, co, hs⟩ zs0 a1).1.cols, .slice Ah0 nh0 ch0] 26) := ⟨_, rfl⟩
    have B22 : Below w21.heap.size w21 w22 := by rw [hX22]; exact (Below.refl _ _).alloc (Nat.le_refl _) _
    have Kh : Hid (Blk w22 w21.heap.size 26 #[.int .i64 (driftV ⟨r, co, hs⟩ zs0 a1).1.rows, .int .i64 (driftV ⟨r, co, hs⟩ zs0 a1).1.cols, .slice Ah0 nh0 ch0]) := Lib.hid (by rw [hX22]; exact Blk.new _ _ _)
    have hs22 : w21.heap.size + 1 = w22.heap.size := by rw [hX22]; simp
    replace T := Lib.hid (T.out.trans (B22.mono T.out.size))
    replace OG1 := Lib.hid (OG1.out.below B22 (by omega))
    replace OM01 := Lib.hid (OM01.out.below B22 (by omega))
    replace Ow0 := Lib.hid (Ow0.out.below B22 (by omega))
    replace OG2 := Lib.hid (OG2.out.below B22 (by omega))
    replace OM02 := Lib.hid (OM02.out.below B22 (by omega))
    replace Og0 := Lib.hid (Og0.out.below B22 (by omega))
    replace OM03 := Lib.hid (OM03.out.below B22 (by omega))
    replace OG4 := Lib.hid (OG4.out.below B22 (by omega))
    replace OM04 := Lib.hid (OM04.out.below B22 (by omega))
    replace Oh0 := Lib.hid (Oh0.out.below B22 (by omega))
    replace KB := Lib.hid (KB.out.below B22 (by omega))
    have hKBl := KB.out.lt
    replace Kw := Lib.hid (Kw.out.below B22 (by omega))
    have hKwl := Kw.out.lt
    replace KX := Lib.hid (KX.out.below B22 (by omega))
    have hKXl := KX.out.lt
    replace Kg := Lib.hid (Kg.out.below B22 (by omega))
    have hKgl := Kg.out.lt
    have hKhl := Kh.out.lt
    clear B22
    go_upto_region 31 with (fail)
    rw [← hX22]
    clear hX22
    have yKw0 : w22.cell? ⟨w3.heap.size, 0, none⟩ = some (.int .i64 (driftV ⟨r, co, hs⟩ zs0 a1).1.rows) := Kw.out.cell 0
    have yKw1 : w22.cell? ⟨w3.heap.size, 1, none⟩ = some (.int .i64 (driftV ⟨r, co, hs⟩ zs0 a1).1.cols) := Kw.out.cell 1
    have yKw2 : w22.cell? ⟨w3.heap.size, 2, none⟩ = some (.slice Aw0 nw0 cw0) := Kw.out.cell 2
    have yKh0 : w22.cell? ⟨w21.heap.size, 0, none⟩ = some (.int .i64 (driftV ⟨r, co, hs⟩ zs0 a1).1.rows) := Kh.out.cell 0
    have yKh1 : w22.cell? ⟨w21.heap.size, 1, none⟩ = some (.int .i64 (driftV ⟨r, co, hs⟩ zs0 a1).1.cols) := Kh.out.cell 1
    have yKh2 : w22.cell? ⟨w21.heap.size, 2, none⟩ = some (.slice Ah0 nh0 ch0) := Kh.out.cell 2
    go_wp2_with fail
    refine (eqField_same (driftV ⟨r, co, hs⟩ zs0 a1).1 Ah0 Aw0 nh0 nw0 ch0 cw0 _ _ w22 Oh0.out.reads Ow0.out.reads (by omega) (by omega) (by omega)).mono ?_
    rintro e w23 ⟨rfl, B23⟩
    have hs23 := B23.size
    clear yKw0 yKw1 yKw2 yKh0 yKh1 yKh2
    replace T := Lib.hid (T.out.trans (B23.mono T.out.size))
    replace OG1 := Lib.hid (OG1.out.below B23 (by omega))
    replace OM01 := Lib.hid (OM01.out.below B23 (by omega))
    replace Ow0 := Lib.hid (Ow0.out.below B23 (by omega))
    replace OG2 := Lib.hid (OG2.out.below B23 (by omega))
    replace OM02 := Lib.hid (OM02.out.below B23 (by omega))
    replace Og0 := Lib.hid (Og0.out.below B23 (by omega))
    replace OM03 := Lib.hid (OM03.out.below B23 (by omega))
    replace OG4 := Lib.hid (OG4.out.below B23 (by omega))
    replace OM04 := Lib.hid (OM04.out.below B23 (by omega))
    replace Oh0 := Lib.hid (Oh0.out.below B23 (by omega))
    replace KB := Lib.hid (KB.out.below B23 (by omega))
    have hKBl := KB.out.lt
    replace Kw := Lib.hid (Kw.out.below B23 (by omega))
    have hKwl := Kw.out.lt
    replace KX := Lib.hid (KX.out.below B23 (by omega))
    have hKXl := KX.out.lt
    replace Kg := Lib.hid (Kg.out.below B23 (by omega))
    have hKgl := Kg.out.lt
    replace Kh := Lib.hid (Kh.out.below B23 (by omega))
    have hKhl := Kh.out.lt
    clear B23
    have yKg0 : w23.cell? ⟨w8.heap.size, 0, none⟩ = some (.int .i64 (driftV ⟨r, co, hs⟩ zs0 a1).1.rows) := Kg.out.cell 0
    have yKg1 : w23.cell? ⟨w8.heap.size, 1, none⟩ = some (.int .i64 (driftV ⟨r, co, hs⟩ zs0 a1).1.cols) := Kg.out.cell 1
    have yKg2 : w23.cell? ⟨w8.heap.size, 2, none⟩ = some (.slice Ag0 ng0 cg0) := Kg.out.cell 2
    go_wp2_with fail
    refine (heldField_c (driftV ⟨r, co, hs⟩ zs0 a1).1 Ag0 ng0 cg0 _ 1 w23 Og0.out.reads (by omega) (by omega) (by omega) (by omega)).mono ?_
    rintro e w24 ⟨rfl, B24⟩
    have hs24 := B24.size
    clear yKg0 yKg1 yKg2
    replace T := Lib.hid (T.out.trans (B24.mono T.out.size))
    replace OG1 := Lib.hid (OG1.out.below B24 (by omega))
    replace OM01 := Lib.hid (OM01.out.below B24 (by omega))
    replace Ow0 := Lib.hid (Ow0.out.below B24 (by omega))
    replace OG2 := Lib.hid (OG2.out.below B24 (by omega))
    replace OM02 := Lib.hid (OM02.out.below B24 (by omega))
    replace Og0 := Lib.hid (Og0.out.below B24 (by omega))
    replace OM03 := Lib.hid (OM03.out.below B24 (by omega))
    replace OG4 := Lib.hid (OG4.out.below B24 (by omega))
    replace OM04 := Lib.hid (OM04.out.below B24 (by omega))
    replace Oh0 := Lib.hid (Oh0.out.below B24 (by omega))
    replace KB := Lib.hid (KB.out.below B24 (by omega))
    have hKBl := KB.out.lt
    replace Kw := Lib.hid (Kw.out.below B24 (by omega))
    have hKwl := Kw.out.lt
    replace KX := Lib.hid (KX.out.below B24 (by omega))
    have hKXl := KX.out.lt
    replace Kg := Lib.hid (Kg.out.below B24 (by omega))
    have hKgl := Kg.out.lt
    replace Kh := Lib.hid (Kh.out.below B24 (by omega))
    have hKhl := Kh.out.lt
    clear B24
    go_wp2
    go_ret
    exact ⟨rfl, T.out⟩
namespace fnExactDriftRun
set_option maxRecDepth 100000 in
theorem lifted (os : Os) (started : os.Started) (H : Type) (enc : TypeId × Value → H) :
    ReturnsInHanded {} Try.checked os 6 .any (Rows.fnExactDriftRunSpec.pre6 enc Try.prog Try.f6 Rows.fnExactDriftRunRow.domain false) (Rows.fnExactDriftRunSpec.post enc Try.prog Try.f6 false true false false) := by
  refine returnsInHanded_of_change (C := Try.checked) ownKnobNone started (by kernel_rfl) Try.func6
    (ChangeSpec.witness6 (enc := enc) (C := Try.checked) false ⟨#[], #[wit_fiv, .slice none 0 0, .int .i64 0], []⟩ 8 (by kernel_rfl) (by kernel_rfl) (by kernel_rfl) (by kernel_rfl)) ?_
  intro W base args ds gs before hval0 hW hcnd _
  have hval : ∀ (j : Nat) t v, Try.f6.params[j]? = some t → args[j]? = some v → Value.okWide Try.prog W .any base t v := hval0
  have hW' := hW
  obtain ⟨p, q, hA0, hV, rfl, hfz, hnd⟩ := hW
  have hA : DataW.TrodAll enc Try.prog W 0 (fun _ => true) true Try.f6.params.toList args.toList ds p := hA0
  rw [Try.params6] at hA hval
  obtain ⟨v0, vs0, d0, ds0, p0, q0, hargs, rfl, rfl, h0, r0⟩ := trodAll_cons hA
  obtain ⟨v1, vs1, d1, ds1, p1, q1, rfl, rfl, rfl, h1, r1⟩ := trodAll_cons r0
  obtain ⟨v2, vs2, d2, ds2, p2, q2, rfl, rfl, rfl, h2, r2⟩ := trodAll_cons r1
  obtain ⟨rfl, rfl, rfl⟩ := trodAll_nil r2
  obtain rfl : args = #[v0, v1, v2] := by cases args; simp_all
  obtain ⟨rfl, rfl⟩ := trodVars_none hV
  have k0 := h0
  have lt0 : ∀ x ∈ p0, x.block < W.heap.size := by obtain ⟨m, hm⟩ := k0; exact DataW.trod_lt m _ _ _ hm
  have k1 := h1
  have lt1 : ∀ x ∈ p1, x.block < W.heap.size := by obtain ⟨m, hm⟩ := k1; exact DataW.trod_lt m _ _ _ hm
  have k2 := h2
  have lt2 : ∀ x ∈ p2, x.block < W.heap.size := by obtain ⟨m, hm⟩ := k2; exact DataW.trod_lt m _ _ _ hm
  obtain ⟨x0, rfl, R0⟩ := open_fiv (hval 0 24 v0 rfl rfl) h0
  obtain ⟨A1, n1, c1, z1, rfl, R1, -, -, wf1⟩ := open_i64s (hval 1 22 v1 rfl rfl) h1
  obtain ⟨a2, rfl, -, -, wf2⟩ := open_int Try.underlying2 (hval 2 2 v2 rfl rfl) h2
  clear hA0 hval0
  refine (wDriftRun W x0 R0 A1 n1 c1 z1 R1 wf1 a2 wf2).mono fun e W' ⟨he, bel⟩ => ?_
  subst he
  exact ⟨_, rfl, _, _, _, [], _, [], hW', trodAll_mk1 (shut_bool Try.underlying4 _), (trodAll_cons_mk (Below.trod laidOut (by kernel_rfl) (of_decide_eq_true (by kernel_rfl)) k0 bel lt0) (trodAll_cons_mk (Below.trod laidOut (by kernel_rfl) (of_decide_eq_true (by kernel_rfl)) k1 bel lt1) (trodAll_cons_mk (Below.trod laidOut (by kernel_rfl) (of_decide_eq_true (by kernel_rfl)) k2 bel lt2) trodAll_mk0))), rfl, bel.frame _, fun h => by cases h⟩
theorem over : Rows.fnExactDriftRunRow.holds Try.pinned (OpenSpec.ofChange Rows.fnExactDriftRunSpec) :=
  OpenClaim.holds_of_wide 6 Try.f6 rfl rfl rfl rfl rfl rfl rfl ⟨rfl, rfl, rfl, rfl, rfl⟩ rfl rfl rfl rfl rfl (by kernel_rfl) Try.func6 (by kernel_rfl)
    (of_decide_eq_true (by kernel_rfl)) (by unfold Func.isWrapper; first | (rw [if_pos (by decide +kernel)]; kernel_rfl) | (rw [if_neg (by decide +kernel)]; exact ⟨rfl, rfl⟩))
    (fun os started H enc _ => lifted os started H enc)
theorem proved : Rows.FnExactDriftRunSaid := over
end fnExactDriftRun

set_option maxHeartbeats 8000000 in
theorem wDriftStep (w : World) (x : Fi × Option Addr × Nat × Nat) (R : Reads w w.heap.size 1 x.2.1 x.2.2.1 (ints x.1.hs) ∧ x.2.2.1 ≤ x.2.2.2 ∧ x.2.2.1 ≤ 9223372036854775807) (a0 : Int) (_ : (Lit.int .i64 a0).wf = true) (a1 : Int) (_ : (Lit.int .i64 a1).wf = true) :
    Calls Try.prog 3 #[x.1.val x.2.1 x.2.2.1 x.2.2.2, .int .i64 a0, .int .i64 a1] w fun e w' => e = .returned (.bool true) ∧ Below w.heap.size w w' := by
  obtain ⟨g, A, n, c⟩ := x
  obtain ⟨ha, hnc, hm⟩ := R
  simp only at ha hnc hm ⊢
  have hsz := fun W => szField_c g A n c 1048576 W (by omega) (by omega) hm
  obtain ⟨r, co, hs⟩ := g
  simp only [Fi.val, Fi.cells] at *
  by_cases h20 : 1048576 < n
  · rw [if_pos (by omega)] at hsz
    have HSZ := Lib.hid hsz
    clear ha hsz
    go_enter Try.func3, Try.ntmps3
    go_wp2_with fail
    refine (HSZ.out _).mono ?_
    rintro e w0 ⟨rfl, B0⟩
    have HB := Lib.hid B0; clear B0
    go_wp2
    go_ret
    exact ⟨rfl, ((Below.refl _ _).alloc (Nat.le_refl _) _).trans (HB.out.mono (by simp))⟩
  · rw [if_neg (by omega)] at hsz
    have hpos : ¬ (1048576 - (n : Int) < 0) := by omega
    have RA := Lib.hid ha; clear ha
    have HSZ := Lib.hid hsz; clear hsz
    go_enter Try.func3, Try.ntmps3
    go_wp2_with fail
    refine (HSZ.out _).mono ?_
    rintro e w0 ⟨rfl, B0⟩
    have KB : Hid (Blk w0 w.heap.size 24 #[.int .i64 r, .int .i64 co, .slice A n c]) := Lib.hid ((Blk.new _ _ _).below B0 (by simp))
    have T : Hid (Below w.heap.size w w0) := Lib.hid (((Below.refl _ _).alloc (Nat.le_refl _) _).trans (B0.mono (by simp)))
    have hs0 : w.heap.size + 1 ≤ w0.heap.size := by have := B0.size; simpa using this
    have hKBl := KB.out.lt
    clear B0 HSZ
    have yKB0 : w0.cell? ⟨w.heap.size, 0, none⟩ = some (.int .i64 r) := KB.out.cell 0
    have yKB1 : w0.cell? ⟨w.heap.size, 1, none⟩ = some (.int .i64 co) := KB.out.cell 1
    have yKB2 : w0.cell? ⟨w.heap.size, 2, none⟩ = some (.slice A n c) := KB.out.cell 2
    go_wp2_with fail
    refine (toField_c ⟨r, co, hs⟩ A n c _ w0 (RA.out.below T.out) (by have := T.out.size; omega) (by omega)).mono ?_
    rintro e w1 ⟨DG1, dg1, rfl, OG1, B1⟩
    simp only [Fi.val, Fi.cells]
    have hs1 := B1.size
    clear yKB0 yKB1 yKB2
    replace T := Lib.hid (T.out.trans (B1.mono T.out.size))
    replace KB := Lib.hid (KB.out.below B1 (by omega))
    have hKBl := KB.out.lt
    replace OG1 := Lib.hid OG1
    clear B1
    go_wp2_with fail
    refine (sDriftStep_c ⟨r, co, hs⟩ DG1 n dg1 _ a0 a1 w1 (.of_own OG1.out (by omega) (by omega))).mono ?_
    rintro e w2 ⟨Aw0, nw0, cw0, rfl, Ow0, hnw0, B2⟩
    simp only [Fi.val, Fi.cells]
    have hs2 := B2.size
    replace T := Lib.hid (T.out.trans (B2.mono T.out.size))
    replace OG1 := Lib.hid (OG1.out.below B2 (by omega))
    replace KB := Lib.hid (KB.out.below B2 (by omega))
    have hKBl := KB.out.lt
    replace Ow0 := Lib.hid Ow0
    clear B2
    obtain ⟨w3, hX3⟩ : ∃ X, X = w2.alloc (.cells #[.int .i64 (driftV ⟨r, co, hs⟩ [a0] a1).1.rows, .int .i64 (driftV ⟨r, co, hs⟩ [a0] a1).1.cols, .slice Aw0 nw0 cw0] 26) := ⟨_, rfl⟩
    have B3 : Below w2.heap.size w2 w3 := by rw [hX3]; exact (Below.refl _ _).alloc (Nat.le_refl _) _
    have Kw : Hid (Blk w3 w2.heap.size 26 #[.int .i64 (driftV ⟨r, co, hs⟩ [a0] a1).1.rows, .int .i64 (driftV ⟨r, co, hs⟩ [a0] a1).1.cols, .slice Aw0 nw0 cw0]) := Lib.hid (by rw [hX3]; exact Blk.new _ _ _)
    have hs3 : w2.heap.size + 1 = w3.heap.size := by rw [hX3]; simp
    replace T := Lib.hid (T.out.trans (B3.mono T.out.size))
    replace OG1 := Lib.hid (OG1.out.below B3 (by omega))
    replace Ow0 := Lib.hid (Ow0.out.below B3 (by omega))
    replace KB := Lib.hid (KB.out.below B3 (by omega))
    have hKBl := KB.out.lt
    have hKwl := Kw.out.lt
    clear B3
    go_upto_region 6 with (fail)
    rw [← hX3]
    clear hX3
    have yKB0 : w3.cell? ⟨w.heap.size, 0, none⟩ = some (.int .i64 r) := KB.out.cell 0
    have yKB1 : w3.cell? ⟨w.heap.size, 1, none⟩ = some (.int .i64 co) := KB.out.cell 1
    have yKB2 : w3.cell? ⟨w.heap.size, 2, none⟩ = some (.slice A n c) := KB.out.cell 2
    go_wp2_with fail
    refine (toField_c ⟨r, co, hs⟩ A n c _ w3 (RA.out.below T.out) (by have := T.out.size; omega) (by omega)).mono ?_
    rintro e w4 ⟨DG2, dg2, rfl, OG2, B4⟩
    simp only [Fi.val, Fi.cells]
    have hs4 := B4.size
    clear yKB0 yKB1 yKB2
    replace T := Lib.hid (T.out.trans (B4.mono T.out.size))
    replace OG1 := Lib.hid (OG1.out.below B4 (by omega))
    replace Ow0 := Lib.hid (Ow0.out.below B4 (by omega))
    replace KB := Lib.hid (KB.out.below B4 (by omega))
    have hKBl := KB.out.lt
    replace Kw := Lib.hid (Kw.out.below B4 (by omega))
    have hKwl := Kw.out.lt
    replace OG2 := Lib.hid OG2
    clear B4
    obtain ⟨w5, hX5⟩ : ∃ X, X = w4.alloc (.cells #[.int .i64 r, .int .i64 co, .slice DG2 n dg2] 26) := ⟨_, rfl⟩
    have B5 : Below w4.heap.size w4 w5 := by rw [hX5]; exact (Below.refl _ _).alloc (Nat.le_refl _) _
    have KX : Hid (Blk w5 w4.heap.size 26 #[.int .i64 r, .int .i64 co, .slice DG2 n dg2]) := Lib.hid (by rw [hX5]; exact Blk.new _ _ _)
    have hs5 : w4.heap.size + 1 = w5.heap.size := by rw [hX5]; simp
    replace T := Lib.hid (T.out.trans (B5.mono T.out.size))
    replace OG1 := Lib.hid (OG1.out.below B5 (by omega))
    replace Ow0 := Lib.hid (Ow0.out.below B5 (by omega))
    replace OG2 := Lib.hid (OG2.out.below B5 (by omega))
    replace KB := Lib.hid (KB.out.below B5 (by omega))
    have hKBl := KB.out.lt
    replace Kw := Lib.hid (Kw.out.below B5 (by omega))
    have hKwl := Kw.out.lt
    have hKXl := KX.out.lt
    clear B5
    have yKX0 : w5.cell? ⟨w4.heap.size, 0, none⟩ = some (.int .i64 r) := KX.out.cell 0
    have yKX1 : w5.cell? ⟨w4.heap.size, 1, none⟩ = some (.int .i64 co) := KX.out.cell 1
    have yKX2 : w5.cell? ⟨w4.heap.size, 2, none⟩ = some (.slice DG2 n dg2) := KX.out.cell 2
    go_wp2_with fail
    rw [← hX5]
    clear hX5
    refine (iDriftStep_c ⟨r, co, hs⟩ DG2 n dg2 _ a0 a1 w5 (.of_own OG2.out (by omega) (by omega))).mono ?_
    rintro e w6 ⟨Ag0, ng0, cg0, rfl, Og0, hng0, B6⟩
    simp only [Fi.val, Fi.cells]
    have hs6 := B6.size
    clear yKX0 yKX1 yKX2
    replace T := Lib.hid (T.out.trans (B6.mono T.out.size))
    replace OG1 := Lib.hid (OG1.out.below B6 (by omega))
    replace Ow0 := Lib.hid (Ow0.out.below B6 (by omega))
    replace OG2 := Lib.hid (OG2.out.below B6 (by omega))
    replace KB := Lib.hid (KB.out.below B6 (by omega))
    have hKBl := KB.out.lt
    replace Kw := Lib.hid (Kw.out.below B6 (by omega))
    have hKwl := Kw.out.lt
    replace KX := Lib.hid (KX.out.below B6 (by omega))
    have hKXl := KX.out.lt
    replace Og0 := Lib.hid Og0
    clear B6
    obtain ⟨w7, hX7⟩ : ∃ X, X = w6.alloc (.cells #[.int .i64 (driftV ⟨r, co, hs⟩ [a0] a1).1.rows, .int .i64 (driftV ⟨r, co, hs⟩ [a0] a1).1.cols, .slice Ag0 ng0 cg0] 26) := ⟨_, rfl⟩
    have B7 : Below w6.heap.size w6 w7 := by rw [hX7]; exact (Below.refl _ _).alloc (Nat.le_refl _) _
    have Kg : Hid (Blk w7 w6.heap.size 26 #[.int .i64 (driftV ⟨r, co, hs⟩ [a0] a1).1.rows, .int .i64 (driftV ⟨r, co, hs⟩ [a0] a1).1.cols, .slice Ag0 ng0 cg0]) := Lib.hid (by rw [hX7]; exact Blk.new _ _ _)
    have hs7 : w6.heap.size + 1 = w7.heap.size := by rw [hX7]; simp
    replace T := Lib.hid (T.out.trans (B7.mono T.out.size))
    replace OG1 := Lib.hid (OG1.out.below B7 (by omega))
    replace Ow0 := Lib.hid (Ow0.out.below B7 (by omega))
    replace OG2 := Lib.hid (OG2.out.below B7 (by omega))
    replace Og0 := Lib.hid (Og0.out.below B7 (by omega))
    replace KB := Lib.hid (KB.out.below B7 (by omega))
    have hKBl := KB.out.lt
    replace Kw := Lib.hid (Kw.out.below B7 (by omega))
    have hKwl := Kw.out.lt
    replace KX := Lib.hid (KX.out.below B7 (by omega))
    have hKXl := KX.out.lt
    have hKgl := Kg.out.lt
    clear B7
    go_upto_region 8 with (fail)
    rw [← hX7]
    clear hX7
    have yKw0 : w7.cell? ⟨w2.heap.size, 0, none⟩ = some (.int .i64 (driftV ⟨r, co, hs⟩ [a0] a1).1.rows) := Kw.out.cell 0
    have yKw1 : w7.cell? ⟨w2.heap.size, 1, none⟩ = some (.int .i64 (driftV ⟨r, co, hs⟩ [a0] a1).1.cols) := Kw.out.cell 1
    have yKw2 : w7.cell? ⟨w2.heap.size, 2, none⟩ = some (.slice Aw0 nw0 cw0) := Kw.out.cell 2
    have yKg0 : w7.cell? ⟨w6.heap.size, 0, none⟩ = some (.int .i64 (driftV ⟨r, co, hs⟩ [a0] a1).1.rows) := Kg.out.cell 0
    have yKg1 : w7.cell? ⟨w6.heap.size, 1, none⟩ = some (.int .i64 (driftV ⟨r, co, hs⟩ [a0] a1).1.cols) := Kg.out.cell 1
    have yKg2 : w7.cell? ⟨w6.heap.size, 2, none⟩ = some (.slice Ag0 ng0 cg0) := Kg.out.cell 2
    go_wp2_with fail
    refine (eqField_same (driftV ⟨r, co, hs⟩ [a0] a1).1 Ag0 Aw0 ng0 nw0 cg0 cw0 _ _ w7 Og0.out.reads Ow0.out.reads (by omega) (by omega) (by omega)).mono ?_
    rintro e w8 ⟨rfl, B8⟩
    have hs8 := B8.size
    clear yKw0 yKw1 yKw2 yKg0 yKg1 yKg2
    replace T := Lib.hid (T.out.trans (B8.mono T.out.size))
    replace OG1 := Lib.hid (OG1.out.below B8 (by omega))
    replace Ow0 := Lib.hid (Ow0.out.below B8 (by omega))
    replace OG2 := Lib.hid (OG2.out.below B8 (by omega))
    replace Og0 := Lib.hid (Og0.out.below B8 (by omega))
    replace KB := Lib.hid (KB.out.below B8 (by omega))
    have hKBl := KB.out.lt
    replace Kw := Lib.hid (Kw.out.below B8 (by omega))
    have hKwl := Kw.out.lt
    replace KX := Lib.hid (KX.out.below B8 (by omega))
    have hKXl := KX.out.lt
    replace Kg := Lib.hid (Kg.out.below B8 (by omega))
    have hKgl := Kg.out.lt
    clear B8
    have yKB0 : w8.cell? ⟨w.heap.size, 0, none⟩ = some (.int .i64 r) := KB.out.cell 0
    have yKB1 : w8.cell? ⟨w.heap.size, 1, none⟩ = some (.int .i64 co) := KB.out.cell 1
    have yKB2 : w8.cell? ⟨w.heap.size, 2, none⟩ = some (.slice A n c) := KB.out.cell 2
    have yKX0 : w8.cell? ⟨w4.heap.size, 0, none⟩ = some (.int .i64 r) := KX.out.cell 0
    have yKX1 : w8.cell? ⟨w4.heap.size, 1, none⟩ = some (.int .i64 co) := KX.out.cell 1
    have yKX2 : w8.cell? ⟨w4.heap.size, 2, none⟩ = some (.slice DG2 n dg2) := KX.out.cell 2
    have HS : Hid (∀ W, Below w8.heap.size w8 W → (W.cell? ⟨w.heap.size, 0, none⟩ = some (.int .i64 r) ∧ W.cell? ⟨w.heap.size, 1, none⟩ = some (.int .i64 co) ∧ W.cell? ⟨w.heap.size, 2, none⟩ = some (.slice A n c) ∧ W.cell? ⟨w4.heap.size, 0, none⟩ = some (.int .i64 r) ∧ W.cell? ⟨w4.heap.size, 1, none⟩ = some (.int .i64 co) ∧ W.cell? ⟨w4.heap.size, 2, none⟩ = some (.slice DG2 n dg2))) := Lib.hid fun W hW => by
      have z1 := KX.out.below hW (by omega)
      have z2 := KB.out.below hW (by omega)
      exact ⟨z2.cell 0, z2.cell 1, z2.cell 2, z1.cell 0, z1.cell 1, z1.cell 2⟩
    have hB := Below.refl w8.heap.size w8
    go_wp2
    go_region_held3 (fun w' => Below w8.heap.size w8 w' ∧ (w'.cell? ⟨w.heap.size, 0, none⟩ = some (.int .i64 r) ∧ w'.cell? ⟨w.heap.size, 1, none⟩ = some (.int .i64 co) ∧ w'.cell? ⟨w.heap.size, 2, none⟩ = some (.slice A n c) ∧ w'.cell? ⟨w4.heap.size, 0, none⟩ = some (.int .i64 r) ∧ w'.cell? ⟨w4.heap.size, 1, none⟩ = some (.int .i64 co) ∧ w'.cell? ⟨w4.heap.size, 2, none⟩ = some (.slice DG2 n dg2))) (first | exact keepB HS.out (by assumption) (by first | assumption | exact And.left (by assumption)) | exact keepD HS.out (by assumption) | (go_keep; done)) (first | (go_at_call 12; refine (toField_c ⟨r, co, hs⟩ A n c _ _ (RA.out.below (T.out.trans (Below.mono (by first | assumption | exact And.left (by assumption)) T.out.size))) (Nat.le_trans T.out.size (Below.size (by first | assumption | exact And.left (by assumption)))) (by omega)).mono ?_; rintro e wq ⟨DQ, dq, rfl, OQ, hb⟩; simp only [Fi.val, Fi.cells]) | (go_at_call 14; refine (eqField_same ⟨r, co, hs⟩ DG2 DQ n n dg2 dq _ _ _ (OG2.out.reads.below (Below.mono (by first | assumption | exact And.left (by assumption)) (by omega))) OQ.reads (Nat.le_trans (by omega : _ ≤ w8.heap.size) (Below.size (by first | assumption | exact And.left (by assumption)))) (Nat.le_refl _) (by omega)).mono ?_; rintro e w9 ⟨rfl, hbe⟩))
    have B9 : Below w8.heap.size w8 w9 := And.left (by assumption)
    have hs9 := B9.size
    clear HS hB OQ hbe yKB0 yKB1 yKB2 yKX0 yKX1 yKX2
    replace T := Lib.hid (T.out.trans (B9.mono T.out.size))
    replace OG1 := Lib.hid (OG1.out.below B9 (by omega))
    replace Ow0 := Lib.hid (Ow0.out.below B9 (by omega))
    replace OG2 := Lib.hid (OG2.out.below B9 (by omega))
    replace Og0 := Lib.hid (Og0.out.below B9 (by omega))
    replace KB := Lib.hid (KB.out.below B9 (by omega))
    have hKBl := KB.out.lt
    replace Kw := Lib.hid (Kw.out.below B9 (by omega))
    have hKwl := Kw.out.lt
    replace KX := Lib.hid (KX.out.below B9 (by omega))
    have hKXl := KX.out.lt
    replace Kg := Lib.hid (Kg.out.below B9 (by omega))
    have hKgl := Kg.out.lt
    clear B9
    have yKX0 : w9.cell? ⟨w4.heap.size, 0, none⟩ = some (.int .i64 r) := KX.out.cell 0
    have yKX1 : w9.cell? ⟨w4.heap.size, 1, none⟩ = some (.int .i64 co) := KX.out.cell 1
    have yKX2 : w9.cell? ⟨w4.heap.size, 2, none⟩ = some (.slice DG2 n dg2) := KX.out.cell 2
    go_wp2_with fail
    refine (markField_c ⟨r, co, hs⟩ DG2 n dg2 _ _ _ 1 w9 OG2.out (by omega) (by omega) (by omega) (by omega)).mono ?_
    rintro e w10 ⟨rfl, OG2', Y10⟩
    have hs10 := Y10.size
    clear yKX0 yKX1 yKX2
    replace T := Lib.hid (T.out.trans (Y10.below (by omega) (by omega)))
    replace OG1 := Lib.hid (OG1.out.only Y10 (by omega))
    replace Ow0 := Lib.hid (Ow0.out.only Y10 (by omega))
    replace Og0 := Lib.hid (Og0.out.only Y10 (by omega))
    replace KB := Lib.hid (KB.out.onlyB Y10 (by omega))
    have hKBl := KB.out.lt
    replace Kw := Lib.hid (Kw.out.onlyB Y10 (by omega))
    have hKwl := Kw.out.lt
    replace KX := Lib.hid (KX.out.onlyB Y10 (by omega))
    have hKXl := KX.out.lt
    replace Kg := Lib.hid (Kg.out.onlyB Y10 (by omega))
    have hKgl := Kg.out.lt
    clear OG2; have OG2 := Lib.hid OG2'; clear OG2' Y10
    have yKw0 : w10.cell? ⟨w2.heap.size, 0, none⟩ = some (.int .i64 (driftV ⟨r, co, hs⟩ [a0] a1).1.rows) := Kw.out.cell 0
    have yKw1 : w10.cell? ⟨w2.heap.size, 1, none⟩ = some (.int .i64 (driftV ⟨r, co, hs⟩ [a0] a1).1.cols) := Kw.out.cell 1
    have yKw2 : w10.cell? ⟨w2.heap.size, 2, none⟩ = some (.slice Aw0 nw0 cw0) := Kw.out.cell 2
    have yKg0 : w10.cell? ⟨w6.heap.size, 0, none⟩ = some (.int .i64 (driftV ⟨r, co, hs⟩ [a0] a1).1.rows) := Kg.out.cell 0
    have yKg1 : w10.cell? ⟨w6.heap.size, 1, none⟩ = some (.int .i64 (driftV ⟨r, co, hs⟩ [a0] a1).1.cols) := Kg.out.cell 1
    have yKg2 : w10.cell? ⟨w6.heap.size, 2, none⟩ = some (.slice Ag0 ng0 cg0) := Kg.out.cell 2
    go_wp2_with fail
    refine (eqField_same (driftV ⟨r, co, hs⟩ [a0] a1).1 Ag0 Aw0 ng0 nw0 cg0 cw0 _ _ w10 Og0.out.reads Ow0.out.reads (by omega) (by omega) (by omega)).mono ?_
    rintro e w11 ⟨rfl, B11⟩
    have hs11 := B11.size
    clear yKw0 yKw1 yKw2 yKg0 yKg1 yKg2
    replace T := Lib.hid (T.out.trans (B11.mono T.out.size))
    replace OG1 := Lib.hid (OG1.out.below B11 (by omega))
    replace Ow0 := Lib.hid (Ow0.out.below B11 (by omega))
    replace OG2 := Lib.hid (OG2.out.below B11 (by omega))
    replace Og0 := Lib.hid (Og0.out.below B11 (by omega))
    replace KB := Lib.hid (KB.out.below B11 (by omega))
    have hKBl := KB.out.lt
    replace Kw := Lib.hid (Kw.out.below B11 (by omega))
    have hKwl := Kw.out.lt
    replace KX := Lib.hid (KX.out.below B11 (by omega))
    have hKXl := KX.out.lt
    replace Kg := Lib.hid (Kg.out.below B11 (by omega))
    have hKgl := Kg.out.lt
    clear B11
    have yKg0 : w11.cell? ⟨w6.heap.size, 0, none⟩ = some (.int .i64 (driftV ⟨r, co, hs⟩ [a0] a1).1.rows) := Kg.out.cell 0
    have yKg1 : w11.cell? ⟨w6.heap.size, 1, none⟩ = some (.int .i64 (driftV ⟨r, co, hs⟩ [a0] a1).1.cols) := Kg.out.cell 1
    have yKg2 : w11.cell? ⟨w6.heap.size, 2, none⟩ = some (.slice Ag0 ng0 cg0) := Kg.out.cell 2
    go_wp2_with fail
    refine (markField_c (driftV ⟨r, co, hs⟩ [a0] a1).1 Ag0 ng0 cg0 _ _ _ 1 w11 Og0.out (by omega) (by omega) (by omega) (by omega)).mono ?_
    rintro e w12 ⟨rfl, Og0', Y12⟩
    have hs12 := Y12.size
    clear yKg0 yKg1 yKg2
    replace T := Lib.hid (T.out.trans (Y12.below (by omega) (by omega)))
    replace OG1 := Lib.hid (OG1.out.only Y12 (by omega))
    replace Ow0 := Lib.hid (Ow0.out.only Y12 (by omega))
    replace OG2 := Lib.hid (OG2.out.only Y12 (by omega))
    replace KB := Lib.hid (KB.out.onlyB Y12 (by omega))
    have hKBl := KB.out.lt
    replace Kw := Lib.hid (Kw.out.onlyB Y12 (by omega))
    have hKwl := Kw.out.lt
    replace KX := Lib.hid (KX.out.onlyB Y12 (by omega))
    have hKXl := KX.out.lt
    replace Kg := Lib.hid (Kg.out.onlyB Y12 (by omega))
    have hKgl := Kg.out.lt
    clear Og0; have Og0 := Lib.hid Og0'; clear Og0' Y12
    have yKg0 : w12.cell? ⟨w6.heap.size, 0, none⟩ = some (.int .i64 (driftV ⟨r, co, hs⟩ [a0] a1).1.rows) := Kg.out.cell 0
    have yKg1 : w12.cell? ⟨w6.heap.size, 1, none⟩ = some (.int .i64 (driftV ⟨r, co, hs⟩ [a0] a1).1.cols) := Kg.out.cell 1
    have yKg2 : w12.cell? ⟨w6.heap.size, 2, none⟩ = some (.slice Ag0 ng0 cg0) := Kg.out.cell 2
    go_wp2_with fail
    refine (heldField_c (driftV ⟨r, co, hs⟩ [a0] a1).1 Ag0 ng0 cg0 _ 1 w12 Og0.out.reads (by omega) (by omega) (by omega) (by omega)).mono ?_
    rintro e w13 ⟨rfl, B13⟩
    have hs13 := B13.size
    clear yKg0 yKg1 yKg2
    replace T := Lib.hid (T.out.trans (B13.mono T.out.size))
    replace OG1 := Lib.hid (OG1.out.below B13 (by omega))
    replace Ow0 := Lib.hid (Ow0.out.below B13 (by omega))
    replace OG2 := Lib.hid (OG2.out.below B13 (by omega))
    replace Og0 := Lib.hid (Og0.out.below B13 (by omega))
    replace KB := Lib.hid (KB.out.below B13 (by omega))
    have hKBl := KB.out.lt
    replace Kw := Lib.hid (Kw.out.below B13 (by omega))
    have hKwl := Kw.out.lt
    replace KX := Lib.hid (KX.out.below B13 (by omega))
    have hKXl := KX.out.lt
    replace Kg := Lib.hid (Kg.out.below B13 (by omega))
    have hKgl := Kg.out.lt
    clear B13
    have yKB0 : w13.cell? ⟨w.heap.size, 0, none⟩ = some (.int .i64 r) := KB.out.cell 0
    have yKB1 : w13.cell? ⟨w.heap.size, 1, none⟩ = some (.int .i64 co) := KB.out.cell 1
    have yKB2 : w13.cell? ⟨w.heap.size, 2, none⟩ = some (.slice A n c) := KB.out.cell 2
    go_wp2_with fail
    refine (toField_c ⟨r, co, hs⟩ A n c _ w13 (RA.out.below T.out) (by have := T.out.size; omega) (by omega)).mono ?_
    rintro e w14 ⟨DG4, dg4, rfl, OG4, B14⟩
    simp only [Fi.val, Fi.cells]
    have hs14 := B14.size
    clear yKB0 yKB1 yKB2
    replace T := Lib.hid (T.out.trans (B14.mono T.out.size))
    replace OG1 := Lib.hid (OG1.out.below B14 (by omega))
    replace Ow0 := Lib.hid (Ow0.out.below B14 (by omega))
    replace OG2 := Lib.hid (OG2.out.below B14 (by omega))
    replace Og0 := Lib.hid (Og0.out.below B14 (by omega))
    replace KB := Lib.hid (KB.out.below B14 (by omega))
    have hKBl := KB.out.lt
    replace Kw := Lib.hid (Kw.out.below B14 (by omega))
    have hKwl := Kw.out.lt
    replace KX := Lib.hid (KX.out.below B14 (by omega))
    have hKXl := KX.out.lt
    replace Kg := Lib.hid (Kg.out.below B14 (by omega))
    have hKgl := Kg.out.lt
    replace OG4 := Lib.hid OG4
    clear B14
    go_wp2_with fail
    refine (iDriftStep_c ⟨r, co, hs⟩ DG4 n dg4 _ a0 a1 w14 (.of_own OG4.out (by omega) (by omega))).mono ?_
    rintro e w15 ⟨Ah0, nh0, ch0, rfl, Oh0, hnh0, B15⟩
    simp only [Fi.val, Fi.cells]
    have hs15 := B15.size
    replace T := Lib.hid (T.out.trans (B15.mono T.out.size))
    replace OG1 := Lib.hid (OG1.out.below B15 (by omega))
    replace Ow0 := Lib.hid (Ow0.out.below B15 (by omega))
    replace OG2 := Lib.hid (OG2.out.below B15 (by omega))
    replace Og0 := Lib.hid (Og0.out.below B15 (by omega))
    replace OG4 := Lib.hid (OG4.out.below B15 (by omega))
    replace KB := Lib.hid (KB.out.below B15 (by omega))
    have hKBl := KB.out.lt
    replace Kw := Lib.hid (Kw.out.below B15 (by omega))
    have hKwl := Kw.out.lt
    replace KX := Lib.hid (KX.out.below B15 (by omega))
    have hKXl := KX.out.lt
    replace Kg := Lib.hid (Kg.out.below B15 (by omega))
    have hKgl := Kg.out.lt
    replace Oh0 := Lib.hid Oh0
    clear B15
    obtain ⟨w16, hX16⟩ : ∃ X, X = w15.alloc (.cells #[.int .i64 (driftV ⟨r, co, hs⟩ [a0] a1).1.rows, .int .i64 (driftV ⟨r, co, hs⟩ [a0] a1).1.cols, .slice Ah0 nh0 ch0] 26) := ⟨_, rfl⟩
    have B16 : Below w15.heap.size w15 w16 := by rw [hX16]; exact (Below.refl _ _).alloc (Nat.le_refl _) _
    have Kh : Hid (Blk w16 w15.heap.size 26 #[.int .i64 (driftV ⟨r, co, hs⟩ [a0] a1).1.rows, .int .i64 (driftV ⟨r, co, hs⟩ [a0] a1).1.cols, .slice Ah0 nh0 ch0]) := Lib.hid (by rw [hX16]; exact Blk.new _ _ _)
    have hs16 : w15.heap.size + 1 = w16.heap.size := by rw [hX16]; simp
    replace T := Lib.hid (T.out.trans (B16.mono T.out.size))
    replace OG1 := Lib.hid (OG1.out.below B16 (by omega))
    replace Ow0 := Lib.hid (Ow0.out.below B16 (by omega))
    replace OG2 := Lib.hid (OG2.out.below B16 (by omega))
    replace Og0 := Lib.hid (Og0.out.below B16 (by omega))
    replace OG4 := Lib.hid (OG4.out.below B16 (by omega))
    replace Oh0 := Lib.hid (Oh0.out.below B16 (by omega))
    replace KB := Lib.hid (KB.out.below B16 (by omega))
    have hKBl := KB.out.lt
    replace Kw := Lib.hid (Kw.out.below B16 (by omega))
    have hKwl := Kw.out.lt
    replace KX := Lib.hid (KX.out.below B16 (by omega))
    have hKXl := KX.out.lt
    replace Kg := Lib.hid (Kg.out.below B16 (by omega))
    have hKgl := Kg.out.lt
    have hKhl := Kh.out.lt
    clear B16
    go_upto_region 25 with (fail)
    rw [← hX16]
    clear hX16
    have yKw0 : w16.cell? ⟨w2.heap.size, 0, none⟩ = some (.int .i64 (driftV ⟨r, co, hs⟩ [a0] a1).1.rows) := Kw.out.cell 0
    have yKw1 : w16.cell? ⟨w2.heap.size, 1, none⟩ = some (.int .i64 (driftV ⟨r, co, hs⟩ [a0] a1).1.cols) := Kw.out.cell 1
    have yKw2 : w16.cell? ⟨w2.heap.size, 2, none⟩ = some (.slice Aw0 nw0 cw0) := Kw.out.cell 2
    have yKh0 : w16.cell? ⟨w15.heap.size, 0, none⟩ = some (.int .i64 (driftV ⟨r, co, hs⟩ [a0] a1).1.rows) := Kh.out.cell 0
    have yKh1 : w16.cell? ⟨w15.heap.size, 1, none⟩ = some (.int .i64 (driftV ⟨r, co, hs⟩ [a0] a1).1.cols) := Kh.out.cell 1
    have yKh2 : w16.cell? ⟨w15.heap.size, 2, none⟩ = some (.slice Ah0 nh0 ch0) := Kh.out.cell 2
    go_wp2_with fail
    refine (eqField_same (driftV ⟨r, co, hs⟩ [a0] a1).1 Ah0 Aw0 nh0 nw0 ch0 cw0 _ _ w16 Oh0.out.reads Ow0.out.reads (by omega) (by omega) (by omega)).mono ?_
    rintro e w17 ⟨rfl, B17⟩
    have hs17 := B17.size
    clear yKw0 yKw1 yKw2 yKh0 yKh1 yKh2
    replace T := Lib.hid (T.out.trans (B17.mono T.out.size))
    replace OG1 := Lib.hid (OG1.out.below B17 (by omega))
    replace Ow0 := Lib.hid (Ow0.out.below B17 (by omega))
    replace OG2 := Lib.hid (OG2.out.below B17 (by omega))
    replace Og0 := Lib.hid (Og0.out.below B17 (by omega))
    replace OG4 := Lib.hid (OG4.out.below B17 (by omega))
    replace Oh0 := Lib.hid (Oh0.out.below B17 (by omega))
    replace KB := Lib.hid (KB.out.below B17 (by omega))
    have hKBl := KB.out.lt
    replace Kw := Lib.hid (Kw.out.below B17 (by omega))
    have hKwl := Kw.out.lt
    replace KX := Lib.hid (KX.out.below B17 (by omega))
    have hKXl := KX.out.lt
    replace Kg := Lib.hid (Kg.out.below B17 (by omega))
    have hKgl := Kg.out.lt
    replace Kh := Lib.hid (Kh.out.below B17 (by omega))
    have hKhl := Kh.out.lt
    clear B17
    have yKg0 : w17.cell? ⟨w6.heap.size, 0, none⟩ = some (.int .i64 (driftV ⟨r, co, hs⟩ [a0] a1).1.rows) := Kg.out.cell 0
    have yKg1 : w17.cell? ⟨w6.heap.size, 1, none⟩ = some (.int .i64 (driftV ⟨r, co, hs⟩ [a0] a1).1.cols) := Kg.out.cell 1
    have yKg2 : w17.cell? ⟨w6.heap.size, 2, none⟩ = some (.slice Ag0 ng0 cg0) := Kg.out.cell 2
    go_wp2_with fail
    refine (heldField_c (driftV ⟨r, co, hs⟩ [a0] a1).1 Ag0 ng0 cg0 _ 1 w17 Og0.out.reads (by omega) (by omega) (by omega) (by omega)).mono ?_
    rintro e w18 ⟨rfl, B18⟩
    have hs18 := B18.size
    clear yKg0 yKg1 yKg2
    replace T := Lib.hid (T.out.trans (B18.mono T.out.size))
    replace OG1 := Lib.hid (OG1.out.below B18 (by omega))
    replace Ow0 := Lib.hid (Ow0.out.below B18 (by omega))
    replace OG2 := Lib.hid (OG2.out.below B18 (by omega))
    replace Og0 := Lib.hid (Og0.out.below B18 (by omega))
    replace OG4 := Lib.hid (OG4.out.below B18 (by omega))
    replace Oh0 := Lib.hid (Oh0.out.below B18 (by omega))
    replace KB := Lib.hid (KB.out.below B18 (by omega))
    have hKBl := KB.out.lt
    replace Kw := Lib.hid (Kw.out.below B18 (by omega))
    have hKwl := Kw.out.lt
    replace KX := Lib.hid (KX.out.below B18 (by omega))
    have hKXl := KX.out.lt
    replace Kg := Lib.hid (Kg.out.below B18 (by omega))
    have hKgl := Kg.out.lt
    replace Kh := Lib.hid (Kh.out.below B18 (by omega))
    have hKhl := Kh.out.lt
    clear B18
    go_wp2
    go_ret
    exact ⟨rfl, T.out⟩
namespace fnExactDriftStep
set_option maxRecDepth 100000 in
theorem lifted (os : Os) (started : os.Started) (H : Type) (enc : TypeId × Value → H) :
    ReturnsInHanded {} Try.checked os 3 .any (Rows.fnExactDriftStepSpec.pre6 enc Try.prog Try.f3 Rows.fnExactDriftStepRow.domain false) (Rows.fnExactDriftStepSpec.post enc Try.prog Try.f3 false true false false) := by
  refine returnsInHanded_of_change (C := Try.checked) ownKnobNone started (by kernel_rfl) Try.func3
    (ChangeSpec.witness6 (enc := enc) (C := Try.checked) false ⟨#[], #[wit_fiv, .int .i64 0, .int .i64 0], []⟩ 8 (by kernel_rfl) (by kernel_rfl) (by kernel_rfl) (by kernel_rfl)) ?_
  intro W base args ds gs before hval0 hW hcnd _
  have hval : ∀ (j : Nat) t v, Try.f3.params[j]? = some t → args[j]? = some v → Value.okWide Try.prog W .any base t v := hval0
  have hW' := hW
  obtain ⟨p, q, hA0, hV, rfl, hfz, hnd⟩ := hW
  have hA : DataW.TrodAll enc Try.prog W 0 (fun _ => true) true Try.f3.params.toList args.toList ds p := hA0
  rw [Try.params3] at hA hval
  obtain ⟨v0, vs0, d0, ds0, p0, q0, hargs, rfl, rfl, h0, r0⟩ := trodAll_cons hA
  obtain ⟨v1, vs1, d1, ds1, p1, q1, rfl, rfl, rfl, h1, r1⟩ := trodAll_cons r0
  obtain ⟨v2, vs2, d2, ds2, p2, q2, rfl, rfl, rfl, h2, r2⟩ := trodAll_cons r1
  obtain ⟨rfl, rfl, rfl⟩ := trodAll_nil r2
  obtain rfl : args = #[v0, v1, v2] := by cases args; simp_all
  obtain ⟨rfl, rfl⟩ := trodVars_none hV
  have k0 := h0
  have lt0 : ∀ x ∈ p0, x.block < W.heap.size := by obtain ⟨m, hm⟩ := k0; exact DataW.trod_lt m _ _ _ hm
  have k1 := h1
  have lt1 : ∀ x ∈ p1, x.block < W.heap.size := by obtain ⟨m, hm⟩ := k1; exact DataW.trod_lt m _ _ _ hm
  have k2 := h2
  have lt2 : ∀ x ∈ p2, x.block < W.heap.size := by obtain ⟨m, hm⟩ := k2; exact DataW.trod_lt m _ _ _ hm
  obtain ⟨x0, rfl, R0⟩ := open_fiv (hval 0 24 v0 rfl rfl) h0
  obtain ⟨a1, rfl, -, -, wf1⟩ := open_int Try.underlying2 (hval 1 2 v1 rfl rfl) h1
  obtain ⟨a2, rfl, -, -, wf2⟩ := open_int Try.underlying2 (hval 2 2 v2 rfl rfl) h2
  clear hA0 hval0
  refine (wDriftStep W x0 R0 a1 wf1 a2 wf2).mono fun e W' ⟨he, bel⟩ => ?_
  subst he
  exact ⟨_, rfl, _, _, _, [], _, [], hW', trodAll_mk1 (shut_bool Try.underlying4 _), (trodAll_cons_mk (Below.trod laidOut (by kernel_rfl) (of_decide_eq_true (by kernel_rfl)) k0 bel lt0) (trodAll_cons_mk (Below.trod laidOut (by kernel_rfl) (of_decide_eq_true (by kernel_rfl)) k1 bel lt1) (trodAll_cons_mk (Below.trod laidOut (by kernel_rfl) (of_decide_eq_true (by kernel_rfl)) k2 bel lt2) trodAll_mk0))), rfl, bel.frame _, fun h => by cases h⟩
theorem over : Rows.fnExactDriftStepRow.holds Try.pinned (OpenSpec.ofChange Rows.fnExactDriftStepSpec) :=
  OpenClaim.holds_of_wide 3 Try.f3 rfl rfl rfl rfl rfl rfl rfl ⟨rfl, rfl, rfl, rfl, rfl⟩ rfl rfl rfl rfl rfl (by kernel_rfl) Try.func3 (by kernel_rfl)
    (of_decide_eq_true (by kernel_rfl)) (by unfold Func.isWrapper; first | (rw [if_pos (by decide +kernel)]; kernel_rfl) | (rw [if_neg (by decide +kernel)]; exact ⟨rfl, rfl⟩))
    (fun os started H enc _ => lifted os started H enc)
theorem proved : Rows.FnExactDriftStepSaid := over
end fnExactDriftStep

end Go.Proofs.Ytndnjabalofcnaa
