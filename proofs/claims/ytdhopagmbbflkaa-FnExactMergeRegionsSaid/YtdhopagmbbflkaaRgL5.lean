/- Exact laws over lists of regions: MergeRegions. -/
import Derived.Test.YtdhopagmbbflkaaRgW
import Derived.ChangeMaps5
namespace Go.Proofs.Ytdhopagmbbflkaa
open Go.ChangeShapes Go.WideShapes Go.ChangeAt Go.RowKit
set_option linter.unusedVariables false

set_option maxHeartbeats 8000000 in
theorem wMergeRegions (w : World) (x0 : Option Addr × Nat × Nat) (R0 : ∃ rs, Regs w w.heap.size x0.1 x0.2.1 rs ∧ (∀ y ∈ rs, RgFit y) ∧ x0.2.1 ≤ x0.2.2 ∧ x0.2.2 ≤ maxLen) (x1 : Option Addr × Nat × Nat) (R1 : ∃ rs, Regs w w.heap.size x1.1 x1.2.1 rs ∧ (∀ y ∈ rs, RgFit y) ∧ x1.2.1 ≤ x1.2.2 ∧ x1.2.2 ≤ maxLen) :
    Calls Try.prog 8 #[.slice x0.1 x0.2.1 x0.2.2, .slice x1.1 x1.2.1 x1.2.2] w fun e w' => e = .returned (.bool true) ∧ Below w.heap.size w w' := by
  obtain ⟨A0, n0, c0⟩ := x0
  obtain ⟨rs0, hR0, hF0, hnc0, hmx0⟩ := R0
  simp only [maxLen] at hR0 hnc0 hmx0
  obtain ⟨A1, n1, c1⟩ := x1
  obtain ⟨rs1, hR1, hF1, hnc1, hmx1⟩ := R1
  simp only [maxLen] at hR1 hnc1 hmx1
  have R0 := Lib.hid hR0
  have ft0 := Lib.hid hF0
  have R1 := Lib.hid hR1
  have ft1 := Lib.hid hF1
  clear hR0 hF0 hR1 hF1
  go_enter Try.func8, Try.ntmps8
  have T := Lib.hid (Below.refl w.heap.size w)
  go_wp2_with fail
  refine (szRegionS_c A0 n0 c0 _ rs0 1048576 w (R0.out.below T.out) (by have := T.out.size; omega) ft0.out (by omega) (by omega) (by omega)).mono ?_
  rintro e w1 ⟨v0, rfl, hv0, B1⟩
  have hs1 := B1.size
  replace T := Lib.hid (T.out.trans (B1.mono T.out.size))
  clear B1
  rcases hv0 with rfl | ⟨hz0, hs0⟩
  · go_wp2
    go_ret
    exact ⟨rfl, T.out⟩
  have hp0 : ¬ (v0 < 0) := by omega
  go_wp2_with fail
  refine (szRegionS_c A1 n1 c1 _ rs1 v0 w1 (R1.out.below T.out) (by have := T.out.size; omega) ft1.out (by omega) (by omega) (by omega)).mono ?_
  rintro e w2 ⟨v1, rfl, hv1, B2⟩
  have hs2 := B2.size
  replace T := Lib.hid (T.out.trans (B2.mono T.out.size))
  clear B2
  rcases hv1 with rfl | ⟨hz1, hs1⟩
  · go_wp2
    go_ret
    exact ⟨rfl, T.out⟩
  have hp1 : ¬ (v1 < 0) := by omega
  have hx0 := Lib.hid (fun y (hy : y ∈ rs0) => (show y.n ≤ 1048576 by have := sumN_mem hy; omega))
  have hx1 := Lib.hid (fun y (hy : y ∈ rs1) => (show y.n ≤ 1048576 by have := sumN_mem hy; omega))
  go_wp2_with fail
  refine (toRegionS_own A0 n0 c0 _ rs0 w2 (R0.out.below T.out) hx0.out (by have := T.out.size; omega) (by omega)).mono ?_
  rintro e w3 ⟨Dv0, dv0, pv0, rfl, Ov0, ev0, B3⟩
  have hs3 := B3.size
  replace T := Lib.hid (T.out.trans (B3.mono T.out.size))
  replace Ov0 := Lib.hid Ov0
  clear B3
  have hxv0 := Lib.hid (own_fit Ov0.out R0.out ev0 hx0.out)
  replace ev0 := Lib.hid ev0
  go_wp2_with fail
  refine (toRegionS_own A1 n1 c1 _ rs1 w3 (R1.out.below T.out) hx1.out (by have := T.out.size; omega) (by omega)).mono ?_
  rintro e w4 ⟨Dv1, dv1, pv1, rfl, Ov1, ev1, B4⟩
  have hs4 := B4.size
  replace T := Lib.hid (T.out.trans (B4.mono T.out.size))
  replace Ov0 := Lib.hid (Ov0.out.below B4 (by omega))
  replace Ov1 := Lib.hid Ov1
  clear B4
  have hxv1 := Lib.hid (own_fit Ov1.out R1.out ev1 hx1.out)
  replace ev1 := Lib.hid ev1
  go_wp2_with fail
  refine (sMergeRegions_d Dv0 n0 dv0 _ pv0 Dv1 n1 dv1 _ pv1 w4 Ov0.out.regs (by omega) hxv0.out (by omega) Ov1.out.regs (by omega) hxv1.out (by omega)).mono ?_
  rintro e w5 ⟨Aw0, nw0, cw0, qw0, rfl, Ow0, hnw0, fw0, hmw0, B5⟩
  have hs5 := B5.size
  replace T := Lib.hid (T.out.trans (B5.mono T.out.size))
  replace Ov0 := Lib.hid (Ov0.out.below B5 (by omega))
  replace Ov1 := Lib.hid (Ov1.out.below B5 (by omega))
  replace Ow0 := Lib.hid Ow0
  clear B5
  replace fw0 := Lib.hid fw0
  (try simp only [ev0.out])
  (try simp only [ev0.out] at fw0)
  (try simp only [ev1.out])
  (try simp only [ev1.out] at fw0)
  go_wp2_with fail
  refine (toRegionS_own A0 n0 c0 _ rs0 w5 (R0.out.below T.out) hx0.out (by have := T.out.size; omega) (by omega)).mono ?_
  rintro e w6 ⟨Dx0, dx0, px0, rfl, Ox0, ex0, B6⟩
  have hs6 := B6.size
  replace T := Lib.hid (T.out.trans (B6.mono T.out.size))
  replace Ov0 := Lib.hid (Ov0.out.below B6 (by omega))
  replace Ov1 := Lib.hid (Ov1.out.below B6 (by omega))
  replace Ow0 := Lib.hid (Ow0.out.below B6 (by omega))
  replace Ox0 := Lib.hid Ox0
  clear B6
  have hxx0 := Lib.hid (own_fit Ox0.out R0.out ex0 hx0.out)
  replace ex0 := Lib.hid ex0
  go_wp2_with fail
  refine (toRegionS_own A1 n1 c1 _ rs1 w6 (R1.out.below T.out) hx1.out (by have := T.out.size; omega) (by omega)).mono ?_
  rintro e w7 ⟨Dx1, dx1, px1, rfl, Ox1, ex1, B7⟩
  have hs7 := B7.size
  replace T := Lib.hid (T.out.trans (B7.mono T.out.size))
  replace Ov0 := Lib.hid (Ov0.out.below B7 (by omega))
  replace Ov1 := Lib.hid (Ov1.out.below B7 (by omega))
  replace Ow0 := Lib.hid (Ow0.out.below B7 (by omega))
  replace Ox0 := Lib.hid (Ox0.out.below B7 (by omega))
  replace Ox1 := Lib.hid Ox1
  clear B7
  have hxx1 := Lib.hid (own_fit Ox1.out R1.out ex1 hx1.out)
  replace ex1 := Lib.hid ex1
  go_wp2_with fail
  refine (iMergeRegions_d Dx0 n0 dx0 _ px0 Dx1 n1 dx1 _ px1 w7 Ox0.out.regs (by omega) hxx0.out (by omega) Ox1.out.regs (by omega) hxx1.out (by omega)).mono ?_
  rintro e w8 ⟨Ag0, ng0, cg0, qg0, rfl, Og0, hng0, fg0, hmg0, B8⟩
  have hs8 := B8.size
  replace T := Lib.hid (T.out.trans (B8.mono T.out.size))
  replace Ov0 := Lib.hid (Ov0.out.below B8 (by omega))
  replace Ov1 := Lib.hid (Ov1.out.below B8 (by omega))
  replace Ow0 := Lib.hid (Ow0.out.below B8 (by omega))
  replace Ox0 := Lib.hid (Ox0.out.below B8 (by omega))
  replace Ox1 := Lib.hid (Ox1.out.below B8 (by omega))
  replace Og0 := Lib.hid Og0
  clear B8
  replace fg0 := Lib.hid fg0
  (try simp only [ex0.out])
  (try simp only [ex0.out] at fg0)
  (try simp only [ex1.out])
  (try simp only [ex1.out] at fg0)
  go_wp2_with fail
  refine (eqRegionS_same Ag0 Aw0 ng0 nw0 cg0 cw0 _ _ _ _ w8 Og0.out.regs Ow0.out.regs (fg0.out.trans fw0.out.symm) hmg0 (by omega) (by omega) (by omega)).mono ?_
  rintro e w9 ⟨rfl, B9⟩
  have hs9 := B9.size
  replace T := Lib.hid (T.out.trans (B9.mono T.out.size))
  replace Ov0 := Lib.hid (Ov0.out.below B9 (by omega))
  replace Ov1 := Lib.hid (Ov1.out.below B9 (by omega))
  replace Ow0 := Lib.hid (Ow0.out.below B9 (by omega))
  replace Ox0 := Lib.hid (Ox0.out.below B9 (by omega))
  replace Ox1 := Lib.hid (Ox1.out.below B9 (by omega))
  replace Og0 := Lib.hid (Og0.out.below B9 (by omega))
  clear B9
  go_wp2_with fail
  refine (toRegionS_own A0 n0 c0 _ rs0 w9 (R0.out.below T.out) hx0.out (by have := T.out.size; omega) (by omega)).mono ?_
  rintro e w10 ⟨Dy0, dy0, py0, rfl, Oy0, ey0, B10⟩
  have hs10 := B10.size
  replace T := Lib.hid (T.out.trans (B10.mono T.out.size))
  replace Ov0 := Lib.hid (Ov0.out.below B10 (by omega))
  replace Ov1 := Lib.hid (Ov1.out.below B10 (by omega))
  replace Ow0 := Lib.hid (Ow0.out.below B10 (by omega))
  replace Ox0 := Lib.hid (Ox0.out.below B10 (by omega))
  replace Ox1 := Lib.hid (Ox1.out.below B10 (by omega))
  replace Og0 := Lib.hid (Og0.out.below B10 (by omega))
  replace Oy0 := Lib.hid Oy0
  clear B10
  have hxy0 := Lib.hid (own_fit Oy0.out R0.out ey0 hx0.out)
  replace ey0 := Lib.hid ey0
  go_wp2_with fail
  refine (eqRegionS_same Dx0 Dy0 n0 n0 dx0 dy0 _ _ px0 py0 w10 Ox0.out.regs Oy0.out.regs (ex0.out.trans ey0.out.symm) hxx0.out (by omega) (by omega) (by omega)).mono ?_
  rintro e w11 ⟨rfl, B11⟩
  have hs11 := B11.size
  replace T := Lib.hid (T.out.trans (B11.mono T.out.size))
  replace Ov0 := Lib.hid (Ov0.out.below B11 (by omega))
  replace Ov1 := Lib.hid (Ov1.out.below B11 (by omega))
  replace Ow0 := Lib.hid (Ow0.out.below B11 (by omega))
  replace Ox0 := Lib.hid (Ox0.out.below B11 (by omega))
  replace Ox1 := Lib.hid (Ox1.out.below B11 (by omega))
  replace Og0 := Lib.hid (Og0.out.below B11 (by omega))
  replace Oy0 := Lib.hid (Oy0.out.below B11 (by omega))
  clear B11
  go_wp2_with fail
  refine (toRegionS_own A1 n1 c1 _ rs1 w11 (R1.out.below T.out) hx1.out (by have := T.out.size; omega) (by omega)).mono ?_
  rintro e w12 ⟨Dy1, dy1, py1, rfl, Oy1, ey1, B12⟩
  have hs12 := B12.size
  replace T := Lib.hid (T.out.trans (B12.mono T.out.size))
  replace Ov0 := Lib.hid (Ov0.out.below B12 (by omega))
  replace Ov1 := Lib.hid (Ov1.out.below B12 (by omega))
  replace Ow0 := Lib.hid (Ow0.out.below B12 (by omega))
  replace Ox0 := Lib.hid (Ox0.out.below B12 (by omega))
  replace Ox1 := Lib.hid (Ox1.out.below B12 (by omega))
  replace Og0 := Lib.hid (Og0.out.below B12 (by omega))
  replace Oy0 := Lib.hid (Oy0.out.below B12 (by omega))
  replace Oy1 := Lib.hid Oy1
  clear B12
  have hxy1 := Lib.hid (own_fit Oy1.out R1.out ey1 hx1.out)
  replace ey1 := Lib.hid ey1
  go_wp2_with fail
  refine (eqRegionS_same Dx1 Dy1 n1 n1 dx1 dy1 _ _ px1 py1 w12 Ox1.out.regs Oy1.out.regs (ex1.out.trans ey1.out.symm) hxx1.out (by omega) (by omega) (by omega)).mono ?_
  rintro e w13 ⟨rfl, B13⟩
  have hs13 := B13.size
  replace T := Lib.hid (T.out.trans (B13.mono T.out.size))
  replace Ov0 := Lib.hid (Ov0.out.below B13 (by omega))
  replace Ov1 := Lib.hid (Ov1.out.below B13 (by omega))
  replace Ow0 := Lib.hid (Ow0.out.below B13 (by omega))
  replace Ox0 := Lib.hid (Ox0.out.below B13 (by omega))
  replace Ox1 := Lib.hid (Ox1.out.below B13 (by omega))
  replace Og0 := Lib.hid (Og0.out.below B13 (by omega))
  replace Oy0 := Lib.hid (Oy0.out.below B13 (by omega))
  replace Oy1 := Lib.hid (Oy1.out.below B13 (by omega))
  clear B13
  obtain ⟨ma0, mb0⟩ := mrk_bd hxx0.out Ox0.out.regs.len (by omega)
  go_wp2_with fail
  refine (markRegionS_c Dx0 n0 dx0 _ _ px0 1 w13 Ox0.out hxx0.out (by omega) (by omega) (by omega) (by omega)).mono ?_
  rintro e w14 ⟨rfl, Ox0', Y14⟩
  have hs14 := Y14.size
  replace T := Lib.hid (T.out.trans (Y14.below (by omega) (by omega)))
  replace Ov0 := Lib.hid (Ov0.out.only Y14 (by omega))
  replace Ov1 := Lib.hid (Ov1.out.only Y14 (by omega))
  replace Ow0 := Lib.hid (Ow0.out.only Y14 (by omega))
  replace Ox1 := Lib.hid (Ox1.out.only Y14 (by omega))
  replace Og0 := Lib.hid (Og0.out.only Y14 (by omega))
  replace Oy0 := Lib.hid (Oy0.out.only Y14 (by omega))
  replace Oy1 := Lib.hid (Oy1.out.only Y14 (by omega))
  clear Ox0; have Ox0 := Lib.hid Ox0'; clear Ox0' Y14
  obtain ⟨ma1, mb1⟩ := mrk_bd hxx1.out Ox1.out.regs.len (by omega)
  go_wp2_with fail
  refine (markRegionS_c Dx1 n1 dx1 _ _ px1 (1 + mrk n0 px0) w14 Ox1.out hxx1.out (by omega) (by omega) (by omega) (by omega)).mono ?_
  rintro e w15 ⟨rfl, Ox1', Y15⟩
  have hs15 := Y15.size
  replace T := Lib.hid (T.out.trans (Y15.below (by omega) (by omega)))
  replace Ov0 := Lib.hid (Ov0.out.only Y15 (by omega))
  replace Ov1 := Lib.hid (Ov1.out.only Y15 (by omega))
  replace Ow0 := Lib.hid (Ow0.out.only Y15 (by omega))
  replace Ox0 := Lib.hid (Ox0.out.only Y15 (by omega))
  replace Og0 := Lib.hid (Og0.out.only Y15 (by omega))
  replace Oy0 := Lib.hid (Oy0.out.only Y15 (by omega))
  replace Oy1 := Lib.hid (Oy1.out.only Y15 (by omega))
  clear Ox1; have Ox1 := Lib.hid Ox1'; clear Ox1' Y15
  go_wp2_with fail
  refine (eqRegionS_same Ag0 Aw0 ng0 nw0 cg0 cw0 _ _ _ _ w15 Og0.out.regs Ow0.out.regs (fg0.out.trans fw0.out.symm) hmg0 (by omega) (by omega) (by omega)).mono ?_
  rintro e w16 ⟨rfl, B16⟩
  have hs16 := B16.size
  replace T := Lib.hid (T.out.trans (B16.mono T.out.size))
  replace Ov0 := Lib.hid (Ov0.out.below B16 (by omega))
  replace Ov1 := Lib.hid (Ov1.out.below B16 (by omega))
  replace Ow0 := Lib.hid (Ow0.out.below B16 (by omega))
  replace Ox0 := Lib.hid (Ox0.out.below B16 (by omega))
  replace Ox1 := Lib.hid (Ox1.out.below B16 (by omega))
  replace Og0 := Lib.hid (Og0.out.below B16 (by omega))
  replace Oy0 := Lib.hid (Oy0.out.below B16 (by omega))
  replace Oy1 := Lib.hid (Oy1.out.below B16 (by omega))
  clear B16
  obtain ⟨na0, nb0⟩ := mrk_bd hmg0 Og0.out.regs.len (by omega)
  go_wp2_with fail
  refine (markRegionS_c Ag0 ng0 cg0 _ _ qg0 1 w16 Og0.out hmg0 (by omega) (by omega) (by omega) (by omega)).mono ?_
  rintro e w17 ⟨rfl, Og0', Y17⟩
  have hs17 := Y17.size
  replace T := Lib.hid (T.out.trans (Y17.below (by omega) (by omega)))
  replace Ov0 := Lib.hid (Ov0.out.only Y17 (by omega))
  replace Ov1 := Lib.hid (Ov1.out.only Y17 (by omega))
  replace Ow0 := Lib.hid (Ow0.out.only Y17 (by omega))
  replace Ox0 := Lib.hid (Ox0.out.only Y17 (by omega))
  replace Ox1 := Lib.hid (Ox1.out.only Y17 (by omega))
  replace Oy0 := Lib.hid (Oy0.out.only Y17 (by omega))
  replace Oy1 := Lib.hid (Oy1.out.only Y17 (by omega))
  clear Og0; have Og0 := Lib.hid Og0'; clear Og0' Y17
  go_wp2_with fail
  refine (heldRegionS_c Ag0 ng0 cg0 _ qg0 1 w17 Og0.out.regs hmg0 (by omega) (by omega) (by omega) (by omega)).mono ?_
  rintro e w18 ⟨rfl, B18⟩
  have hs18 := B18.size
  replace T := Lib.hid (T.out.trans (B18.mono T.out.size))
  replace Ov0 := Lib.hid (Ov0.out.below B18 (by omega))
  replace Ov1 := Lib.hid (Ov1.out.below B18 (by omega))
  replace Ow0 := Lib.hid (Ow0.out.below B18 (by omega))
  replace Ox0 := Lib.hid (Ox0.out.below B18 (by omega))
  replace Ox1 := Lib.hid (Ox1.out.below B18 (by omega))
  replace Og0 := Lib.hid (Og0.out.below B18 (by omega))
  replace Oy0 := Lib.hid (Oy0.out.below B18 (by omega))
  replace Oy1 := Lib.hid (Oy1.out.below B18 (by omega))
  clear B18
  go_wp2_with fail
  refine (toRegionS_own A0 n0 c0 _ rs0 w18 (R0.out.below T.out) hx0.out (by have := T.out.size; omega) (by omega)).mono ?_
  rintro e w19 ⟨Du0, du0, pu0, rfl, Ou0, eu0, B19⟩
  have hs19 := B19.size
  replace T := Lib.hid (T.out.trans (B19.mono T.out.size))
  replace Ov0 := Lib.hid (Ov0.out.below B19 (by omega))
  replace Ov1 := Lib.hid (Ov1.out.below B19 (by omega))
  replace Ow0 := Lib.hid (Ow0.out.below B19 (by omega))
  replace Ox0 := Lib.hid (Ox0.out.below B19 (by omega))
  replace Ox1 := Lib.hid (Ox1.out.below B19 (by omega))
  replace Og0 := Lib.hid (Og0.out.below B19 (by omega))
  replace Oy0 := Lib.hid (Oy0.out.below B19 (by omega))
  replace Oy1 := Lib.hid (Oy1.out.below B19 (by omega))
  replace Ou0 := Lib.hid Ou0
  clear B19
  have hxu0 := Lib.hid (own_fit Ou0.out R0.out eu0 hx0.out)
  replace eu0 := Lib.hid eu0
  go_wp2_with fail
  refine (toRegionS_own A1 n1 c1 _ rs1 w19 (R1.out.below T.out) hx1.out (by have := T.out.size; omega) (by omega)).mono ?_
  rintro e w20 ⟨Du1, du1, pu1, rfl, Ou1, eu1, B20⟩
  have hs20 := B20.size
  replace T := Lib.hid (T.out.trans (B20.mono T.out.size))
  replace Ov0 := Lib.hid (Ov0.out.below B20 (by omega))
  replace Ov1 := Lib.hid (Ov1.out.below B20 (by omega))
  replace Ow0 := Lib.hid (Ow0.out.below B20 (by omega))
  replace Ox0 := Lib.hid (Ox0.out.below B20 (by omega))
  replace Ox1 := Lib.hid (Ox1.out.below B20 (by omega))
  replace Og0 := Lib.hid (Og0.out.below B20 (by omega))
  replace Oy0 := Lib.hid (Oy0.out.below B20 (by omega))
  replace Oy1 := Lib.hid (Oy1.out.below B20 (by omega))
  replace Ou0 := Lib.hid (Ou0.out.below B20 (by omega))
  replace Ou1 := Lib.hid Ou1
  clear B20
  have hxu1 := Lib.hid (own_fit Ou1.out R1.out eu1 hx1.out)
  replace eu1 := Lib.hid eu1
  go_wp2_with fail
  refine (iMergeRegions_d Du0 n0 du0 _ pu0 Du1 n1 du1 _ pu1 w20 Ou0.out.regs (by omega) hxu0.out (by omega) Ou1.out.regs (by omega) hxu1.out (by omega)).mono ?_
  rintro e w21 ⟨Ah0, nh0, ch0, qh0, rfl, Oh0, hnh0, fh0, hmh0, B21⟩
  have hs21 := B21.size
  replace T := Lib.hid (T.out.trans (B21.mono T.out.size))
  replace Ov0 := Lib.hid (Ov0.out.below B21 (by omega))
  replace Ov1 := Lib.hid (Ov1.out.below B21 (by omega))
  replace Ow0 := Lib.hid (Ow0.out.below B21 (by omega))
  replace Ox0 := Lib.hid (Ox0.out.below B21 (by omega))
  replace Ox1 := Lib.hid (Ox1.out.below B21 (by omega))
  replace Og0 := Lib.hid (Og0.out.below B21 (by omega))
  replace Oy0 := Lib.hid (Oy0.out.below B21 (by omega))
  replace Oy1 := Lib.hid (Oy1.out.below B21 (by omega))
  replace Ou0 := Lib.hid (Ou0.out.below B21 (by omega))
  replace Ou1 := Lib.hid (Ou1.out.below B21 (by omega))
  replace Oh0 := Lib.hid Oh0
  clear B21
  replace fh0 := Lib.hid fh0
  (try simp only [eu0.out])
  (try simp only [eu0.out] at fh0)
  (try simp only [eu1.out])
  (try simp only [eu1.out] at fh0)
  go_wp2_with fail
  refine (eqRegionS_same Ah0 Aw0 nh0 nw0 ch0 cw0 _ _ _ _ w21 Oh0.out.regs Ow0.out.regs (fh0.out.trans fw0.out.symm) hmh0 (by omega) (by omega) (by omega)).mono ?_
  rintro e w22 ⟨rfl, B22⟩
  have hs22 := B22.size
  replace T := Lib.hid (T.out.trans (B22.mono T.out.size))
  replace Ov0 := Lib.hid (Ov0.out.below B22 (by omega))
  replace Ov1 := Lib.hid (Ov1.out.below B22 (by omega))
  replace Ow0 := Lib.hid (Ow0.out.below B22 (by omega))
  replace Ox0 := Lib.hid (Ox0.out.below B22 (by omega))
  replace Ox1 := Lib.hid (Ox1.out.below B22 (by omega))
  replace Og0 := Lib.hid (Og0.out.below B22 (by omega))
  replace Oy0 := Lib.hid (Oy0.out.below B22 (by omega))
  replace Oy1 := Lib.hid (Oy1.out.below B22 (by omega))
  replace Ou0 := Lib.hid (Ou0.out.below B22 (by omega))
  replace Ou1 := Lib.hid (Ou1.out.below B22 (by omega))
  replace Oh0 := Lib.hid (Oh0.out.below B22 (by omega))
  clear B22
  go_wp2_with fail
  refine (heldRegionS_c Ag0 ng0 cg0 _ qg0 1 w22 Og0.out.regs hmg0 (by omega) (by omega) (by omega) (by omega)).mono ?_
  rintro e w23 ⟨rfl, B23⟩
  have hs23 := B23.size
  replace T := Lib.hid (T.out.trans (B23.mono T.out.size))
  replace Ov0 := Lib.hid (Ov0.out.below B23 (by omega))
  replace Ov1 := Lib.hid (Ov1.out.below B23 (by omega))
  replace Ow0 := Lib.hid (Ow0.out.below B23 (by omega))
  replace Ox0 := Lib.hid (Ox0.out.below B23 (by omega))
  replace Ox1 := Lib.hid (Ox1.out.below B23 (by omega))
  replace Og0 := Lib.hid (Og0.out.below B23 (by omega))
  replace Oy0 := Lib.hid (Oy0.out.below B23 (by omega))
  replace Oy1 := Lib.hid (Oy1.out.below B23 (by omega))
  replace Ou0 := Lib.hid (Ou0.out.below B23 (by omega))
  replace Ou1 := Lib.hid (Ou1.out.below B23 (by omega))
  replace Oh0 := Lib.hid (Oh0.out.below B23 (by omega))
  clear B23
  go_wp2
  go_ret
  exact ⟨rfl, T.out⟩
namespace fnExactMergeRegions
set_option maxRecDepth 100000 in
theorem lifted (os : Os) (started : os.Started) (H : Type) (enc : TypeId × Value → H) :
    ReturnsInHanded {} Try.checked os 8 .any (Rows.fnExactMergeRegionsSpec.pre6 enc Try.prog Try.f8 Rows.fnExactMergeRegionsRow.domain false) (Rows.fnExactMergeRegionsSpec.post enc Try.prog Try.f8 false true false false) := by
  refine returnsInHanded_of_change (C := Try.checked) ownKnobNone started (by kernel_rfl) Try.func8
    (ChangeSpec.witness6 (enc := enc) (C := Try.checked) false ⟨#[], #[wit_rgs, wit_rgs], []⟩ 8 (by kernel_rfl) (by kernel_rfl) (by kernel_rfl) (by kernel_rfl)) ?_
  intro W base args ds gs before hval0 hW hcnd _
  have hval : ∀ (j : Nat) t v, Try.f8.params[j]? = some t → args[j]? = some v → Value.okWide Try.prog W .any base t v := hval0
  have hW' := hW
  obtain ⟨p, q, hA0, hV, rfl, hfz, hnd⟩ := hW
  have hA : DataW.TrodAll enc Try.prog W 0 (fun _ => true) true Try.f8.params.toList args.toList ds p := hA0
  rw [Try.params8] at hA hval
  obtain ⟨v0, vs0, d0, ds0, p0, q0, hargs, rfl, rfl, h0, r0⟩ := trodAll_cons hA
  obtain ⟨v1, vs1, d1, ds1, p1, q1, rfl, rfl, rfl, h1, r1⟩ := trodAll_cons r0
  obtain ⟨rfl, rfl, rfl⟩ := trodAll_nil r1
  obtain rfl : args = #[v0, v1] := by cases args; simp_all
  obtain ⟨rfl, rfl⟩ := trodVars_none hV
  have k0 := h0
  have lt0 : ∀ x ∈ p0, x.block < W.heap.size := by obtain ⟨m, hm⟩ := k0; exact DataW.trod_lt m _ _ _ hm
  have k1 := h1
  have lt1 : ∀ x ∈ p1, x.block < W.heap.size := by obtain ⟨m, hm⟩ := k1; exact DataW.trod_lt m _ _ _ hm
  obtain ⟨x0, rfl, R0⟩ := open_rgs (hval 0 22 v0 rfl rfl) h0
  obtain ⟨x1, rfl, R1⟩ := open_rgs (hval 1 22 v1 rfl rfl) h1
  clear hA0 hval0
  refine (wMergeRegions W x0 R0 x1 R1).mono fun e W' ⟨he, bel⟩ => ?_
  subst he
  exact ⟨_, rfl, _, _, _, [], _, [], hW', trodAll_mk1 (shut_bool Try.underlying4 _), (trodAll_cons_mk (Below.trod laidOut (by kernel_rfl) (of_decide_eq_true (by kernel_rfl)) k0 bel lt0) (trodAll_cons_mk (Below.trod laidOut (by kernel_rfl) (of_decide_eq_true (by kernel_rfl)) k1 bel lt1) trodAll_mk0)), rfl, bel.frame _, fun h => by cases h⟩
theorem over : Rows.fnExactMergeRegionsRow.holds Try.pinned (OpenSpec.ofChange Rows.fnExactMergeRegionsSpec) :=
  OpenClaim.holds_of_wide 8 Try.f8 rfl rfl rfl rfl rfl rfl rfl ⟨rfl, rfl, rfl, rfl, rfl⟩ rfl rfl rfl rfl rfl (by kernel_rfl) Try.func8 (by kernel_rfl)
    (of_decide_eq_true (by kernel_rfl)) (by unfold Func.isWrapper; first | (rw [if_pos (by decide +kernel)]; kernel_rfl) | (rw [if_neg (by decide +kernel)]; exact ⟨rfl, rfl⟩))
    (fun os started H enc _ => lifted os started H enc)
theorem proved : Rows.FnExactMergeRegionsSaid := over
end fnExactMergeRegions

end Go.Proofs.Ytdhopagmbbflkaa
