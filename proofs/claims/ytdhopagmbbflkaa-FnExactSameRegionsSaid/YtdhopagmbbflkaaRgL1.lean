/- Exact laws over lists of regions: SameRegions. -/
import Derived.Test.YtdhopagmbbflkaaRgG
namespace Go.Proofs.Ytdhopagmbbflkaa
open Go.ChangeShapes Go.WideShapes Go.ChangeAt Go.RowKit
set_option linter.unusedVariables false

set_option maxHeartbeats 8000000 in
theorem wSameRegions (w : World) (x0 : Option Addr × Nat × Nat) (R0 : ∃ rs, Regs w w.heap.size x0.1 x0.2.1 rs ∧ (∀ y ∈ rs, RgFit y) ∧ x0.2.1 ≤ x0.2.2 ∧ x0.2.2 ≤ maxLen) (x1 : Option Addr × Nat × Nat) (R1 : ∃ rs, Regs w w.heap.size x1.1 x1.2.1 rs ∧ (∀ y ∈ rs, RgFit y) ∧ x1.2.1 ≤ x1.2.2 ∧ x1.2.2 ≤ maxLen) :
    Calls Try.prog 3 #[.slice x0.1 x0.2.1 x0.2.2, .slice x1.1 x1.2.1 x1.2.2] w fun e w' => e = .returned (.bool true) ∧ Below w.heap.size w w' := by
  obtain ⟨A0, n0, c0⟩ := x0
  obtain ⟨rs0, hR0, hF0, hnc0, hmx0⟩ := R0
  simp only [maxLen] at hR0 hnc0 hmx0
  obtain ⟨A1, n1, c1⟩ := x1
  obtain ⟨rs1, hR1, hF1, hnc1, hmx1⟩ := R1
  simp only [maxLen] at hR1 hnc1 hmx1
  have R0 := Lib.hid hR0
  have ft0 := Lib.hid hF0
  have R1 := Lib.hid hR1
  have ft1 := Lib.hid hF1
  clear hR0 hF0 hR1 hF1
  go_enter Try.func3, Try.ntmps3
  have T := Lib.hid (Below.refl w.heap.size w)
  go_wp2_with fail
  refine (szRegionS_c A0 n0 c0 _ rs0 1048576 w (R0.out.below T.out) (by have := T.out.size; omega) ft0.out (by omega) (by omega) (by omega)).mono ?_
  rintro e w1 ⟨v0, rfl, hv0, B1⟩
  have hs1 := B1.size
  replace T := Lib.hid (T.out.trans (B1.mono T.out.size))
  clear B1
  rcases hv0 with rfl | ⟨hz0, hs0⟩
  · go_wp2
    go_ret
    exact ⟨rfl, T.out⟩
  have hp0 : ¬ (v0 < 0) := by omega
  go_wp2_with fail
  refine (szRegionS_c A1 n1 c1 _ rs1 v0 w1 (R1.out.below T.out) (by have := T.out.size; omega) ft1.out (by omega) (by omega) (by omega)).mono ?_
  rintro e w2 ⟨v1, rfl, hv1, B2⟩
  have hs2 := B2.size
  replace T := Lib.hid (T.out.trans (B2.mono T.out.size))
  clear B2
  rcases hv1 with rfl | ⟨hz1, hs1⟩
  · go_wp2
    go_ret
    exact ⟨rfl, T.out⟩
  have hp1 : ¬ (v1 < 0) := by omega
  have hx0 := Lib.hid (fun y (hy : y ∈ rs0) => (show y.n ≤ 1048576 by have := sumN_mem hy; omega))
  have hx1 := Lib.hid (fun y (hy : y ∈ rs1) => (show y.n ≤ 1048576 by have := sumN_mem hy; omega))
  go_wp2_with fail
  refine (toRegionS_own A0 n0 c0 _ rs0 w2 (R0.out.below T.out) hx0.out (by have := T.out.size; omega) (by omega)).mono ?_
  rintro e w3 ⟨Dw0, dw0, pw0, rfl, Ow0, ew0, B3⟩
  have hs3 := B3.size
  replace T := Lib.hid (T.out.trans (B3.mono T.out.size))
  replace Ow0 := Lib.hid Ow0
  clear B3
  have hxw0 := Lib.hid (own_fit Ow0.out R0.out ew0 hx0.out)
  replace ew0 := Lib.hid ew0
  go_wp2_with fail
  refine (toRegionS_own A1 n1 c1 _ rs1 w3 (R1.out.below T.out) hx1.out (by have := T.out.size; omega) (by omega)).mono ?_
  rintro e w4 ⟨Dw1, dw1, pw1, rfl, Ow1, ew1, B4⟩
  have hs4 := B4.size
  replace T := Lib.hid (T.out.trans (B4.mono T.out.size))
  replace Ow0 := Lib.hid (Ow0.out.below B4 (by omega))
  replace Ow1 := Lib.hid Ow1
  clear B4
  have hxw1 := Lib.hid (own_fit Ow1.out R1.out ew1 hx1.out)
  replace ew1 := Lib.hid ew1
  go_wp2_with fail
  refine (sSameRegions_d Dw0 n0 dw0 _ pw0 Dw1 n1 dw1 _ pw1 w4 Ow0.out.regs (by omega) hxw0.out (by omega) Ow1.out.regs (by omega) hxw1.out (by omega)).mono ?_
  rintro e w5 ⟨rfl, B5⟩
  have hs5 := B5.size
  replace T := Lib.hid (T.out.trans (B5.mono T.out.size))
  replace Ow0 := Lib.hid (Ow0.out.below B5 (by omega))
  replace Ow1 := Lib.hid (Ow1.out.below B5 (by omega))
  clear B5
  simp only [ew0.out]
  simp only [ew1.out]
  go_wp2_with fail
  refine (toRegionS_own A0 n0 c0 _ rs0 w5 (R0.out.below T.out) hx0.out (by have := T.out.size; omega) (by omega)).mono ?_
  rintro e w6 ⟨Dx0, dx0, px0, rfl, Ox0, ex0, B6⟩
  have hs6 := B6.size
  replace T := Lib.hid (T.out.trans (B6.mono T.out.size))
  replace Ow0 := Lib.hid (Ow0.out.below B6 (by omega))
  replace Ow1 := Lib.hid (Ow1.out.below B6 (by omega))
  replace Ox0 := Lib.hid Ox0
  clear B6
  have hxx0 := Lib.hid (own_fit Ox0.out R0.out ex0 hx0.out)
  replace ex0 := Lib.hid ex0
  go_wp2_with fail
  refine (toRegionS_own A1 n1 c1 _ rs1 w6 (R1.out.below T.out) hx1.out (by have := T.out.size; omega) (by omega)).mono ?_
  rintro e w7 ⟨Dx1, dx1, px1, rfl, Ox1, ex1, B7⟩
  have hs7 := B7.size
  replace T := Lib.hid (T.out.trans (B7.mono T.out.size))
  replace Ow0 := Lib.hid (Ow0.out.below B7 (by omega))
  replace Ow1 := Lib.hid (Ow1.out.below B7 (by omega))
  replace Ox0 := Lib.hid (Ox0.out.below B7 (by omega))
  replace Ox1 := Lib.hid Ox1
  clear B7
  have hxx1 := Lib.hid (own_fit Ox1.out R1.out ex1 hx1.out)
  replace ex1 := Lib.hid ex1
  go_wp2_with fail
  refine (iSameRegions_d Dx0 n0 dx0 _ px0 Dx1 n1 dx1 _ px1 w7 Ox0.out.regs (by omega) hxx0.out (by omega) Ox1.out.regs (by omega) hxx1.out (by omega)).mono ?_
  rintro e w8 ⟨rfl, B8⟩
  have hs8 := B8.size
  replace T := Lib.hid (T.out.trans (B8.mono T.out.size))
  replace Ow0 := Lib.hid (Ow0.out.below B8 (by omega))
  replace Ow1 := Lib.hid (Ow1.out.below B8 (by omega))
  replace Ox0 := Lib.hid (Ox0.out.below B8 (by omega))
  replace Ox1 := Lib.hid (Ox1.out.below B8 (by omega))
  clear B8
  simp only [ex0.out]
  simp only [ex1.out]
  go_wp2_with fail
  refine (toRegionS_own A0 n0 c0 _ rs0 w8 (R0.out.below T.out) hx0.out (by have := T.out.size; omega) (by omega)).mono ?_
  rintro e w9 ⟨Dy0, dy0, py0, rfl, Oy0, ey0, B9⟩
  have hs9 := B9.size
  replace T := Lib.hid (T.out.trans (B9.mono T.out.size))
  replace Ow0 := Lib.hid (Ow0.out.below B9 (by omega))
  replace Ow1 := Lib.hid (Ow1.out.below B9 (by omega))
  replace Ox0 := Lib.hid (Ox0.out.below B9 (by omega))
  replace Ox1 := Lib.hid (Ox1.out.below B9 (by omega))
  replace Oy0 := Lib.hid Oy0
  clear B9
  have hxy0 := Lib.hid (own_fit Oy0.out R0.out ey0 hx0.out)
  replace ey0 := Lib.hid ey0
  go_wp2_with fail
  refine (eqRegionS_same Dx0 Dy0 n0 n0 dx0 dy0 _ _ px0 py0 w9 Ox0.out.regs Oy0.out.regs (ex0.out.trans ey0.out.symm) hxx0.out (by omega) (by omega) (by omega)).mono ?_
  rintro e w10 ⟨rfl, B10⟩
  have hs10 := B10.size
  replace T := Lib.hid (T.out.trans (B10.mono T.out.size))
  replace Ow0 := Lib.hid (Ow0.out.below B10 (by omega))
  replace Ow1 := Lib.hid (Ow1.out.below B10 (by omega))
  replace Ox0 := Lib.hid (Ox0.out.below B10 (by omega))
  replace Ox1 := Lib.hid (Ox1.out.below B10 (by omega))
  replace Oy0 := Lib.hid (Oy0.out.below B10 (by omega))
  clear B10
  go_wp2_with fail
  refine (toRegionS_own A1 n1 c1 _ rs1 w10 (R1.out.below T.out) hx1.out (by have := T.out.size; omega) (by omega)).mono ?_
  rintro e w11 ⟨Dy1, dy1, py1, rfl, Oy1, ey1, B11⟩
  have hs11 := B11.size
  replace T := Lib.hid (T.out.trans (B11.mono T.out.size))
  replace Ow0 := Lib.hid (Ow0.out.below B11 (by omega))
  replace Ow1 := Lib.hid (Ow1.out.below B11 (by omega))
  replace Ox0 := Lib.hid (Ox0.out.below B11 (by omega))
  replace Ox1 := Lib.hid (Ox1.out.below B11 (by omega))
  replace Oy0 := Lib.hid (Oy0.out.below B11 (by omega))
  replace Oy1 := Lib.hid Oy1
  clear B11
  have hxy1 := Lib.hid (own_fit Oy1.out R1.out ey1 hx1.out)
  replace ey1 := Lib.hid ey1
  go_wp2_with fail
  refine (eqRegionS_same Dx1 Dy1 n1 n1 dx1 dy1 _ _ px1 py1 w11 Ox1.out.regs Oy1.out.regs (ex1.out.trans ey1.out.symm) hxx1.out (by omega) (by omega) (by omega)).mono ?_
  rintro e w12 ⟨rfl, B12⟩
  have hs12 := B12.size
  replace T := Lib.hid (T.out.trans (B12.mono T.out.size))
  replace Ow0 := Lib.hid (Ow0.out.below B12 (by omega))
  replace Ow1 := Lib.hid (Ow1.out.below B12 (by omega))
  replace Ox0 := Lib.hid (Ox0.out.below B12 (by omega))
  replace Ox1 := Lib.hid (Ox1.out.below B12 (by omega))
  replace Oy0 := Lib.hid (Oy0.out.below B12 (by omega))
  replace Oy1 := Lib.hid (Oy1.out.below B12 (by omega))
  clear B12
  go_wp2
  go_ret
  exact ⟨rfl, T.out⟩
namespace fnExactSameRegions
set_option maxRecDepth 100000 in
theorem lifted (os : Os) (started : os.Started) (H : Type) (enc : TypeId × Value → H) :
    ReturnsInHanded {} Try.checked os 3 .any (Rows.fnExactSameRegionsSpec.pre6 enc Try.prog Try.f3 Rows.fnExactSameRegionsRow.domain false) (Rows.fnExactSameRegionsSpec.post enc Try.prog Try.f3 false true false false) := by
  refine returnsInHanded_of_change (C := Try.checked) ownKnobNone started (by kernel_rfl) Try.func3
    (ChangeSpec.witness6 (enc := enc) (C := Try.checked) false ⟨#[], #[wit_rgs, wit_rgs], []⟩ 8 (by kernel_rfl) (by kernel_rfl) (by kernel_rfl) (by kernel_rfl)) ?_
  intro W base args ds gs before hval0 hW hcnd _
  have hval : ∀ (j : Nat) t v, Try.f3.params[j]? = some t → args[j]? = some v → Value.okWide Try.prog W .any base t v := hval0
  have hW' := hW
  obtain ⟨p, q, hA0, hV, rfl, hfz, hnd⟩ := hW
  have hA : DataW.TrodAll enc Try.prog W 0 (fun _ => true) true Try.f3.params.toList args.toList ds p := hA0
  rw [Try.params3] at hA hval
  obtain ⟨v0, vs0, d0, ds0, p0, q0, hargs, rfl, rfl, h0, r0⟩ := trodAll_cons hA
  obtain ⟨v1, vs1, d1, ds1, p1, q1, rfl, rfl, rfl, h1, r1⟩ := trodAll_cons r0
  obtain ⟨rfl, rfl, rfl⟩ := trodAll_nil r1
  obtain rfl : args = #[v0, v1] := by cases args; simp_all
  obtain ⟨rfl, rfl⟩ := trodVars_none hV
  have k0 := h0
  have lt0 : ∀ x ∈ p0, x.block < W.heap.size := by obtain ⟨m, hm⟩ := k0; exact DataW.trod_lt m _ _ _ hm
  have k1 := h1
  have lt1 : ∀ x ∈ p1, x.block < W.heap.size := by obtain ⟨m, hm⟩ := k1; exact DataW.trod_lt m _ _ _ hm
  obtain ⟨x0, rfl, R0⟩ := open_rgs (hval 0 22 v0 rfl rfl) h0
  obtain ⟨x1, rfl, R1⟩ := open_rgs (hval 1 22 v1 rfl rfl) h1
  clear hA0 hval0
  refine (wSameRegions W x0 R0 x1 R1).mono fun e W' ⟨he, bel⟩ => ?_
  subst he
  exact ⟨_, rfl, _, _, _, [], _, [], hW', trodAll_mk1 (shut_bool Try.underlying4 _), (trodAll_cons_mk (Below.trod laidOut (by kernel_rfl) (of_decide_eq_true (by kernel_rfl)) k0 bel lt0) (trodAll_cons_mk (Below.trod laidOut (by kernel_rfl) (of_decide_eq_true (by kernel_rfl)) k1 bel lt1) trodAll_mk0)), rfl, bel.frame _, fun h => by cases h⟩
theorem over : Rows.fnExactSameRegionsRow.holds Try.pinned (OpenSpec.ofChange Rows.fnExactSameRegionsSpec) :=
  OpenClaim.holds_of_wide 3 Try.f3 rfl rfl rfl rfl rfl rfl rfl ⟨rfl, rfl, rfl, rfl, rfl⟩ rfl rfl rfl rfl rfl (by kernel_rfl) Try.func3 (by kernel_rfl)
    (of_decide_eq_true (by kernel_rfl)) (by unfold Func.isWrapper; first | (rw [if_pos (by decide +kernel)]; kernel_rfl) | (rw [if_neg (by decide +kernel)]; exact ⟨rfl, rfl⟩))
    (fun os started H enc _ => lifted os started H enc)
theorem proved : Rows.FnExactSameRegionsSaid := over
end fnExactSameRegions

end Go.Proofs.Ytdhopagmbbflkaa
