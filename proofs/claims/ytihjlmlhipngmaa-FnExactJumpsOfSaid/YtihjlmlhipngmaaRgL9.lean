/- Exact laws over lists of regions: JumpsOf. -/
import Derived.Test.YtihjlmlhipngmaaJmD
import Derived.ChangeMaps5
namespace Go.Proofs.Ytihjlmlhipngmaa
open Go.ChangeShapes Go.WideShapes Go.ChangeAt Go.RowKit
set_option linter.unusedVariables false

set_option maxHeartbeats 8000000 in
theorem wJumpsOf (w : World) (x0 : Option Addr × Nat × Nat) (R0 : ∃ rs, Regs w w.heap.size x0.1 x0.2.1 rs ∧ (∀ y ∈ rs, RgFit y) ∧ x0.2.1 ≤ x0.2.2 ∧ x0.2.2 ≤ maxLen) (a1 : Int) (_ : (Lit.int .i64 a1).wf = true) :
    Calls Try.prog 3 #[.slice x0.1 x0.2.1 x0.2.2, .int .i64 a1] w fun e w' => e = .returned (.bool true) ∧ Below w.heap.size w w' := by
  obtain ⟨A0, n0, c0⟩ := x0
  obtain ⟨rs0, hR0, hF0, hnc0, hmx0⟩ := R0
  simp only [maxLen] at hR0 hnc0 hmx0
  have R0 := Lib.hid hR0
  have ft0 := Lib.hid hF0
  clear hR0 hF0
  go_enter Try.func3, Try.ntmps3
  have T := Lib.hid (Below.refl w.heap.size w)
  go_wp2_with fail
  refine (szRegionS_c A0 n0 c0 _ rs0 1048576 w (R0.out.below T.out) (by have := T.out.size; omega) ft0.out (by omega) (by omega) (by omega)).mono ?_
  rintro e w1 ⟨v0, rfl, hv0, B1⟩
  have hs1 := B1.size
  replace T := Lib.hid (T.out.trans (B1.mono T.out.size))
  clear B1
  rcases hv0 with rfl | ⟨hz0, hs0⟩
  · go_wp2
    go_ret
    exact ⟨rfl, T.out⟩
  have hp0 : ¬ (v0 < 0) := by omega
  have hx0 := Lib.hid (fun y (hy : y ∈ rs0) => (show y.n ≤ 1048576 by have := sumN_mem hy; omega))
  go_wp2_with fail
  refine (toRegionS_own A0 n0 c0 _ rs0 w1 (R0.out.below T.out) hx0.out (by have := T.out.size; omega) (by omega)).mono ?_
  rintro e w2 ⟨Dv0, dv0, pv0, rfl, Ov0, ev0, B2⟩
  have hs2 := B2.size
  replace T := Lib.hid (T.out.trans (B2.mono T.out.size))
  replace Ov0 := Lib.hid Ov0
  clear B2
  have hxv0 := Lib.hid (own_fit Ov0.out R0.out ev0 hx0.out)
  replace ev0 := Lib.hid ev0
  go_wp2_with fail
  refine (sJumpsOf_d Dv0 n0 dv0 _ pv0 a1 w2 Ov0.out.regs (by omega) hxv0.out (by omega)).mono ?_
  rintro e w3 ⟨Aw0, nw0, cw0, qw0, rfl, Ow0, fw0, hnw0, hmw0, B3⟩
  have hs3 := B3.size
  replace T := Lib.hid (T.out.trans (B3.mono T.out.size))
  replace Ov0 := Lib.hid (Ov0.out.below B3 (by omega))
  replace Ow0 := Lib.hid Ow0
  clear B3
  replace fw0 := Lib.hid fw0
  (try simp only [ev0.out])
  (try simp only [ev0.out] at fw0)
  go_wp2_with fail
  refine (toRegionS_own A0 n0 c0 _ rs0 w3 (R0.out.below T.out) hx0.out (by have := T.out.size; omega) (by omega)).mono ?_
  rintro e w4 ⟨Dx0, dx0, px0, rfl, Ox0, ex0, B4⟩
  have hs4 := B4.size
  replace T := Lib.hid (T.out.trans (B4.mono T.out.size))
  replace Ov0 := Lib.hid (Ov0.out.below B4 (by omega))
  replace Ow0 := Lib.hid (Ow0.out.below B4 (by omega))
  replace Ox0 := Lib.hid Ox0
  clear B4
  have hxx0 := Lib.hid (own_fit Ox0.out R0.out ex0 hx0.out)
  replace ex0 := Lib.hid ex0
  go_wp2_with fail
  refine (iJumpsOf_d Dx0 n0 dx0 _ px0 a1 w4 Ox0.out.regs (by omega) hxx0.out (by omega)).mono ?_
  rintro e w5 ⟨Ag0, ng0, cg0, qg0, rfl, Og0, fg0, hng0, hmg0, B5⟩
  have hs5 := B5.size
  replace T := Lib.hid (T.out.trans (B5.mono T.out.size))
  replace Ov0 := Lib.hid (Ov0.out.below B5 (by omega))
  replace Ow0 := Lib.hid (Ow0.out.below B5 (by omega))
  replace Ox0 := Lib.hid (Ox0.out.below B5 (by omega))
  replace Og0 := Lib.hid Og0
  clear B5
  replace fg0 := Lib.hid fg0
  (try simp only [ex0.out])
  (try simp only [ex0.out] at fg0)
  go_wp2_with fail
  refine (eqStringSS_same Ag0 Aw0 ng0 nw0 cg0 cw0 _ _ qg0 qw0 _ w5 Og0.out.rd Ow0.out.rd fg0.out fw0.out hmg0 (by omega) (by omega) (by omega)).mono ?_
  rintro e w6 ⟨rfl, B6⟩
  have hs6 := B6.size
  replace T := Lib.hid (T.out.trans (B6.mono T.out.size))
  replace Ov0 := Lib.hid (Ov0.out.below B6 (by omega))
  replace Ow0 := Lib.hid (Ow0.out.below B6 (by omega))
  replace Ox0 := Lib.hid (Ox0.out.below B6 (by omega))
  replace Og0 := Lib.hid (Og0.out.below B6 (by omega))
  clear B6
  go_wp2_with fail
  refine (toRegionS_own A0 n0 c0 _ rs0 w6 (R0.out.below T.out) hx0.out (by have := T.out.size; omega) (by omega)).mono ?_
  rintro e w7 ⟨Dy0, dy0, py0, rfl, Oy0, ey0, B7⟩
  have hs7 := B7.size
  replace T := Lib.hid (T.out.trans (B7.mono T.out.size))
  replace Ov0 := Lib.hid (Ov0.out.below B7 (by omega))
  replace Ow0 := Lib.hid (Ow0.out.below B7 (by omega))
  replace Ox0 := Lib.hid (Ox0.out.below B7 (by omega))
  replace Og0 := Lib.hid (Og0.out.below B7 (by omega))
  replace Oy0 := Lib.hid Oy0
  clear B7
  have hxy0 := Lib.hid (own_fit Oy0.out R0.out ey0 hx0.out)
  replace ey0 := Lib.hid ey0
  go_wp2_with fail
  refine (eqRegionS_same Dx0 Dy0 n0 n0 dx0 dy0 _ _ px0 py0 w7 Ox0.out.regs Oy0.out.regs (ex0.out.trans ey0.out.symm) hxx0.out (by omega) (by omega) (by omega)).mono ?_
  rintro e w8 ⟨rfl, B8⟩
  have hs8 := B8.size
  replace T := Lib.hid (T.out.trans (B8.mono T.out.size))
  replace Ov0 := Lib.hid (Ov0.out.below B8 (by omega))
  replace Ow0 := Lib.hid (Ow0.out.below B8 (by omega))
  replace Ox0 := Lib.hid (Ox0.out.below B8 (by omega))
  replace Og0 := Lib.hid (Og0.out.below B8 (by omega))
  replace Oy0 := Lib.hid (Oy0.out.below B8 (by omega))
  clear B8
  obtain ⟨ma0, mb0⟩ := mrk_bd hxx0.out Ox0.out.regs.len (by omega)
  go_wp2_with fail
  refine (markRegionS_c Dx0 n0 dx0 _ _ px0 1 w8 Ox0.out hxx0.out (by omega) (by omega) (by omega) (by omega)).mono ?_
  rintro e w9 ⟨rfl, Ox0', Y9⟩
  have hs9 := Y9.size
  replace T := Lib.hid (T.out.trans (Y9.below (by omega) (by omega)))
  replace Ov0 := Lib.hid (Ov0.out.only Y9 (by omega))
  replace Ow0 := Lib.hid (Ow0.out.only Y9 (by omega))
  replace Og0 := Lib.hid (Og0.out.only Y9 (by omega))
  replace Oy0 := Lib.hid (Oy0.out.only Y9 (by omega))
  clear Ox0; have Ox0 := Lib.hid Ox0'; clear Ox0' Y9
  go_wp2_with fail
  refine (eqStringSS_same Ag0 Aw0 ng0 nw0 cg0 cw0 _ _ qg0 qw0 _ w9 Og0.out.rd Ow0.out.rd fg0.out fw0.out hmg0 (by omega) (by omega) (by omega)).mono ?_
  rintro e w10 ⟨rfl, B10⟩
  have hs10 := B10.size
  replace T := Lib.hid (T.out.trans (B10.mono T.out.size))
  replace Ov0 := Lib.hid (Ov0.out.below B10 (by omega))
  replace Ow0 := Lib.hid (Ow0.out.below B10 (by omega))
  replace Ox0 := Lib.hid (Ox0.out.below B10 (by omega))
  replace Og0 := Lib.hid (Og0.out.below B10 (by omega))
  replace Oy0 := Lib.hid (Oy0.out.below B10 (by omega))
  clear B10
  have nb0 := totN_bd hmg0 Og0.out.len (by omega)
  go_wp2_with fail
  refine (markStringSS_c Ag0 ng0 cg0 _ _ qg0 1 w10 Og0.out hmg0 (by omega) (by omega) (by omega) (by omega)).mono ?_
  rintro e w11 ⟨rfl, Og0', Y11⟩
  have hs11 := Y11.size
  replace T := Lib.hid (T.out.trans (Y11.below (by omega) (by omega)))
  replace Ov0 := Lib.hid (Ov0.out.only Y11 (by omega))
  replace Ow0 := Lib.hid (Ow0.out.only Y11 (by omega))
  replace Ox0 := Lib.hid (Ox0.out.only Y11 (by omega))
  replace Oy0 := Lib.hid (Oy0.out.only Y11 (by omega))
  clear Og0; have Og0 := Lib.hid Og0'; clear Og0' Y11
  go_wp2_with fail
  refine (heldStringSS_c Ag0 ng0 cg0 _ qg0 1 w11 Og0.out.rd hmg0 (by omega) (by omega) (by omega) (by omega)).mono ?_
  rintro e w12 ⟨rfl, B12⟩
  have hs12 := B12.size
  replace T := Lib.hid (T.out.trans (B12.mono T.out.size))
  replace Ov0 := Lib.hid (Ov0.out.below B12 (by omega))
  replace Ow0 := Lib.hid (Ow0.out.below B12 (by omega))
  replace Ox0 := Lib.hid (Ox0.out.below B12 (by omega))
  replace Og0 := Lib.hid (Og0.out.below B12 (by omega))
  replace Oy0 := Lib.hid (Oy0.out.below B12 (by omega))
  clear B12
  go_wp2_with fail
  refine (toRegionS_own A0 n0 c0 _ rs0 w12 (R0.out.below T.out) hx0.out (by have := T.out.size; omega) (by omega)).mono ?_
  rintro e w13 ⟨Du0, du0, pu0, rfl, Ou0, eu0, B13⟩
  have hs13 := B13.size
  replace T := Lib.hid (T.out.trans (B13.mono T.out.size))
  replace Ov0 := Lib.hid (Ov0.out.below B13 (by omega))
  replace Ow0 := Lib.hid (Ow0.out.below B13 (by omega))
  replace Ox0 := Lib.hid (Ox0.out.below B13 (by omega))
  replace Og0 := Lib.hid (Og0.out.below B13 (by omega))
  replace Oy0 := Lib.hid (Oy0.out.below B13 (by omega))
  replace Ou0 := Lib.hid Ou0
  clear B13
  have hxu0 := Lib.hid (own_fit Ou0.out R0.out eu0 hx0.out)
  replace eu0 := Lib.hid eu0
  go_wp2_with fail
  refine (iJumpsOf_d Du0 n0 du0 _ pu0 a1 w13 Ou0.out.regs (by omega) hxu0.out (by omega)).mono ?_
  rintro e w14 ⟨Ah0, nh0, ch0, qh0, rfl, Oh0, fh0, hnh0, hmh0, B14⟩
  have hs14 := B14.size
  replace T := Lib.hid (T.out.trans (B14.mono T.out.size))
  replace Ov0 := Lib.hid (Ov0.out.below B14 (by omega))
  replace Ow0 := Lib.hid (Ow0.out.below B14 (by omega))
  replace Ox0 := Lib.hid (Ox0.out.below B14 (by omega))
  replace Og0 := Lib.hid (Og0.out.below B14 (by omega))
  replace Oy0 := Lib.hid (Oy0.out.below B14 (by omega))
  replace Ou0 := Lib.hid (Ou0.out.below B14 (by omega))
  replace Oh0 := Lib.hid Oh0
  clear B14
  replace fh0 := Lib.hid fh0
  (try simp only [eu0.out])
  (try simp only [eu0.out] at fh0)
  go_wp2_with fail
  refine (eqStringSS_same Ah0 Aw0 nh0 nw0 ch0 cw0 _ _ qh0 qw0 _ w14 Oh0.out.rd Ow0.out.rd fh0.out fw0.out hmh0 (by omega) (by omega) (by omega)).mono ?_
  rintro e w15 ⟨rfl, B15⟩
  have hs15 := B15.size
  replace T := Lib.hid (T.out.trans (B15.mono T.out.size))
  replace Ov0 := Lib.hid (Ov0.out.below B15 (by omega))
  replace Ow0 := Lib.hid (Ow0.out.below B15 (by omega))
  replace Ox0 := Lib.hid (Ox0.out.below B15 (by omega))
  replace Og0 := Lib.hid (Og0.out.below B15 (by omega))
  replace Oy0 := Lib.hid (Oy0.out.below B15 (by omega))
  replace Ou0 := Lib.hid (Ou0.out.below B15 (by omega))
  replace Oh0 := Lib.hid (Oh0.out.below B15 (by omega))
  clear B15
  go_wp2_with fail
  refine (heldStringSS_c Ag0 ng0 cg0 _ qg0 1 w15 Og0.out.rd hmg0 (by omega) (by omega) (by omega) (by omega)).mono ?_
  rintro e w16 ⟨rfl, B16⟩
  have hs16 := B16.size
  replace T := Lib.hid (T.out.trans (B16.mono T.out.size))
  replace Ov0 := Lib.hid (Ov0.out.below B16 (by omega))
  replace Ow0 := Lib.hid (Ow0.out.below B16 (by omega))
  replace Ox0 := Lib.hid (Ox0.out.below B16 (by omega))
  replace Og0 := Lib.hid (Og0.out.below B16 (by omega))
  replace Oy0 := Lib.hid (Oy0.out.below B16 (by omega))
  replace Ou0 := Lib.hid (Ou0.out.below B16 (by omega))
  replace Oh0 := Lib.hid (Oh0.out.below B16 (by omega))
  clear B16
  go_wp2
  go_ret
  exact ⟨rfl, T.out⟩
namespace fnExactJumpsOf
set_option maxRecDepth 100000 in
theorem lifted (os : Os) (started : os.Started) (H : Type) (enc : TypeId × Value → H) :
    ReturnsInHanded {} Try.checked os 3 .any (Rows.fnExactJumpsOfSpec.pre6 enc Try.prog Try.f3 Rows.fnExactJumpsOfRow.domain false) (Rows.fnExactJumpsOfSpec.post enc Try.prog Try.f3 false true false false) := by
  refine returnsInHanded_of_change (C := Try.checked) ownKnobNone started (by kernel_rfl) Try.func3
    (ChangeSpec.witness6 (enc := enc) (C := Try.checked) false ⟨#[], #[wit_rgs, .int .i64 0], []⟩ 8 (by kernel_rfl) (by kernel_rfl) (by kernel_rfl) (by kernel_rfl)) ?_
  intro W base args ds gs before hval0 hW hcnd _
  have hval : ∀ (j : Nat) t v, Try.f3.params[j]? = some t → args[j]? = some v → Value.okWide Try.prog W .any base t v := hval0
  have hW' := hW
  obtain ⟨p, q, hA0, hV, rfl, hfz, hnd⟩ := hW
  have hA : DataW.TrodAll enc Try.prog W 0 (fun _ => true) true Try.f3.params.toList args.toList ds p := hA0
  rw [Try.params3] at hA hval
  obtain ⟨v0, vs0, d0, ds0, p0, q0, hargs, rfl, rfl, h0, r0⟩ := trodAll_cons hA
  obtain ⟨v1, vs1, d1, ds1, p1, q1, rfl, rfl, rfl, h1, r1⟩ := trodAll_cons r0
  obtain ⟨rfl, rfl, rfl⟩ := trodAll_nil r1
  obtain rfl : args = #[v0, v1] := by cases args; simp_all
  obtain ⟨rfl, rfl⟩ := trodVars_none hV
  have k0 := h0
  have lt0 : ∀ x ∈ p0, x.block < W.heap.size := by obtain ⟨m, hm⟩ := k0; exact DataW.trod_lt m _ _ _ hm
  have k1 := h1
  have lt1 : ∀ x ∈ p1, x.block < W.heap.size := by obtain ⟨m, hm⟩ := k1; exact DataW.trod_lt m _ _ _ hm
  obtain ⟨x0, rfl, R0⟩ := open_rgs (hval 0 22 v0 rfl rfl) h0
  obtain ⟨a1, rfl, -, -, wf1⟩ := open_int Try.underlying2 (hval 1 2 v1 rfl rfl) h1
  clear hA0 hval0
  refine (wJumpsOf W x0 R0 a1 wf1).mono fun e W' ⟨he, bel⟩ => ?_
  subst he
  exact ⟨_, rfl, _, _, _, [], _, [], hW', trodAll_mk1 (shut_bool Try.underlying4 _), (trodAll_cons_mk (Below.trod laidOut (by kernel_rfl) (of_decide_eq_true (by kernel_rfl)) k0 bel lt0) (trodAll_cons_mk (Below.trod laidOut (by kernel_rfl) (of_decide_eq_true (by kernel_rfl)) k1 bel lt1) trodAll_mk0)), rfl, bel.frame _, fun h => by cases h⟩
theorem over : Rows.fnExactJumpsOfRow.holds Try.pinned (OpenSpec.ofChange Rows.fnExactJumpsOfSpec) :=
  OpenClaim.holds_of_wide 3 Try.f3 rfl rfl rfl rfl rfl rfl rfl ⟨rfl, rfl, rfl, rfl, rfl⟩ rfl rfl rfl rfl rfl (by kernel_rfl) Try.func3 (by kernel_rfl)
    (of_decide_eq_true (by kernel_rfl)) (by unfold Func.isWrapper; first | (rw [if_pos (by decide +kernel)]; kernel_rfl) | (rw [if_neg (by decide +kernel)]; exact ⟨rfl, rfl⟩))
    (fun os started H enc _ => lifted os started H enc)
theorem proved : Rows.FnExactJumpsOfSaid := over
end fnExactJumpsOf

end Go.Proofs.Ytihjlmlhipngmaa
