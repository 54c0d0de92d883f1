/- FnExactCountLevels. -/
import Derived.Test.YtbienjiinokhoaaLev2
import Derived.Test.YtbienjiinokhoaaOpen
namespace Go.Proofs.Ytbienjiinokhoaa
open Go.ChangeShapes Go.WideShapes Go.ChangeAt Go.RowKit
set_option linter.unusedVariables false

set_option maxHeartbeats 2000000 in
theorem wCountLevels (w : World) (A : Option Addr) (n c : Nat) (zs : List Int) (ha : Reads w w.heap.size 1 A n (ints zs)) (_ : ∀ z ∈ zs, (Lit.int .i64 z).wf = true) :
    Calls Try.prog 3 #[.slice A n c] w fun e w' => e = .returned (.bool true) ∧ Below w.heap.size w w' := by
  by_cases h20 : 1048576 < n
  · clear ha
    go_enter Try.func3, Try.ntmps3
    go_wp2
    go_ret
    exact ⟨rfl, Below.refl _ _⟩
  · have RA := Lib.hid ha; clear ha
    go_enter Try.func3, Try.ntmps3
    have T := Lib.hid (Below.refl w.heap.size w)
    go_wp2_with fail
    refine (toInt64S_own A n c _ zs w (RA.out.below T.out) (by have := T.out.size; omega) (by omega)).mono ?_
    rintro e w1 ⟨D1, d1, rfl, O1, B1⟩
    have hs1 := B1.size
    replace T := Lib.hid (T.out.trans (B1.mono T.out.size))
    replace O1 := Lib.hid O1
    clear B1
    go_wp2_with fail
    refine (sCountLevels_c D1 n d1 _ zs w1 O1.out.reads (by omega) (by omega)).mono ?_
    rintro e w2 ⟨A0, n0, c0, rfl, hn0, O2, B2⟩
    have hs2 := B2.size
    replace T := Lib.hid (T.out.trans (B2.mono T.out.size))
    replace O1 := Lib.hid (O1.out.below B2 (by omega))
    replace O2 := Lib.hid O2
    clear B2
    go_wp2_with fail
    refine (toInt64S_own A n c _ zs w2 (RA.out.below T.out) (by have := T.out.size; omega) (by omega)).mono ?_
    rintro e w3 ⟨D3, d3, rfl, O3, B3⟩
    have hs3 := B3.size
    replace T := Lib.hid (T.out.trans (B3.mono T.out.size))
    replace O1 := Lib.hid (O1.out.below B3 (by omega))
    replace O2 := Lib.hid (O2.out.below B3 (by omega))
    replace O3 := Lib.hid O3
    clear B3
    go_wp2_with fail
    refine (iCountLevels_c D3 n d3 _ zs w3 O3.out.reads (by omega) (by omega)).mono ?_
    rintro e w4 ⟨A4, n4, c4, rfl, hn4, O4, B4⟩
    have hs4 := B4.size
    replace T := Lib.hid (T.out.trans (B4.mono T.out.size))
    replace O1 := Lib.hid (O1.out.below B4 (by omega))
    replace O2 := Lib.hid (O2.out.below B4 (by omega))
    replace O3 := Lib.hid (O3.out.below B4 (by omega))
    replace O4 := Lib.hid O4
    clear B4
    go_wp2_with fail
    refine (eqInt64S_same A4 A0 n4 n0 c4 c0 _ _ _ w4 O4.out.reads O2.out.reads (by omega)).mono ?_
    rintro e w5 ⟨rfl, B5⟩
    have hs5 := B5.size
    replace T := Lib.hid (T.out.trans (B5.mono T.out.size))
    replace O1 := Lib.hid (O1.out.below B5 (by omega))
    replace O2 := Lib.hid (O2.out.below B5 (by omega))
    replace O3 := Lib.hid (O3.out.below B5 (by omega))
    replace O4 := Lib.hid (O4.out.below B5 (by omega))
    clear B5
    go_wp2_with fail
    refine (toInt64S_own A n c _ zs w5 (RA.out.below T.out) (by have := T.out.size; omega) (by omega)).mono ?_
    rintro e w6 ⟨D6, d6, rfl, O6, B6⟩
    have hs6 := B6.size
    replace T := Lib.hid (T.out.trans (B6.mono T.out.size))
    replace O1 := Lib.hid (O1.out.below B6 (by omega))
    replace O2 := Lib.hid (O2.out.below B6 (by omega))
    replace O3 := Lib.hid (O3.out.below B6 (by omega))
    replace O4 := Lib.hid (O4.out.below B6 (by omega))
    replace O6 := Lib.hid O6
    clear B6
    go_wp2_with fail
    refine (eqInt64S_same D3 D6 n n d3 d6 _ _ _ w6 O3.out.reads O6.out.reads (by omega)).mono ?_
    rintro e w7 ⟨rfl, B7⟩
    have hs7 := B7.size
    replace T := Lib.hid (T.out.trans (B7.mono T.out.size))
    replace O1 := Lib.hid (O1.out.below B7 (by omega))
    replace O2 := Lib.hid (O2.out.below B7 (by omega))
    replace O3 := Lib.hid (O3.out.below B7 (by omega))
    replace O4 := Lib.hid (O4.out.below B7 (by omega))
    replace O6 := Lib.hid (O6.out.below B7 (by omega))
    clear B7
    go_wp2_with fail
    refine (markInt64S_c D3 n d3 _ _ _ 1 w7 O3.out (by omega) (by omega) (by omega)).mono ?_
    rintro e w8 ⟨rfl, O3', Y8⟩
    have hs8 := Y8.size
    replace T := Lib.hid (T.out.trans (Y8.below (by omega) (by omega)))
    replace O1 := Lib.hid (O1.out.only Y8 (by omega))
    replace O2 := Lib.hid (O2.out.only Y8 (by omega))
    replace O4 := Lib.hid (O4.out.only Y8 (by omega))
    replace O6 := Lib.hid (O6.out.only Y8 (by omega))
    clear O3; have O3 := Lib.hid O3'; clear O3' Y8
    go_wp2_with fail
    refine (eqInt64S_same A4 A0 n4 n0 c4 c0 _ _ _ w8 O4.out.reads O2.out.reads (by omega)).mono ?_
    rintro e w9 ⟨rfl, B9⟩
    have hs9 := B9.size
    replace T := Lib.hid (T.out.trans (B9.mono T.out.size))
    replace O1 := Lib.hid (O1.out.below B9 (by omega))
    replace O2 := Lib.hid (O2.out.below B9 (by omega))
    replace O3 := Lib.hid (O3.out.below B9 (by omega))
    replace O4 := Lib.hid (O4.out.below B9 (by omega))
    replace O6 := Lib.hid (O6.out.below B9 (by omega))
    clear B9
    go_wp2_with fail
    refine (markInt64S_c A4 n4 c4 _ _ _ 1 w9 O4.out (by omega) (by omega) (by omega)).mono ?_
    rintro e w10 ⟨rfl, O4', Y10⟩
    have hs10 := Y10.size
    replace T := Lib.hid (T.out.trans (Y10.below (by omega) (by omega)))
    replace O1 := Lib.hid (O1.out.only Y10 (by omega))
    replace O2 := Lib.hid (O2.out.only Y10 (by omega))
    replace O3 := Lib.hid (O3.out.only Y10 (by omega))
    replace O6 := Lib.hid (O6.out.only Y10 (by omega))
    clear O4; have O4 := Lib.hid O4'; clear O4' Y10
    go_wp2_with fail
    refine (heldInt64S_c A4 n4 c4 _ 1 w10 O4.out.reads (by omega) (by omega) (by omega)).mono ?_
    rintro e w11 ⟨rfl, B11⟩
    have hs11 := B11.size
    replace T := Lib.hid (T.out.trans (B11.mono T.out.size))
    replace O1 := Lib.hid (O1.out.below B11 (by omega))
    replace O2 := Lib.hid (O2.out.below B11 (by omega))
    replace O3 := Lib.hid (O3.out.below B11 (by omega))
    replace O4 := Lib.hid (O4.out.below B11 (by omega))
    replace O6 := Lib.hid (O6.out.below B11 (by omega))
    clear B11
    go_wp2_with fail
    refine (toInt64S_own A n c _ zs w11 (RA.out.below T.out) (by have := T.out.size; omega) (by omega)).mono ?_
    rintro e w12 ⟨D12, d12, rfl, O12, B12⟩
    have hs12 := B12.size
    replace T := Lib.hid (T.out.trans (B12.mono T.out.size))
    replace O1 := Lib.hid (O1.out.below B12 (by omega))
    replace O2 := Lib.hid (O2.out.below B12 (by omega))
    replace O3 := Lib.hid (O3.out.below B12 (by omega))
    replace O4 := Lib.hid (O4.out.below B12 (by omega))
    replace O6 := Lib.hid (O6.out.below B12 (by omega))
    replace O12 := Lib.hid O12
    clear B12
    go_wp2_with fail
    refine (iCountLevels_c D12 n d12 _ zs w12 O12.out.reads (by omega) (by omega)).mono ?_
    rintro e w13 ⟨A13, n13, c13, rfl, hn13, O13, B13⟩
    have hs13 := B13.size
    replace T := Lib.hid (T.out.trans (B13.mono T.out.size))
    replace O1 := Lib.hid (O1.out.below B13 (by omega))
    replace O2 := Lib.hid (O2.out.below B13 (by omega))
    replace O3 := Lib.hid (O3.out.below B13 (by omega))
    replace O4 := Lib.hid (O4.out.below B13 (by omega))
    replace O6 := Lib.hid (O6.out.below B13 (by omega))
    replace O12 := Lib.hid (O12.out.below B13 (by omega))
    replace O13 := Lib.hid O13
    clear B13
    go_wp2_with fail
    refine (eqInt64S_same A13 A0 n13 n0 c13 c0 _ _ _ w13 O13.out.reads O2.out.reads (by omega)).mono ?_
    rintro e w14 ⟨rfl, B14⟩
    have hs14 := B14.size
    replace T := Lib.hid (T.out.trans (B14.mono T.out.size))
    replace O1 := Lib.hid (O1.out.below B14 (by omega))
    replace O2 := Lib.hid (O2.out.below B14 (by omega))
    replace O3 := Lib.hid (O3.out.below B14 (by omega))
    replace O4 := Lib.hid (O4.out.below B14 (by omega))
    replace O6 := Lib.hid (O6.out.below B14 (by omega))
    replace O12 := Lib.hid (O12.out.below B14 (by omega))
    replace O13 := Lib.hid (O13.out.below B14 (by omega))
    clear B14
    go_wp2_with fail
    refine (heldInt64S_c A4 n4 c4 _ 1 w14 O4.out.reads (by omega) (by omega) (by omega)).mono ?_
    rintro e w15 ⟨rfl, B15⟩
    have hs15 := B15.size
    replace T := Lib.hid (T.out.trans (B15.mono T.out.size))
    replace O1 := Lib.hid (O1.out.below B15 (by omega))
    replace O2 := Lib.hid (O2.out.below B15 (by omega))
    replace O3 := Lib.hid (O3.out.below B15 (by omega))
    replace O4 := Lib.hid (O4.out.below B15 (by omega))
    replace O6 := Lib.hid (O6.out.below B15 (by omega))
    replace O12 := Lib.hid (O12.out.below B15 (by omega))
    replace O13 := Lib.hid (O13.out.below B15 (by omega))
    clear B15
    go_wp2
    go_ret
    exact ⟨rfl, T.out⟩
namespace fnExactCountLevels
set_option maxRecDepth 100000 in
theorem lifted (os : Os) (started : os.Started) (H : Type) (enc : TypeId × Value → H) :
    ReturnsInHanded {} Try.checked os 3 .any (Rows.fnExactCountLevelsSpec.pre6 enc Try.prog Try.f3 Rows.fnExactCountLevelsRow.domain false) (Rows.fnExactCountLevelsSpec.post enc Try.prog Try.f3 false true false false) := by
  refine returnsInHanded_of_change (C := Try.checked) ownKnobNone started (by kernel_rfl) Try.func3
    (ChangeSpec.witness6 (enc := enc) (C := Try.checked) false ⟨#[], #[.slice none 0 0], []⟩ 8 (by kernel_rfl) (by kernel_rfl) (by kernel_rfl) (by kernel_rfl)) ?_
  intro W base args ds gs before hval0 hW hcnd _
  have hval : ∀ (j : Nat) t v, Try.f3.params[j]? = some t → args[j]? = some v → Value.okWide Try.prog W .any base t v := hval0
  have hW' := hW
  obtain ⟨p, q, hA0, hV, rfl, hfz, hnd⟩ := hW
  have hA : DataW.TrodAll enc Try.prog W 0 (fun _ => true) true Try.f3.params.toList args.toList ds p := hA0
  rw [Try.params3] at hA hval
  obtain ⟨v0, vs0, d0, ds0, p0, q0, hargs, rfl, rfl, h0, r0⟩ := trodAll_cons hA
  obtain ⟨rfl, rfl, rfl⟩ := trodAll_nil r0
  obtain rfl : args = #[v0] := by cases args; simp_all
  obtain ⟨rfl, rfl⟩ := trodVars_none hV
  have k0 := h0
  have lt0 : ∀ x ∈ p0, x.block < W.heap.size := by obtain ⟨m, hm⟩ := k0; exact DataW.trod_lt m _ _ _ hm
  obtain ⟨A0, n0, c0, z0, rfl, R0, -, -, wf0⟩ := open_i64s (hval 0 22 v0 rfl rfl) h0
  clear hA0 hval0
  refine (wCountLevels W A0 n0 c0 z0 R0 wf0).mono fun e W' ⟨he, bel⟩ => ?_
  subst he
  exact ⟨_, rfl, _, _, _, [], _, [], hW', trodAll_mk1 (shut_bool Try.underlying4 _), (trodAll_cons_mk (Below.trod laidOut (by kernel_rfl) (of_decide_eq_true (by kernel_rfl)) k0 bel lt0) trodAll_mk0), rfl, bel.frame _, fun h => by cases h⟩
theorem over : Rows.fnExactCountLevelsRow.holds Try.pinned (OpenSpec.ofChange Rows.fnExactCountLevelsSpec) :=
  OpenClaim.holds_of_wide 3 Try.f3 rfl rfl rfl rfl rfl rfl rfl ⟨rfl, rfl, rfl, rfl, rfl⟩ rfl rfl rfl rfl rfl (by kernel_rfl) Try.func3 (by kernel_rfl)
    (of_decide_eq_true (by kernel_rfl)) (by unfold Func.isWrapper; first | (rw [if_pos (by decide +kernel)]; kernel_rfl) | (rw [if_neg (by decide +kernel)]; exact ⟨rfl, rfl⟩))
    (fun os started H enc _ => lifted os started H enc)
theorem proved : Rows.FnExactCountLevelsSaid := over
end fnExactCountLevels
end Go.Proofs.Ytbienjiinokhoaa
