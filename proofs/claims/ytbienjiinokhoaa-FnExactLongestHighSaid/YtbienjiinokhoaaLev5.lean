/- FnExactWorstLevel, FnExactLongestHigh. -/
import Derived.Test.YtbienjiinokhoaaLev4
namespace Go.Proofs.Ytbienjiinokhoaa
open Go.ChangeShapes Go.WideShapes Go.ChangeAt Go.RowKit
set_option linter.unusedVariables false

set_option maxHeartbeats 2000000 in
theorem wWorstLevel (w : World) (A : Option Addr) (n c : Nat) (zs : List Int) (ha : Reads w w.heap.size 1 A n (ints zs)) (_ : ∀ z ∈ zs, (Lit.int .i64 z).wf = true) :
    Calls Try.prog 4 #[.slice A n c] w fun e w' => e = .returned (.bool true) ∧ Below w.heap.size w w' := by
  by_cases h20 : 1048576 < n
  · clear ha
    go_enter Try.func4, Try.ntmps4
    go_wp2
    go_ret
    exact ⟨rfl, Below.refl _ _⟩
  · have RA := Lib.hid ha; clear ha
    go_enter Try.func4, Try.ntmps4
    have T := Lib.hid (Below.refl w.heap.size w)
    go_wp2_with fail
    refine (toInt64S_own A n c _ zs w (RA.out.below T.out) (by have := T.out.size; omega) (by omega)).mono ?_
    rintro e w1 ⟨D1, d1, rfl, O1, B1⟩
    have hs1 := B1.size
    replace T := Lib.hid (T.out.trans (B1.mono T.out.size))
    replace O1 := Lib.hid O1
    clear B1
    go_wp2_with fail
    refine (sWorstLevel_c D1 n d1 _ zs w1 O1.out.reads (by omega) (by omega)).mono ?_
    rintro e w2 ⟨rfl, B2⟩
    have hs2 := B2.size
    replace T := Lib.hid (T.out.trans (B2.mono T.out.size))
    replace O1 := Lib.hid (O1.out.below B2 (by omega))
    clear B2
    go_wp2_with fail
    refine (toInt64S_own A n c _ zs w2 (RA.out.below T.out) (by have := T.out.size; omega) (by omega)).mono ?_
    rintro e w3 ⟨D3, d3, rfl, O3, B3⟩
    have hs3 := B3.size
    replace T := Lib.hid (T.out.trans (B3.mono T.out.size))
    replace O1 := Lib.hid (O1.out.below B3 (by omega))
    replace O3 := Lib.hid O3
    clear B3
    go_wp2_with fail
    refine (iWorstLevel_c D3 n d3 _ zs w3 O3.out.reads (by omega) (by omega)).mono ?_
    rintro e w4 ⟨rfl, B4⟩
    have hs4 := B4.size
    replace T := Lib.hid (T.out.trans (B4.mono T.out.size))
    replace O1 := Lib.hid (O1.out.below B4 (by omega))
    replace O3 := Lib.hid (O3.out.below B4 (by omega))
    clear B4
    go_wp2_with fail
    refine (toInt64S_own A n c _ zs w4 (RA.out.below T.out) (by have := T.out.size; omega) (by omega)).mono ?_
    rintro e w5 ⟨D6, d6, rfl, O6, B5⟩
    have hs5 := B5.size
    replace T := Lib.hid (T.out.trans (B5.mono T.out.size))
    replace O1 := Lib.hid (O1.out.below B5 (by omega))
    replace O3 := Lib.hid (O3.out.below B5 (by omega))
    replace O6 := Lib.hid O6
    clear B5
    go_wp2_with fail
    refine (eqInt64S_same D3 D6 n n d3 d6 _ _ _ w5 O3.out.reads O6.out.reads (by omega)).mono ?_
    rintro e w6 ⟨rfl, B6⟩
    have hs6 := B6.size
    replace T := Lib.hid (T.out.trans (B6.mono T.out.size))
    replace O1 := Lib.hid (O1.out.below B6 (by omega))
    replace O3 := Lib.hid (O3.out.below B6 (by omega))
    replace O6 := Lib.hid (O6.out.below B6 (by omega))
    clear B6
    go_wp2
    go_ret
    exact ⟨rfl, T.out⟩
namespace fnExactWorstLevel
set_option maxRecDepth 100000 in
theorem lifted (os : Os) (started : os.Started) (H : Type) (enc : TypeId × Value → H) :
    ReturnsInHanded {} Try.checked os 4 .any (Rows.fnExactWorstLevelSpec.pre6 enc Try.prog Try.f4 Rows.fnExactWorstLevelRow.domain false) (Rows.fnExactWorstLevelSpec.post enc Try.prog Try.f4 false true false false) := by
  refine returnsInHanded_of_change (C := Try.checked) ownKnobNone started (by kernel_rfl) Try.func4
    (ChangeSpec.witness6 (enc := enc) (C := Try.checked) false ⟨#[], #[.slice none 0 0], []⟩ 8 (by kernel_rfl) (by kernel_rfl) (by kernel_rfl) (by kernel_rfl)) ?_
  intro W base args ds gs before hval0 hW hcnd _
  have hval : ∀ (j : Nat) t v, Try.f4.params[j]? = some t → args[j]? = some v → Value.okWide Try.prog W .any base t v := hval0
  have hW' := hW
  obtain ⟨p, q, hA0, hV, rfl, hfz, hnd⟩ := hW
  have hA : DataW.TrodAll enc Try.prog W 0 (fun _ => true) true Try.f4.params.toList args.toList ds p := hA0
  rw [Try.params4] at hA hval
  obtain ⟨v0, vs0, d0, ds0, p0, q0, hargs, rfl, rfl, h0, r0⟩ := trodAll_cons hA
  obtain ⟨rfl, rfl, rfl⟩ := trodAll_nil r0
  obtain rfl : args = #[v0] := by cases args; simp_all
  obtain ⟨rfl, rfl⟩ := trodVars_none hV
  have k0 := h0
  have lt0 : ∀ x ∈ p0, x.block < W.heap.size := by obtain ⟨m, hm⟩ := k0; exact DataW.trod_lt m _ _ _ hm
  obtain ⟨A0, n0, c0, z0, rfl, R0, -, -, wf0⟩ := open_i64s (hval 0 22 v0 rfl rfl) h0
  clear hA0 hval0
  refine (wWorstLevel W A0 n0 c0 z0 R0 wf0).mono fun e W' ⟨he, bel⟩ => ?_
  subst he
  exact ⟨_, rfl, _, _, _, [], _, [], hW', trodAll_mk1 (shut_bool Try.underlying4 _), (trodAll_cons_mk (Below.trod laidOut (by kernel_rfl) (of_decide_eq_true (by kernel_rfl)) k0 bel lt0) trodAll_mk0), rfl, bel.frame _, fun h => by cases h⟩
theorem over : Rows.fnExactWorstLevelRow.holds Try.pinned (OpenSpec.ofChange Rows.fnExactWorstLevelSpec) :=
  OpenClaim.holds_of_wide 4 Try.f4 rfl rfl rfl rfl rfl rfl rfl ⟨rfl, rfl, rfl, rfl, rfl⟩ rfl rfl rfl rfl rfl (by kernel_rfl) Try.func4 (by kernel_rfl)
    (of_decide_eq_true (by kernel_rfl)) (by unfold Func.isWrapper; first | (rw [if_pos (by decide +kernel)]; kernel_rfl) | (rw [if_neg (by decide +kernel)]; exact ⟨rfl, rfl⟩))
    (fun os started H enc _ => lifted os started H enc)
theorem proved : Rows.FnExactWorstLevelSaid := over
end fnExactWorstLevel

set_option maxHeartbeats 2000000 in
theorem wLongestHigh (w : World) (A : Option Addr) (n c : Nat) (zs : List Int) (ha : Reads w w.heap.size 1 A n (ints zs)) (_ : ∀ z ∈ zs, (Lit.int .i64 z).wf = true) (level : Int) (_ : (Lit.int .i64 level).wf = true) :
    Calls Try.prog 5 #[.slice A n c, .int .i64 level] w fun e w' => e = .returned (.bool true) ∧ Below w.heap.size w w' := by
  by_cases h20 : 1048576 < n
  · clear ha
    go_enter Try.func5, Try.ntmps5
    go_wp2
    go_ret
    exact ⟨rfl, Below.refl _ _⟩
  · have RA := Lib.hid ha; clear ha
    go_enter Try.func5, Try.ntmps5
    have T := Lib.hid (Below.refl w.heap.size w)
    go_wp2_with fail
    refine (toInt64S_own A n c _ zs w (RA.out.below T.out) (by have := T.out.size; omega) (by omega)).mono ?_
    rintro e w1 ⟨D1, d1, rfl, O1, B1⟩
    have hs1 := B1.size
    replace T := Lib.hid (T.out.trans (B1.mono T.out.size))
    replace O1 := Lib.hid O1
    clear B1
    go_wp2_with fail
    refine (sLongestHigh_c D1 n d1 _ zs level w1 O1.out.reads (by omega) (by omega)).mono ?_
    rintro e w2 ⟨rfl, B2⟩
    have hs2 := B2.size
    replace T := Lib.hid (T.out.trans (B2.mono T.out.size))
    replace O1 := Lib.hid (O1.out.below B2 (by omega))
    clear B2
    go_wp2_with fail
    refine (toInt64S_own A n c _ zs w2 (RA.out.below T.out) (by have := T.out.size; omega) (by omega)).mono ?_
    rintro e w3 ⟨D3, d3, rfl, O3, B3⟩
    have hs3 := B3.size
    replace T := Lib.hid (T.out.trans (B3.mono T.out.size))
    replace O1 := Lib.hid (O1.out.below B3 (by omega))
    replace O3 := Lib.hid O3
    clear B3
    go_wp2_with fail
    refine (iLongestHigh_c D3 n d3 _ zs level w3 O3.out.reads (by omega) (by omega)).mono ?_
    rintro e w4 ⟨rfl, B4⟩
    have hs4 := B4.size
    replace T := Lib.hid (T.out.trans (B4.mono T.out.size))
    replace O1 := Lib.hid (O1.out.below B4 (by omega))
    replace O3 := Lib.hid (O3.out.below B4 (by omega))
    clear B4
    go_wp2_with fail
    refine (toInt64S_own A n c _ zs w4 (RA.out.below T.out) (by have := T.out.size; omega) (by omega)).mono ?_
    rintro e w5 ⟨D6, d6, rfl, O6, B5⟩
    have hs5 := B5.size
    replace T := Lib.hid (T.out.trans (B5.mono T.out.size))
    replace O1 := Lib.hid (O1.out.below B5 (by omega))
    replace O3 := Lib.hid (O3.out.below B5 (by omega))
    replace O6 := Lib.hid O6
    clear B5
    go_wp2_with fail
    refine (eqInt64S_same D3 D6 n n d3 d6 _ _ _ w5 O3.out.reads O6.out.reads (by omega)).mono ?_
    rintro e w6 ⟨rfl, B6⟩
    have hs6 := B6.size
    replace T := Lib.hid (T.out.trans (B6.mono T.out.size))
    replace O1 := Lib.hid (O1.out.below B6 (by omega))
    replace O3 := Lib.hid (O3.out.below B6 (by omega))
    replace O6 := Lib.hid (O6.out.below B6 (by omega))
    clear B6
    go_wp2
    go_ret
    exact ⟨rfl, T.out⟩
namespace fnExactLongestHigh
set_option maxRecDepth 100000 in
theorem lifted (os : Os) (started : os.Started) (H : Type) (enc : TypeId × Value → H) :
    ReturnsInHanded {} Try.checked os 5 .any (Rows.fnExactLongestHighSpec.pre6 enc Try.prog Try.f5 Rows.fnExactLongestHighRow.domain false) (Rows.fnExactLongestHighSpec.post enc Try.prog Try.f5 false true false false) := by
  refine returnsInHanded_of_change (C := Try.checked) ownKnobNone started (by kernel_rfl) Try.func5
    (ChangeSpec.witness6 (enc := enc) (C := Try.checked) false ⟨#[], #[.slice none 0 0, .int .i64 0], []⟩ 8 (by kernel_rfl) (by kernel_rfl) (by kernel_rfl) (by kernel_rfl)) ?_
  intro W base args ds gs before hval0 hW hcnd _
  have hval : ∀ (j : Nat) t v, Try.f5.params[j]? = some t → args[j]? = some v → Value.okWide Try.prog W .any base t v := hval0
  have hW' := hW
  obtain ⟨p, q, hA0, hV, rfl, hfz, hnd⟩ := hW
  have hA : DataW.TrodAll enc Try.prog W 0 (fun _ => true) true Try.f5.params.toList args.toList ds p := hA0
  rw [Try.params5] at hA hval
  obtain ⟨v0, vs0, d0, ds0, p0, q0, hargs, rfl, rfl, h0, r0⟩ := trodAll_cons hA
  obtain ⟨v1, vs1, d1, ds1, p1, q1, rfl, rfl, rfl, h1, r1⟩ := trodAll_cons r0
  obtain ⟨rfl, rfl, rfl⟩ := trodAll_nil r1
  obtain rfl : args = #[v0, v1] := by cases args; simp_all
  obtain ⟨rfl, rfl⟩ := trodVars_none hV
  have k0 := h0
  have lt0 : ∀ x ∈ p0, x.block < W.heap.size := by obtain ⟨m, hm⟩ := k0; exact DataW.trod_lt m _ _ _ hm
  have k1 := h1
  have lt1 : ∀ x ∈ p1, x.block < W.heap.size := by obtain ⟨m, hm⟩ := k1; exact DataW.trod_lt m _ _ _ hm
  obtain ⟨A0, n0, c0, z0, rfl, R0, -, -, wf0⟩ := open_i64s (hval 0 22 v0 rfl rfl) h0
  obtain ⟨a1, rfl, -, -, wf1⟩ := open_int Try.underlying2 (hval 1 2 v1 rfl rfl) h1
  clear hA0 hval0
  refine (wLongestHigh W A0 n0 c0 z0 R0 wf0 a1 wf1).mono fun e W' ⟨he, bel⟩ => ?_
  subst he
  exact ⟨_, rfl, _, _, _, [], _, [], hW', trodAll_mk1 (shut_bool Try.underlying4 _), (trodAll_cons_mk (Below.trod laidOut (by kernel_rfl) (of_decide_eq_true (by kernel_rfl)) k0 bel lt0) (trodAll_cons_mk (Below.trod laidOut (by kernel_rfl) (of_decide_eq_true (by kernel_rfl)) k1 bel lt1) trodAll_mk0)), rfl, bel.frame _, fun h => by cases h⟩
theorem over : Rows.fnExactLongestHighRow.holds Try.pinned (OpenSpec.ofChange Rows.fnExactLongestHighSpec) :=
  OpenClaim.holds_of_wide 5 Try.f5 rfl rfl rfl rfl rfl rfl rfl ⟨rfl, rfl, rfl, rfl, rfl⟩ rfl rfl rfl rfl rfl (by kernel_rfl) Try.func5 (by kernel_rfl)
    (of_decide_eq_true (by kernel_rfl)) (by unfold Func.isWrapper; first | (rw [if_pos (by decide +kernel)]; kernel_rfl) | (rw [if_neg (by decide +kernel)]; exact ⟨rfl, rfl⟩))
    (fun os started H enc _ => lifted os started H enc)
theorem proved : Rows.FnExactLongestHighSaid := over
end fnExactLongestHigh

end Go.Proofs.Ytbienjiinokhoaa
