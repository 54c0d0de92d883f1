/- FnExactLevelOfSlopes. -/
import Derived.Test.YtipchejcgbmpgaaLayO
import Derived.Test.YtipchejcgbmpgaaOpenLay
namespace Go.Proofs.Ytipchejcgbmpgaa
open Go.ChangeShapes Go.WideShapes Go.ChangeAt Go.RowKit
set_option linter.unusedVariables false
theorem own_nc {w : World} {lo hi s n c : Nat} {T : TypeId} {A : Option Addr} {xs : List Value} (h : Own w lo hi T s (.slice A n c) n xs) : n ≤ c := by
  obtain ⟨A', c', e, h1, _⟩ := h.slice
  injection e with e1 e2 e3
  omega
set_option maxHeartbeats 4000000 in
theorem wLevelOfSlopes (w : World) (x : Option Addr × Nat × Nat) (R : ∃ ss, Reads w w.heap.size 7 x.1 x.2.1 (lays ss) ∧ x.2.1 ≤ x.2.2 ∧ x.2.2 ≤ maxLen) (A1 : Option Addr) (n1 c1 : Nat) (zs : List Int) (hz : Reads w w.heap.size 1 A1 n1 (ints zs)) (_ : ∀ z ∈ zs, (Lit.int .i64 z).wf = true) (run : Int) (_ : (Lit.int .i64 run).wf = true) (d : Int) (_ : (Lit.int .i64 d).wf = true) (t : Int) (_ : (Lit.int .i64 t).wf = true) :
    Calls Try.prog 8 #[.slice x.1 x.2.1 x.2.2, .slice A1 n1 c1, .int .i64 run, .int .i64 d, .int .i64 t] w fun e w' => e = .returned (.bool true) ∧ Below w.heap.size w w' := by
  obtain ⟨A, n, c⟩ := x
  obtain ⟨ls, ha, hnc, hcm⟩ := R
  simp only at ha hnc hcm ⊢
  have hm : n ≤ 9223372036854775807 := by unfold maxLen at hcm; omega
  have hsz := szLayerS_c A n c 1048576 w (by omega) (by omega) hm
  by_cases h21 : 1048576 < n1
  · clear ha hz hsz
    go_enter Try.func8, Try.ntmps8
    go_wp2
    go_ret
    exact ⟨rfl, Below.refl _ _⟩
  by_cases h20 : 1048576 < n
  · rw [if_pos (by omega)] at hsz
    clear ha hz
    go_enter Try.func8, Try.ntmps8
    go_wp2_with fail
    refine hsz.mono ?_
    rintro e w1 ⟨rfl, rfl⟩
    clear hsz
    go_wp2
    go_ret
    exact ⟨rfl, Below.refl _ _⟩
  · rw [if_neg (by omega)] at hsz
    have hpos : ¬ (1048576 - (n : Int) < 0) := by omega
    have RA := Lib.hid ha; clear ha
    have RZ := Lib.hid hz; clear hz
    go_enter Try.func8, Try.ntmps8
    go_wp2_with fail
    refine hsz.mono ?_
    rintro e w1 ⟨rfl, rfl⟩
    clear hsz
    have T := Lib.hid (Below.refl w.heap.size w)
    go_wp2_with fail
    refine (toLayerS_own A n c _ ls w (RA.out.below T.out) (by have := T.out.size; omega) (by omega)).mono ?_
    rintro e w1 ⟨D1, d1, rfl, O1, B1⟩
    have hs1 := B1.size
    replace T := Lib.hid (T.out.trans (B1.mono T.out.size))
    replace O1 := Lib.hid O1
    clear B1
    go_wp2_with fail
    refine (toInt64S_own A1 n1 c1 _ zs w1 (RZ.out.below T.out) (by have := T.out.size; omega) (by omega)).mono ?_
    rintro e w2 ⟨D2, d2, rfl, O2, B2⟩
    have hs2 := B2.size
    replace T := Lib.hid (T.out.trans (B2.mono T.out.size))
    replace O1 := Lib.hid (O1.out.below B2 (by omega))
    replace O2 := Lib.hid O2
    clear B2
    go_wp2_with fail
    refine (sLevelOfSlopes_c D1 n d1 _ ls D2 n1 d2 _ zs run d t w2 O1.out.reads (by omega) (by omega) (own_nc O1.out) O2.out.reads (by omega) (by omega)).mono ?_
    rintro e w3 ⟨rfl, B3⟩
    have hs3 := B3.size
    replace T := Lib.hid (T.out.trans (B3.mono T.out.size))
    replace O1 := Lib.hid (O1.out.below B3 (by omega))
    replace O2 := Lib.hid (O2.out.below B3 (by omega))
    clear B3
    go_wp2_with fail
    refine (toLayerS_own A n c _ ls w3 (RA.out.below T.out) (by have := T.out.size; omega) (by omega)).mono ?_
    rintro e w4 ⟨D3, d3, rfl, O3, B4⟩
    have hs4 := B4.size
    replace T := Lib.hid (T.out.trans (B4.mono T.out.size))
    replace O1 := Lib.hid (O1.out.below B4 (by omega))
    replace O2 := Lib.hid (O2.out.below B4 (by omega))
    replace O3 := Lib.hid O3
    clear B4
    go_wp2_with fail
    refine (toInt64S_own A1 n1 c1 _ zs w4 (RZ.out.below T.out) (by have := T.out.size; omega) (by omega)).mono ?_
    rintro e w5 ⟨D4, d4, rfl, O4, B5⟩
    have hs5 := B5.size
    replace T := Lib.hid (T.out.trans (B5.mono T.out.size))
    replace O1 := Lib.hid (O1.out.below B5 (by omega))
    replace O2 := Lib.hid (O2.out.below B5 (by omega))
    replace O3 := Lib.hid (O3.out.below B5 (by omega))
    replace O4 := Lib.hid O4
    clear B5
    go_wp2_with fail
    refine (iLevelOfSlopes_c D3 n d3 _ ls D4 n1 d4 _ zs run d t w5 O3.out.reads (by omega) (by omega) (own_nc O3.out) O4.out.reads (by omega) (by omega)).mono ?_
    rintro e w6 ⟨rfl, B6⟩
    have hs6 := B6.size
    replace T := Lib.hid (T.out.trans (B6.mono T.out.size))
    replace O1 := Lib.hid (O1.out.below B6 (by omega))
    replace O2 := Lib.hid (O2.out.below B6 (by omega))
    replace O3 := Lib.hid (O3.out.below B6 (by omega))
    replace O4 := Lib.hid (O4.out.below B6 (by omega))
    clear B6
    go_wp2_with fail
    refine (toLayerS_own A n c _ ls w6 (RA.out.below T.out) (by have := T.out.size; omega) (by omega)).mono ?_
    rintro e w7 ⟨D6, d6, rfl, O6, B7⟩
    have hs7 := B7.size
    replace T := Lib.hid (T.out.trans (B7.mono T.out.size))
    replace O1 := Lib.hid (O1.out.below B7 (by omega))
    replace O2 := Lib.hid (O2.out.below B7 (by omega))
    replace O3 := Lib.hid (O3.out.below B7 (by omega))
    replace O4 := Lib.hid (O4.out.below B7 (by omega))
    replace O6 := Lib.hid O6
    clear B7
    go_wp2_with fail
    refine (eqLayerS_same D3 D6 n n d3 d6 _ _ ls w7 O3.out.reads O6.out.reads (by omega) (by omega) (by omega)).mono ?_
    rintro e w8 ⟨rfl, B8⟩
    have hs8 := B8.size
    replace T := Lib.hid (T.out.trans (B8.mono T.out.size))
    replace O1 := Lib.hid (O1.out.below B8 (by omega))
    replace O2 := Lib.hid (O2.out.below B8 (by omega))
    replace O3 := Lib.hid (O3.out.below B8 (by omega))
    replace O4 := Lib.hid (O4.out.below B8 (by omega))
    replace O6 := Lib.hid (O6.out.below B8 (by omega))
    clear B8
    go_wp2_with fail
    refine (toInt64S_own A1 n1 c1 _ zs w8 (RZ.out.below T.out) (by have := T.out.size; omega) (by omega)).mono ?_
    rintro e w9 ⟨D7, d7, rfl, O7, B9⟩
    have hs9 := B9.size
    replace T := Lib.hid (T.out.trans (B9.mono T.out.size))
    replace O1 := Lib.hid (O1.out.below B9 (by omega))
    replace O2 := Lib.hid (O2.out.below B9 (by omega))
    replace O3 := Lib.hid (O3.out.below B9 (by omega))
    replace O4 := Lib.hid (O4.out.below B9 (by omega))
    replace O6 := Lib.hid (O6.out.below B9 (by omega))
    replace O7 := Lib.hid O7
    clear B9
    go_wp2_with fail
    refine (eqInt64S_same D4 D7 n1 n1 d4 d7 _ _ zs w9 O4.out.reads O7.out.reads (by omega)).mono ?_
    rintro e w10 ⟨rfl, B10⟩
    have hs10 := B10.size
    replace T := Lib.hid (T.out.trans (B10.mono T.out.size))
    replace O1 := Lib.hid (O1.out.below B10 (by omega))
    replace O2 := Lib.hid (O2.out.below B10 (by omega))
    replace O3 := Lib.hid (O3.out.below B10 (by omega))
    replace O4 := Lib.hid (O4.out.below B10 (by omega))
    replace O6 := Lib.hid (O6.out.below B10 (by omega))
    replace O7 := Lib.hid (O7.out.below B10 (by omega))
    clear B10
    go_wp2
    go_ret
    exact ⟨rfl, T.out⟩
namespace fnExactLevelOfSlopes
set_option maxRecDepth 100000 in
theorem lifted (os : Os) (started : os.Started) (H : Type) (enc : TypeId × Value → H) :
    ReturnsInHanded {} Try.checked os 8 .any (Rows.fnExactLevelOfSlopesSpec.pre6 enc Try.prog Try.f8 Rows.fnExactLevelOfSlopesRow.domain false) (Rows.fnExactLevelOfSlopesSpec.post enc Try.prog Try.f8 false true false false) := by
  refine returnsInHanded_of_change (C := Try.checked) ownKnobNone started (by kernel_rfl) Try.func8
    (ChangeSpec.witness6 (enc := enc) (C := Try.checked) false ⟨#[], #[wit_lays, .slice none 0 0, .int .i64 0, .int .i64 0, .int .i64 0], []⟩ 8 (by kernel_rfl) (by kernel_rfl) (by kernel_rfl) (by kernel_rfl)) ?_
  intro W base args ds gs before hval0 hW hcnd _
  have hval : ∀ (j : Nat) t v, Try.f8.params[j]? = some t → args[j]? = some v → Value.okWide Try.prog W .any base t v := hval0
  have hW' := hW
  obtain ⟨p, q, hA0, hV, rfl, hfz, hnd⟩ := hW
  have hA : DataW.TrodAll enc Try.prog W 0 (fun _ => true) true Try.f8.params.toList args.toList ds p := hA0
  rw [Try.params8] at hA hval
  obtain ⟨v0, vs0, d0, ds0, p0, q0, hargs, rfl, rfl, h0, r0⟩ := trodAll_cons hA
  obtain ⟨v1, vs1, d1, ds1, p1, q1, rfl, rfl, rfl, h1, r1⟩ := trodAll_cons r0
  obtain ⟨v2, vs2, d2, ds2, p2, q2, rfl, rfl, rfl, h2, r2⟩ := trodAll_cons r1
  obtain ⟨v3, vs3, d3, ds3, p3, q3, rfl, rfl, rfl, h3, r3⟩ := trodAll_cons r2
  obtain ⟨v4, vs4, d4, ds4, p4, q4, rfl, rfl, rfl, h4, r4⟩ := trodAll_cons r3
  obtain ⟨rfl, rfl, rfl⟩ := trodAll_nil r4
  obtain rfl : args = #[v0, v1, v2, v3, v4] := by cases args; simp_all
  obtain ⟨rfl, rfl⟩ := trodVars_none hV
  have k0 := h0
  have lt0 : ∀ x ∈ p0, x.block < W.heap.size := by obtain ⟨m, hm⟩ := k0; exact DataW.trod_lt m _ _ _ hm
  have k1 := h1
  have lt1 : ∀ x ∈ p1, x.block < W.heap.size := by obtain ⟨m, hm⟩ := k1; exact DataW.trod_lt m _ _ _ hm
  have k2 := h2
  have lt2 : ∀ x ∈ p2, x.block < W.heap.size := by obtain ⟨m, hm⟩ := k2; exact DataW.trod_lt m _ _ _ hm
  have k3 := h3
  have lt3 : ∀ x ∈ p3, x.block < W.heap.size := by obtain ⟨m, hm⟩ := k3; exact DataW.trod_lt m _ _ _ hm
  have k4 := h4
  have lt4 : ∀ x ∈ p4, x.block < W.heap.size := by obtain ⟨m, hm⟩ := k4; exact DataW.trod_lt m _ _ _ hm
  obtain ⟨x0, rfl, R0⟩ := open_lays (hval 0 22 v0 rfl rfl) h0
  obtain ⟨A1, n1, c1, z1, rfl, R1, -, -, wf1⟩ := open_i64s (hval 1 35 v1 rfl rfl) h1
  obtain ⟨a2, rfl, -, -, wf2⟩ := open_int Try.underlying2 (hval 2 2 v2 rfl rfl) h2
  obtain ⟨a3, rfl, -, -, wf3⟩ := open_int Try.underlying2 (hval 3 2 v3 rfl rfl) h3
  obtain ⟨a4, rfl, -, -, wf4⟩ := open_int Try.underlying2 (hval 4 2 v4 rfl rfl) h4
  clear hA0 hval0
  refine (wLevelOfSlopes W x0 R0 A1 n1 c1 z1 R1 wf1 a2 wf2 a3 wf3 a4 wf4).mono fun e W' ⟨he, bel⟩ => ?_
  subst he
  exact ⟨_, rfl, _, _, _, [], _, [], hW', trodAll_mk1 (shut_bool Try.underlying4 _), (trodAll_cons_mk (Below.trod laidOut (by kernel_rfl) (of_decide_eq_true (by kernel_rfl)) k0 bel lt0) (trodAll_cons_mk (Below.trod laidOut (by kernel_rfl) (of_decide_eq_true (by kernel_rfl)) k1 bel lt1) (trodAll_cons_mk (Below.trod laidOut (by kernel_rfl) (of_decide_eq_true (by kernel_rfl)) k2 bel lt2) (trodAll_cons_mk (Below.trod laidOut (by kernel_rfl) (of_decide_eq_true (by kernel_rfl)) k3 bel lt3) (trodAll_cons_mk (Below.trod laidOut (by kernel_rfl) (of_decide_eq_true (by kernel_rfl)) k4 bel lt4) trodAll_mk0))))), rfl, bel.frame _, fun h => by cases h⟩
theorem over : Rows.fnExactLevelOfSlopesRow.holds Try.pinned (OpenSpec.ofChange Rows.fnExactLevelOfSlopesSpec) :=
  OpenClaim.holds_of_wide 8 Try.f8 rfl rfl rfl rfl rfl rfl rfl ⟨rfl, rfl, rfl, rfl, rfl⟩ rfl rfl rfl rfl rfl (by kernel_rfl) Try.func8 (by kernel_rfl)
    (of_decide_eq_true (by kernel_rfl)) (by unfold Func.isWrapper; first | (rw [if_pos (by decide +kernel)]; kernel_rfl) | (rw [if_neg (by decide +kernel)]; exact ⟨rfl, rfl⟩))
    (fun os started H enc _ => lifted os started H enc)
theorem proved : Rows.FnExactLevelOfSlopesSaid := over
end fnExactLevelOfSlopes
end Go.Proofs.Ytipchejcgbmpgaa
