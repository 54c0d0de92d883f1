/- FnExactComposeBulletin. -/
import Derived.Test.YthbnliepgjjbdaaComp2
namespace Go.Proofs.Ythbnliepgjjbdaa
open Go.ChangeShapes Go.WideShapes Go.ChangeAt Go.RowKit
set_option linter.unusedVariables false
theorem iComp_c (a b c d e : Int) (w : World) :
    Calls Try.prog 16 #[.int .i64 a, .int .i64 b, .int .i64 c, .int .i64 d, .int .i64 e] w (CompPost (compV a b c d e) (compE a b c d e) w) := by
  cases h : compOk a b c d e
  · have := iCompNo_c a b c d e w h
    unfold compV compE
    rw [h]
    exact this
  · have := iCompOk_c a b c d e w h
    unfold compE
    rw [h]
    exact this
theorem sComp_c (a b c d e : Int) (w : World) :
    Calls Try.prog 15 #[.int .i64 a, .int .i64 b, .int .i64 c, .int .i64 d, .int .i64 e] w (CompPost (compV a b c d e) (compE a b c d e) w) := by
  cases h : compOk a b c d e
  · have := sCompNo_c a b c d e w h
    unfold compV compE
    rw [h]
    exact this
  · have := sCompOk_c a b c d e w h
    unfold compE
    rw [h]
    exact this
set_option maxHeartbeats 4000000 in
theorem wComposeBulletin (a : Int) (_ : (Lit.int .i64 a).wf = true) (b : Int) (_ : (Lit.int .i64 b).wf = true) (c : Int) (_ : (Lit.int .i64 c).wf = true) (d : Int) (_ : (Lit.int .i64 d).wf = true) (e : Int) (_ : (Lit.int .i64 e).wf = true) (w : World) :
    Calls Try.prog 5 #[.int .i64 a, .int .i64 b, .int .i64 c, .int .i64 d, .int .i64 e] w fun e w' => e = .returned (.bool true) ∧ Below w.heap.size w w' := by
  have hs_ := sComp_c a b c d e
  have hi_ := iComp_c a b c d e
  generalize compV a b c d e = L at hs_ hi_
  generalize compE a b c d e = E at hs_ hi_
  go_enter Try.func5, Try.ntmps5
  have T := Lib.hid (Below.refl w.heap.size w)
  go_wp2_with fail
  refine (hs_ w).mono ?_
  rintro e w1 ⟨A1, n1, c1, rfl, O1, hn1, B1⟩
  have hs1 := B1.size
  replace T := Lib.hid (T.out.trans (B1.mono T.out.size))
  replace O1 := Lib.hid O1
  clear B1
  go_wp2_with fail
  refine (hi_ w1).mono ?_
  rintro e w2 ⟨A2, n2, c2, rfl, O2, hn2, B2⟩
  have hs2 := B2.size
  replace T := Lib.hid (T.out.trans (B2.mono T.out.size))
  replace O1 := Lib.hid (O1.out.below B2 (by omega))
  replace O2 := Lib.hid O2
  clear B2
  go_wp2_with fail
  refine (eqSentenceS_same A2 A1 n2 n1 c2 c1 _ _ L w2 O2.out.reads O1.out.reads (by omega) (by omega) (by omega)).mono ?_
  rintro e w3 ⟨rfl, B3⟩
  have hs3 := B3.size
  replace T := Lib.hid (T.out.trans (B3.mono T.out.size))
  replace O1 := Lib.hid (O1.out.below B3 (by omega))
  replace O2 := Lib.hid (O2.out.below B3 (by omega))
  clear B3
  go_wp2_with fail
  refine (markSentenceS_c A2 n2 c2 _ _ _ 1 w3 O2.out (by omega) (by omega) (by omega)).mono ?_
  rintro e w4 ⟨rfl, O2', Y4⟩
  have hs4 := Y4.size
  replace T := Lib.hid (T.out.trans (Y4.below (by omega) (by omega)))
  replace O1 := Lib.hid (O1.out.only Y4 (by omega))
  clear O2; have O2 := Lib.hid O2'; clear O2' Y4
  go_wp2_with fail
  refine (heldSentenceS_c A2 n2 c2 _ 1 w4 O2.out.reads (by omega) (by omega) (by omega)).mono ?_
  rintro e w5 ⟨rfl, B5⟩
  have hs5 := B5.size
  replace T := Lib.hid (T.out.trans (B5.mono T.out.size))
  replace O1 := Lib.hid (O1.out.below B5 (by omega))
  replace O2 := Lib.hid (O2.out.below B5 (by omega))
  clear B5
  go_wp2_with fail
  refine (hi_ w5).mono ?_
  rintro e w6 ⟨A3, n3, c3, rfl, O3, hn3, B6⟩
  have hs6 := B6.size
  replace T := Lib.hid (T.out.trans (B6.mono T.out.size))
  replace O1 := Lib.hid (O1.out.below B6 (by omega))
  replace O2 := Lib.hid (O2.out.below B6 (by omega))
  replace O3 := Lib.hid O3
  clear B6
  go_wp2_with fail
  refine (eqSentenceS_same A3 A1 n3 n1 c3 c1 _ _ L w6 O3.out.reads O1.out.reads (by omega) (by omega) (by omega)).mono ?_
  rintro e w7 ⟨rfl, B7⟩
  have hs7 := B7.size
  replace T := Lib.hid (T.out.trans (B7.mono T.out.size))
  replace O1 := Lib.hid (O1.out.below B7 (by omega))
  replace O2 := Lib.hid (O2.out.below B7 (by omega))
  replace O3 := Lib.hid (O3.out.below B7 (by omega))
  clear B7
  go_wp2_with fail
  refine (heldSentenceS_c A2 n2 c2 _ 1 w7 O2.out.reads (by omega) (by omega) (by omega)).mono ?_
  rintro e w8 ⟨rfl, B8⟩
  have hs8 := B8.size
  replace T := Lib.hid (T.out.trans (B8.mono T.out.size))
  replace O1 := Lib.hid (O1.out.below B8 (by omega))
  replace O2 := Lib.hid (O2.out.below B8 (by omega))
  replace O3 := Lib.hid (O3.out.below B8 (by omega))
  clear B8
  go_wp2
  go_ret
  exact ⟨rfl, T.out⟩
namespace fnExactComposeBulletin
theorem own : ownKnob Try.prog.godebug = none := by kernel_rfl
set_option maxRecDepth 100000 in
theorem lifted (os : Os) (started : os.Started) (H : Type) (enc : TypeId × Value → H) :
    ReturnsInHanded {} Try.checked os 5 .any (Rows.fnExactComposeBulletinSpec.pre6 enc Try.prog Try.f5 Rows.fnExactComposeBulletinRow.domain false) (Rows.fnExactComposeBulletinSpec.post enc Try.prog Try.f5 false true false false) := by
  refine returnsInHanded_of_change (C := Try.checked) own started (by kernel_rfl) Try.func5
    (ChangeSpec.witness6 (enc := enc) (C := Try.checked) false ⟨#[], #[.int .i64 0, .int .i64 0, .int .i64 0, .int .i64 0, .int .i64 0], []⟩ 8 (by kernel_rfl) (by kernel_rfl) (by kernel_rfl) (by kernel_rfl)) ?_
  intro W base args ds gs before hval0 hW hcnd _
  have hval : ∀ (j : Nat) t v, Try.f5.params[j]? = some t → args[j]? = some v → Value.okWide Try.prog W .any base t v := hval0
  have hW' := hW
  obtain ⟨p, q, hA0, hV, rfl, hfz, hnd⟩ := hW
  have hA : DataW.TrodAll enc Try.prog W 0 (fun _ => true) true Try.f5.params.toList args.toList ds p := hA0
  rw [Try.params5] at hA hval
  obtain ⟨v0, vs0, d0, ds0, p0, q0, hargs, rfl, rfl, h0, r0⟩ := trodAll_cons hA
  obtain ⟨v1, vs1, d1, ds1, p1, q1, rfl, rfl, rfl, h1, r1⟩ := trodAll_cons r0
  obtain ⟨v2, vs2, d2, ds2, p2, q2, rfl, rfl, rfl, h2, r2⟩ := trodAll_cons r1
  obtain ⟨v3, vs3, d3, ds3, p3, q3, rfl, rfl, rfl, h3, r3⟩ := trodAll_cons r2
  obtain ⟨v4, vs4, d4, ds4, p4, q4, rfl, rfl, rfl, h4, r4⟩ := trodAll_cons r3
  obtain ⟨rfl, rfl, rfl⟩ := trodAll_nil r4
  obtain rfl : args = #[v0, v1, v2, v3, v4] := by cases args; simp_all
  obtain ⟨rfl, rfl⟩ := trodVars_none hV
  obtain ⟨a, rfl, rfl, rfl, w0⟩ := open_int Try.underlying2 (hval 0 2 v0 rfl rfl) h0
  obtain ⟨b, rfl, rfl, rfl, w1⟩ := open_int Try.underlying2 (hval 1 2 v1 rfl rfl) h1
  obtain ⟨c, rfl, rfl, rfl, w2⟩ := open_int Try.underlying2 (hval 2 2 v2 rfl rfl) h2
  obtain ⟨d, rfl, rfl, rfl, w3⟩ := open_int Try.underlying2 (hval 3 2 v3 rfl rfl) h3
  obtain ⟨e, rfl, rfl, rfl, w4⟩ := open_int Try.underlying2 (hval 4 2 v4 rfl rfl) h4
  clear hA0 hval0
  simp only [List.append_nil] at hW'
  refine (wComposeBulletin a w0 b w1 c w2 d w3 e w4 W).mono fun e W' ⟨he, hg⟩ => ?_
  subst he
  exact ⟨_, rfl, post_of_below (pa := []) (pv := []) hW' (fun _ _ _ => (trodAll_cons_mk (shut_bool Try.underlying4 _) trodAll_mk0)) (fun sp _ => (trodAll_cons_mk (shut_int Try.underlying2 w0) (trodAll_cons_mk (shut_int Try.underlying2 w1) (trodAll_cons_mk (shut_int Try.underlying2 w2) (trodAll_cons_mk (shut_int Try.underlying2 w3) (trodAll_cons_mk (shut_int Try.underlying2 w4) trodAll_mk0)))))) (fun _ _ => rfl) rfl
    hg (ok_one (by kernel_rfl) rfl (okWide_bool_mk Try.underlying4 _))⟩
theorem over : Rows.fnExactComposeBulletinRow.holds Try.pinned (OpenSpec.ofChange Rows.fnExactComposeBulletinSpec) :=
  OpenClaim.holds_of_wide 5 Try.f5 rfl rfl rfl rfl rfl rfl rfl ⟨rfl, rfl, rfl, rfl, rfl⟩ rfl rfl rfl rfl rfl (by kernel_rfl) Try.func5 (by kernel_rfl)
    (of_decide_eq_true (by kernel_rfl)) (by unfold Func.isWrapper; first | (rw [if_pos (by decide +kernel)]; kernel_rfl) | (rw [if_neg (by decide +kernel)]; exact ⟨rfl, rfl⟩))
    (fun os started H enc _ => lifted os started H enc)
theorem proved : Rows.FnExactComposeBulletinSaid := over
end fnExactComposeBulletin
end Go.Proofs.Ythbnliepgjjbdaa
