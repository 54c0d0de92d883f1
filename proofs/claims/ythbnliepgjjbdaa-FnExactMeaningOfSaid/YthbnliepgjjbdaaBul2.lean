/- FnExactValidBulletin. -/
import Derived.Test.YthbnliepgjjbdaaBul
import Derived.Test.YthbnliepgjjbdaaOpenS
namespace Go.Proofs.Ythbnliepgjjbdaa
open Go.ChangeShapes Go.WideShapes Go.ChangeAt Go.RowKit
set_option linter.unusedVariables false
theorem sValidBulletin_c (A : Option Addr) (n c BA : Nat) (ss : List Sen) (w : World) (ha : Reads w BA 3 A n (sens ss)) (hA : BA ≤ w.heap.size) (hn : n ≤ 1152921504606846976) :
    Calls Try.prog 11 #[.slice A n c] w fun e w' => e = .returned (.bool (bulB ss)) ∧ Below w.heap.size w w' := by
  have hc := l19List_c A n c BA ss w ha hA hn
  clear ha
  go_enter Try.func11, Try.ntmps11
  go_wp2_with fail
  refine hc.mono ?_
  rintro e w1 ⟨rfl, hb⟩
  clear hc
  go_wp2
  go_ret
  exact ⟨rfl, hb⟩

set_option maxHeartbeats 2000000 in
theorem wValidBulletin (w : World) (x : Option Addr × Nat × Nat) (R : ∃ ss, Reads w w.heap.size 3 x.1 x.2.1 (sens ss) ∧ x.2.1 ≤ x.2.2 ∧ x.2.2 ≤ maxLen) :
    Calls Try.prog 4 #[.slice x.1 x.2.1 x.2.2] w fun e w' => e = .returned (.bool true) ∧ Below w.heap.size w w' := by
  obtain ⟨A, n, c⟩ := x
  obtain ⟨ss, ha, hnc, hcm⟩ := R
  simp only at ha hnc hcm ⊢
  have hm : n ≤ 9223372036854775807 := by unfold maxLen at hcm; omega
  have hsz := szSentenceS_c A n c 1048576 w (by omega) (by omega) hm
  by_cases h20 : 1048576 < n
  · rw [if_pos (by omega)] at hsz
    clear ha
    go_enter Try.func4, Try.ntmps4
    go_wp2_with fail
    refine hsz.mono ?_
    rintro e w1 ⟨rfl, rfl⟩
    clear hsz
    go_wp2
    go_ret
    exact ⟨rfl, Below.refl _ _⟩
  · rw [if_neg (by omega)] at hsz
    have hpos : ¬ (1048576 - (n : Int) < 0) := by omega
    have RA := Lib.hid ha; clear ha
    go_enter Try.func4, Try.ntmps4
    go_wp2_with fail
    refine hsz.mono ?_
    rintro e w1 ⟨rfl, rfl⟩
    clear hsz
    have T := Lib.hid (Below.refl w.heap.size w)
    go_wp2_with fail
    refine (toSentenceS_own A n c _ ss w (RA.out.below T.out) (by have := T.out.size; omega) (by omega)).mono ?_
    rintro e w1 ⟨D1, d1, rfl, O1, B1⟩
    have hs1 := B1.size
    replace T := Lib.hid (T.out.trans (B1.mono T.out.size))
    replace O1 := Lib.hid O1
    clear B1
    go_wp2_with fail
    refine (sValidBulletin_c D1 n d1 _ ss w1 O1.out.reads (by omega) (by omega)).mono ?_
    rintro e w2 ⟨rfl, B2⟩
    have hs2 := B2.size
    replace T := Lib.hid (T.out.trans (B2.mono T.out.size))
    replace O1 := Lib.hid (O1.out.below B2 (by omega))
    clear B2
    go_wp2_with fail
    refine (toSentenceS_own A n c _ ss w2 (RA.out.below T.out) (by have := T.out.size; omega) (by omega)).mono ?_
    rintro e w3 ⟨D3, d3, rfl, O3, B3⟩
    have hs3 := B3.size
    replace T := Lib.hid (T.out.trans (B3.mono T.out.size))
    replace O1 := Lib.hid (O1.out.below B3 (by omega))
    replace O3 := Lib.hid O3
    clear B3
    go_wp2_with fail
    refine (iValidBulletin_c D3 n d3 _ ss w3 O3.out.reads (by omega) (by omega)).mono ?_
    rintro e w4 ⟨rfl, B4⟩
    have hs4 := B4.size
    replace T := Lib.hid (T.out.trans (B4.mono T.out.size))
    replace O1 := Lib.hid (O1.out.below B4 (by omega))
    replace O3 := Lib.hid (O3.out.below B4 (by omega))
    clear B4
    go_wp2_with fail
    refine (toSentenceS_own A n c _ ss w4 (RA.out.below T.out) (by have := T.out.size; omega) (by omega)).mono ?_
    rintro e w5 ⟨D6, d6, rfl, O6, B5⟩
    have hs5 := B5.size
    replace T := Lib.hid (T.out.trans (B5.mono T.out.size))
    replace O1 := Lib.hid (O1.out.below B5 (by omega))
    replace O3 := Lib.hid (O3.out.below B5 (by omega))
    replace O6 := Lib.hid O6
    clear B5
    go_wp2_with fail
    refine (eqSentenceS_same D3 D6 n n d3 d6 _ _ ss w5 O3.out.reads O6.out.reads (by omega) (by omega) (by omega)).mono ?_
    rintro e w6 ⟨rfl, B6⟩
    have hs6 := B6.size
    replace T := Lib.hid (T.out.trans (B6.mono T.out.size))
    replace O1 := Lib.hid (O1.out.below B6 (by omega))
    replace O3 := Lib.hid (O3.out.below B6 (by omega))
    replace O6 := Lib.hid (O6.out.below B6 (by omega))
    clear B6
    go_wp2
    go_ret
    exact ⟨rfl, T.out⟩
namespace fnExactValidBulletin
set_option maxRecDepth 100000 in
theorem lifted (os : Os) (started : os.Started) (H : Type) (enc : TypeId × Value → H) :
    ReturnsInHanded {} Try.checked os 4 .any (Rows.fnExactValidBulletinSpec.pre6 enc Try.prog Try.f4 Rows.fnExactValidBulletinRow.domain false) (Rows.fnExactValidBulletinSpec.post enc Try.prog Try.f4 false true false false) := by
  refine returnsInHanded_of_change (C := Try.checked) ownKnobNone started (by kernel_rfl) Try.func4
    (ChangeSpec.witness6 (enc := enc) (C := Try.checked) false ⟨#[], #[wit_sens], []⟩ 8 (by kernel_rfl) (by kernel_rfl) (by kernel_rfl) (by kernel_rfl)) ?_
  intro W base args ds gs before hval0 hW hcnd _
  have hval : ∀ (j : Nat) t v, Try.f4.params[j]? = some t → args[j]? = some v → Value.okWide Try.prog W .any base t v := hval0
  have hW' := hW
  obtain ⟨p, q, hA0, hV, rfl, hfz, hnd⟩ := hW
  have hA : DataW.TrodAll enc Try.prog W 0 (fun _ => true) true Try.f4.params.toList args.toList ds p := hA0
  rw [Try.params4] at hA hval
  obtain ⟨v0, vs0, d0, ds0, p0, q0, hargs, rfl, rfl, h0, r0⟩ := trodAll_cons hA
  obtain ⟨rfl, rfl, rfl⟩ := trodAll_nil r0
  obtain rfl : args = #[v0] := by cases args; simp_all
  obtain ⟨rfl, rfl⟩ := trodVars_none hV
  have k0 := h0
  have lt0 : ∀ x ∈ p0, x.block < W.heap.size := by obtain ⟨m, hm⟩ := k0; exact DataW.trod_lt m _ _ _ hm
  obtain ⟨x0, rfl, R0⟩ := open_sens (hval 0 28 v0 rfl rfl) h0
  clear hA0 hval0
  refine (wValidBulletin W x0 R0).mono fun e W' ⟨he, bel⟩ => ?_
  subst he
  exact ⟨_, rfl, _, _, _, [], _, [], hW', trodAll_mk1 (shut_bool Try.underlying4 _), (trodAll_cons_mk (Below.trod laidOut (by kernel_rfl) (of_decide_eq_true (by kernel_rfl)) k0 bel lt0) trodAll_mk0), rfl, bel.frame _, fun h => by cases h⟩
theorem over : Rows.fnExactValidBulletinRow.holds Try.pinned (OpenSpec.ofChange Rows.fnExactValidBulletinSpec) :=
  OpenClaim.holds_of_wide 4 Try.f4 rfl rfl rfl rfl rfl rfl rfl ⟨rfl, rfl, rfl, rfl, rfl⟩ rfl rfl rfl rfl rfl (by kernel_rfl) Try.func4 (by kernel_rfl)
    (of_decide_eq_true (by kernel_rfl)) (by unfold Func.isWrapper; first | (rw [if_pos (by decide +kernel)]; kernel_rfl) | (rw [if_neg (by decide +kernel)]; exact ⟨rfl, rfl⟩))
    (fun os started H enc _ => lifted os started H enc)
theorem proved : Rows.FnExactValidBulletinSaid := over
end fnExactValidBulletin

end Go.Proofs.Ythbnliepgjjbdaa
