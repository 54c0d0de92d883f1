/- FnExactValidSentence. -/
import Derived.Test.YthbnliepgjjbdaaSen
import Derived.Test.YthbnliepgjjbdaaOpen
namespace Go.Proofs.Ythbnliepgjjbdaa
open Go.ChangeShapes Go.WideShapes Go.ChangeAt Go.RowKit
set_option linter.unusedVariables false

theorem sValidSentence_c (k a b : Int) (w : World) :
    Calls Try.prog 7 #[.agg #[.int .i64 k, .int .i64 a, .int .i64 b]] w fun e w' => e = .returned (.bool (okS k a b)) ∧ Below w.heap.size w w' := by
  have hc := fun (W : World) (ad : Addr) (h0 : W.cell? ad = some (.int .i64 k)) (h1 : W.cell? ⟨ad.block, ad.off + 1, none⟩ = some (.int .i64 a)) (h2 : W.cell? ⟨ad.block, ad.off + 2, none⟩ = some (.int .i64 b)) => l19Ok_c ad k a b W h0 h1 h2
  have HC := Lib.hid hc; clear hc
  go_enter Try.func7, Try.ntmps7
  go_wp2_with fail
  refine (HC.out _ _ ?_ ?_ ?_).mono ?_
  · go_simp
  · go_simp
  · go_simp
  rintro e w1 ⟨rfl, rfl⟩
  go_wp2
  go_ret
  exact ⟨rfl, by go_grown⟩
set_option maxHeartbeats 1000000 in
theorem wValidSentence (w : World) (x : Int × Int × Int) (R : (Lit.int .i64 x.1).wf = true ∧ (Lit.int .i64 x.2.1).wf = true ∧ (Lit.int .i64 x.2.2).wf = true) :
    Calls Try.prog 3 #[.agg #[.int .i64 x.1, .int .i64 x.2.1, .int .i64 x.2.2]] w fun e w' => e = .returned (.bool true) ∧ Below w.heap.size w w' := by
  obtain ⟨k, a, b⟩ := x
  clear R
  go_enter Try.func3, Try.ntmps3
  go_wp2_with fail
  refine (toSentence_c k a b _).mono ?_
  rintro e w1 ⟨rfl, B1⟩
  have hs1 : w.heap.size + 1 ≤ w1.heap.size := by have := B1.size; simpa using this
  have K1 : Hid (Blk w1 w.heap.size 23 #[.int .i64 k, .int .i64 a, .int .i64 b]) := Lib.hid ((Blk.new w _ _).below B1 (by simp))
  have T1 := Lib.hid (((Below.refl w.heap.size w).alloc (Nat.le_refl _) _).trans (B1.mono (by simp)))
  clear B1
  go_wp2_with fail
  refine (sValidSentence_c k a b _).mono ?_
  rintro e w2 ⟨rfl, B2⟩
  have hs2 : w.heap.size + 1 ≤ w2.heap.size := by have := B2.size; omega
  have K2 := Lib.hid (K1.out.below B2 (by omega))
  have T2 := Lib.hid (T1.out.trans (B2.mono (by omega)))
  clear B2 K1 T1 hs1
  have c0 : w2.cell? ⟨w.heap.size, 0, none⟩ = some (.int .i64 k) := (K2.out.cell 0).trans rfl
  have c1 : w2.cell? ⟨w.heap.size, 1, none⟩ = some (.int .i64 a) := (K2.out.cell 1).trans rfl
  have c2 : w2.cell? ⟨w.heap.size, 2, none⟩ = some (.int .i64 b) := (K2.out.cell 2).trans rfl
  go_wp2_with fail
  refine (toSentence_c k a b _).mono ?_
  rintro e w3 ⟨rfl, B3⟩
  have T3 := Lib.hid (T2.out.trans (B3.mono (by omega)))
  have hs3 := B3.size
  clear B3
  go_wp2_with fail
  refine (iValidSentence_c k a b _).mono ?_
  rintro e w4 ⟨rfl, B4⟩
  have T4 := Lib.hid (T3.out.trans (B4.mono (by omega)))
  clear B4
  go_wp2
  go_ret
  exact ⟨rfl, T4.out⟩
namespace fnExactValidSentence
set_option maxRecDepth 100000 in
theorem lifted (os : Os) (started : os.Started) (H : Type) (enc : TypeId × Value → H) :
    ReturnsInHanded {} Try.checked os 3 .any (Rows.fnExactValidSentenceSpec.pre6 enc Try.prog Try.f3 Rows.fnExactValidSentenceRow.domain false) (Rows.fnExactValidSentenceSpec.post enc Try.prog Try.f3 false true false false) := by
  refine returnsInHanded_of_change (C := Try.checked) ownKnobNone started (by kernel_rfl) Try.func3
    (ChangeSpec.witness6 (enc := enc) (C := Try.checked) false ⟨#[], #[wit_sen], []⟩ 8 (by kernel_rfl) (by kernel_rfl) (by kernel_rfl) (by kernel_rfl)) ?_
  intro W base args ds gs before hval0 hW hcnd _
  have hval : ∀ (j : Nat) t v, Try.f3.params[j]? = some t → args[j]? = some v → Value.okWide Try.prog W .any base t v := hval0
  have hW' := hW
  obtain ⟨p, q, hA0, hV, rfl, hfz, hnd⟩ := hW
  have hA : DataW.TrodAll enc Try.prog W 0 (fun _ => true) true Try.f3.params.toList args.toList ds p := hA0
  rw [Try.params3] at hA hval
  obtain ⟨v0, vs0, d0, ds0, p0, q0, hargs, rfl, rfl, h0, r0⟩ := trodAll_cons hA
  obtain ⟨rfl, rfl, rfl⟩ := trodAll_nil r0
  obtain rfl : args = #[v0] := by cases args; simp_all
  obtain ⟨rfl, rfl⟩ := trodVars_none hV
  have k0 := h0
  have lt0 : ∀ x ∈ p0, x.block < W.heap.size := by obtain ⟨m, hm⟩ := k0; exact DataW.trod_lt m _ _ _ hm
  obtain ⟨x0, rfl, R0⟩ := open_sen (hval 0 23 v0 rfl rfl) h0
  clear hA0 hval0
  refine (wValidSentence W x0 R0).mono fun e W' ⟨he, bel⟩ => ?_
  subst he
  exact ⟨_, rfl, _, _, _, [], _, [], hW', trodAll_mk1 (shut_bool Try.underlying4 _), (trodAll_cons_mk (Below.trod laidOut (by kernel_rfl) (of_decide_eq_true (by kernel_rfl)) k0 bel lt0) trodAll_mk0), rfl, bel.frame _, fun h => by cases h⟩
theorem over : Rows.fnExactValidSentenceRow.holds Try.pinned (OpenSpec.ofChange Rows.fnExactValidSentenceSpec) :=
  OpenClaim.holds_of_wide 3 Try.f3 rfl rfl rfl rfl rfl rfl rfl ⟨rfl, rfl, rfl, rfl, rfl⟩ rfl rfl rfl rfl rfl (by kernel_rfl) Try.func3 (by kernel_rfl)
    (of_decide_eq_true (by kernel_rfl)) (by unfold Func.isWrapper; first | (rw [if_pos (by decide +kernel)]; kernel_rfl) | (rw [if_neg (by decide +kernel)]; exact ⟨rfl, rfl⟩))
    (fun os started H enc _ => lifted os started H enc)
theorem proved : Rows.FnExactValidSentenceSaid := over
end fnExactValidSentence
end Go.Proofs.Ythbnliepgjjbdaa
