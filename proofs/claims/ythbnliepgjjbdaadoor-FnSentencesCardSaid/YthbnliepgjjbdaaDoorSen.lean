/- Sentences: when one is valid; the program's and the reference's answer the same. -/
import Derived.Test.YthbnliepgjjbdaaDoorTa
import Derived.Test.YthbnliepgjjbdaaDoorOwn
namespace Go.Proofs.YthbnliepgjjbdaaDoor
open Go.ChangeShapes Go.WideShapes Go.ChangeAt Go.RowKit
set_option linter.unusedVariables false

def okS (k a b : Int) : Bool :=
  if k ≠ 4 ∧ b ≠ 0 then false else if k = 1 then inB a 1 5 else if k = 2 then inB a (-1) 1 else if k = 3 then inB a 0 5000
  else if k = 4 then inB a 0 7 && inB b 0 7 else if k = 5 ∨ k = 6 then inB a 1 500 else if k = 7 then inB a 0 7 else false

theorem toSentence_c (k a b : Int) (w : World) :
    Calls Tryd.prog 11 #[.agg #[.int .i64 k, .int .i64 a, .int .i64 b]] w fun e w' => e = .returned (.agg #[.int .i64 k, .int .i64 a, .int .i64 b]) ∧ Below w.heap.size w w' := by
  go_enter Tryd.func11, Tryd.ntmps11
  go_wp2
  go_returns
  exact ⟨rfl, by go_grown⟩
set_option maxHeartbeats 1000000 in
theorem iValidSentence_c (k a b : Int) (w : World) :
    Calls Tryd.prog 37 #[.agg #[.int .i64 k, .int .i64 a, .int .i64 b]] w fun e w' => e = .returned (.bool (okS k a b)) ∧ Below w.heap.size w w' := by
  go_enter Tryd.func37, Tryd.ntmps37
  go_wp2_with (first | (go_at_call 47; refine (within_c _ _ _ _).mono ?_; rintro e w' ⟨rfl, rfl⟩) | (go_at_call 57; refine (levelOk_c _ _).mono ?_; rintro e w' ⟨rfl, rfl⟩))
  all_goals go_ret
  all_goals (refine ⟨ret_bool ?_, by go_grown⟩; simp_all [okS])
set_option maxHeartbeats 1000000 in
theorem l19Ok_c (ad : Addr) (k a b : Int) (w : World) (h0 : w.cell? ad = some (.int .i64 k)) (h1 : w.cell? ⟨ad.block, ad.off + 1, none⟩ = some (.int .i64 a)) (h2 : w.cell? ⟨ad.block, ad.off + 2, none⟩ = some (.int .i64 b)) :
    Calls Tryd.prog 34 #[.pointer (some ad)] w fun e w' => e = .returned (.bool (okS k a b)) ∧ w = w' := by
  go_enter Tryd.func34, Tryd.ntmps34
  go_wp2_with (first | (go_at_call 54; refine (l00In_c _ _ _ _).mono ?_; rintro e w' ⟨rfl, rfl⟩) | (go_at_call 53; refine (l17Is_c _ _).mono ?_; rintro e w' ⟨rfl, rfl⟩))
  all_goals go_ret
  all_goals (refine ⟨ret_bool ?_, rfl⟩; clear h0 h1 h2; simp_all [okS])
end Go.Proofs.YthbnliepgjjbdaaDoor
