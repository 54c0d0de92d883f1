/- Sentences: when one is valid; the program's and the reference's answer the same. -/
import Derived.Test.YthbnliepgjjbdaaGreatDoorTa
import Derived.Test.YthbnliepgjjbdaaGreatDoorMio
namespace Go.Proofs.YthbnliepgjjbdaaGreatDoor
open Go.ChangeShapes Go.WideShapes Go.ChangeAt Go.RowKit
set_option linter.unusedVariables false

def okS (k a b : Int) : Bool :=
  if k ≠ 4 ∧ b ≠ 0 then false else if k = 1 then inB a 1 5 else if k = 2 then inB a (-1) 1 else if k = 3 then inB a 0 5000
  else if k = 4 then inB a 0 7 && inB b 0 7 else if k = 5 ∨ k = 6 then inB a 1 500 else if k = 7 then inB a 0 7 else false

set_option maxHeartbeats 1000000 in
theorem iValidSentence_c (k a b : Int) (w : World) :
    Calls Tryz.prog 18 #[.agg #[.int .i64 k, .int .i64 a, .int .i64 b]] w fun e w' => e = .returned (.bool (okS k a b)) ∧ Below w.heap.size w w' := by
  go_enter Tryz.func18, Tryz.ntmps18
  go_wp2_with (first | (go_at_call 17; refine (within_c _ _ _ _).mono ?_; rintro e w' ⟨rfl, rfl⟩) | (go_at_call 29; refine (levelOk_c _ _).mono ?_; rintro e w' ⟨rfl, rfl⟩))
  all_goals go_ret
  all_goals (refine ⟨ret_bool ?_, by go_grown⟩; simp_all [okS])
set_option maxHeartbeats 1000000 in
theorem l19Ok_c (ad : Addr) (k a b : Int) (w : World) (h0 : w.cell? ad = some (.int .i64 k)) (h1 : w.cell? ⟨ad.block, ad.off + 1, none⟩ = some (.int .i64 a)) (h2 : w.cell? ⟨ad.block, ad.off + 2, none⟩ = some (.int .i64 b)) :
    Calls Tryz.prog 31 #[.pointer (some ad)] w fun e w' => e = .returned (.bool (okS k a b)) ∧ w = w' := by
  go_enter Tryz.func31, Tryz.ntmps31
  go_wp2_with (first | (go_at_call 32; refine (l00In_c _ _ _ _).mono ?_; rintro e w' ⟨rfl, rfl⟩) | (go_at_call 20; refine (l17Is_c _ _).mono ?_; rintro e w' ⟨rfl, rfl⟩))
  all_goals go_ret
  all_goals (refine ⟨ret_bool ?_, rfl⟩; clear h0 h1 h2; simp_all [okS])
end Go.Proofs.YthbnliepgjjbdaaGreatDoor
