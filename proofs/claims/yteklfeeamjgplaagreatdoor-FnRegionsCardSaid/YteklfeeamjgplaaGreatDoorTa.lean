/- Contracts of the small pure functions: within, l00In and the danger chapter's leaves. -/
import Derived.Test.YteklfeeamjgplaaGreatDoorBase
namespace Go.Proofs.YteklfeeamjgplaaGreatDoor
open Go.ChangeShapes Go.WideShapes Go.ChangeAt Go.RowKit
set_option linter.unusedVariables false


def inB (n low high : Int) : Bool := decide (low ≤ n ∧ n ≤ high)
theorem inB_t {n low high : Int} (h1 : low ≤ n) (h2 : n ≤ high) : inB n low high = true := by simp [inB, h1, h2]
theorem inB_f {n low high : Int} (h : n < low ∨ high < n) : inB n low high = false := by simp [inB]; omega

theorem within_c (n low high : Int) (w : World) :
    Calls Tryz.prog 68 #[.int .i64 n, .int .i64 low, .int .i64 high] w fun e w' => e = .returned (.bool (inB n low high)) ∧ w = w' := by
  go_enter Tryz.func68, Tryz.ntmps68
  go_wp2
  all_goals (go_ret; exact ⟨ret_bool (by simp [inB]; omega), rfl⟩)

theorem l00In_c (n low high : Int) (w : World) :
    Calls Tryz.prog 82 #[.int .i64 n, .int .i64 low, .int .i64 high] w fun e w' => e = .returned (.bool (inB n low high)) ∧ w = w' := by
  go_enter Tryz.func82, Tryz.ntmps82
  go_wp2
  all_goals (go_ret; exact ⟨ret_bool (by simp [inB]; omega), rfl⟩)

/-! ### chapter 17 -/
def sizeV (t : Int) : Int := if t < 10 then 1 else if t < 100 then 2 else if t < 1000 then 3 else if t < 10000 then 4 else 5



def likeV (low high : Int) : Int := if high < 1000 then 4 else if low < 1000 then 3 else if low < 1500 then 2 else 1
def extentV (u a : Int) : Int := if 3 * u ≥ 2 * a then 3 else if 3 * u ≥ a then 2 else 1
def dangerV (l e s : Int) : Int := if 2 * l + 2 * e + s ≤ 7 then 1 else if 2 * l + 2 * e + s ≤ 9 then 2 else if 2 * l + 2 * e + s ≤ 12 then 3 else if 2 * l + 2 * e + s ≤ 16 then 4 else 5

theorem levelOk_c (n : Int) (w : World) :
    Calls Tryz.prog 45 #[.int .i64 n] w fun e w' => e = .returned (.bool (inB n 1 5)) ∧ w = w' := by
  go_enter Tryz.func45, Tryz.ntmps45
  go_wp2_with (go_at_call 68; refine (within_c _ _ _ _).mono ?_; rintro e w' ⟨rfl, rfl⟩)
  go_ret
  exact ⟨rfl, rfl⟩
theorem l17Is_c (n : Int) (w : World) :
    Calls Tryz.prog 62 #[.int .i64 n] w fun e w' => e = .returned (.bool (inB n 1 5)) ∧ w = w' := by
  go_enter Tryz.func62, Tryz.ntmps62
  go_wp2_with (go_at_call 82; refine (l00In_c _ _ _ _).mono ?_; rintro e w' ⟨rfl, rfl⟩)
  go_ret
  exact ⟨rfl, rfl⟩

end Go.Proofs.YteklfeeamjgplaaGreatDoor
