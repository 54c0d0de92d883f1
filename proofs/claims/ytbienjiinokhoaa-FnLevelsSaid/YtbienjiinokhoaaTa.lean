/- Contracts of the small pure functions: within, l00In and the danger chapter's leaves. -/
import Derived.Test.YtbienjiinokhoaaBase
namespace Go.Proofs.Ytbienjiinokhoaa
open Go.ChangeShapes Go.WideShapes Go.ChangeAt Go.RowKit
set_option linter.unusedVariables false


def inB (n low high : Int) : Bool := decide (low ≤ n ∧ n ≤ high)
theorem inB_t {n low high : Int} (h1 : low ≤ n) (h2 : n ≤ high) : inB n low high = true := by simp [inB, h1, h2]
theorem inB_f {n low high : Int} (h : n < low ∨ high < n) : inB n low high = false := by simp [inB]; omega

theorem within_c (n low high : Int) (w : World) :
    Calls Try.prog 38 #[.int .i64 n, .int .i64 low, .int .i64 high] w fun e w' => e = .returned (.bool (inB n low high)) ∧ w = w' := by
  go_enter Try.func38, Try.ntmps38
  go_wp2
  all_goals (go_ret; exact ⟨ret_bool (by simp [inB]; omega), rfl⟩)

theorem l00In_c (n low high : Int) (w : World) :
    Calls Try.prog 51 #[.int .i64 n, .int .i64 low, .int .i64 high] w fun e w' => e = .returned (.bool (inB n low high)) ∧ w = w' := by
  go_enter Try.func51, Try.ntmps51
  go_wp2
  all_goals (go_ret; exact ⟨ret_bool (by simp [inB]; omega), rfl⟩)

/-! ### chapter 17 -/
def sizeV (t : Int) : Int := if t < 10 then 1 else if t < 100 then 2 else if t < 1000 then 3 else if t < 10000 then 4 else 5

theorem sizeClass_c (t : Int) (w : World) :
    Calls Try.prog 41 #[.int .i64 t] w fun e w' => e = .returned (.int .i64 (sizeV t)) ∧ w = w' := by
  have i0 : ∀ w : World, (Instr.index 67 (.agg #[.int .i64 10, .int .i64 100, .int .i64 1000, .int .i64 10000]) (.int .i64 0)).run Try.prog w = .ok (.int .i64 10) w := fun _ => by kernel_rfl
  have i1 : ∀ w : World, (Instr.index 67 (.agg #[.int .i64 10, .int .i64 100, .int .i64 1000, .int .i64 10000]) (.int .i64 1)).run Try.prog w = .ok (.int .i64 100) w := fun _ => by kernel_rfl
  have i2 : ∀ w : World, (Instr.index 67 (.agg #[.int .i64 10, .int .i64 100, .int .i64 1000, .int .i64 10000]) (.int .i64 2)).run Try.prog w = .ok (.int .i64 1000) w := fun _ => by kernel_rfl
  have i3 : ∀ w : World, (Instr.index 67 (.agg #[.int .i64 10, .int .i64 100, .int .i64 1000, .int .i64 10000]) (.int .i64 3)).run Try.prog w = .ok (.int .i64 10000) w := fun _ => by kernel_rfl
  go_enter Try.func41, Try.ntmps41
  go_wp2
  go_rounds 5
  all_goals (go_ret; exact ⟨ret_int (by unfold sizeV; repeat' split <;> omega), rfl⟩)


def likeV (low high : Int) : Int := if high < 1000 then 4 else if low < 1000 then 3 else if low < 1500 then 2 else 1
def extentV (u a : Int) : Int := if 3 * u ≥ 2 * a then 3 else if 3 * u ≥ a then 2 else 1
def dangerV (l e s : Int) : Int := if 2 * l + 2 * e + s ≤ 7 then 1 else if 2 * l + 2 * e + s ≤ 9 then 2 else if 2 * l + 2 * e + s ≤ 12 then 3 else if 2 * l + 2 * e + s ≤ 16 then 4 else 5

theorem likelihoodOf_c (low high : Int) (w : World) :
    Calls Try.prog 40 #[.int .i64 low, .int .i64 high] w fun e w' => e = .returned (.int .i64 (likeV low high)) ∧ w = w' := by
  go_enter Try.func40, Try.ntmps40
  go_wp2
  all_goals (go_ret; exact ⟨ret_int (by unfold likeV; repeat' split <;> omega), rfl⟩)
theorem extentOf_c (u a : Int) (w : World) (h1 : 0 ≤ u) (h2 : u ≤ 1000000) (h3 : 0 ≤ a) (h4 : a ≤ 1000000) :
    Calls Try.prog 42 #[.int .i64 u, .int .i64 a] w fun e w' => e = .returned (.int .i64 (extentV u a)) ∧ w = w' := by
  go_enter Try.func42, Try.ntmps42
  go_wp2
  all_goals (go_ret; exact ⟨ret_int (by unfold extentV; repeat' split <;> omega), rfl⟩)
theorem dangerLevel_c (l e s : Int) (w : World) (h1 : 0 ≤ l) (h2 : l ≤ 1000) (h3 : 0 ≤ e) (h4 : e ≤ 1000) (h5 : 0 ≤ s) (h6 : s ≤ 1000) :
    Calls Try.prog 39 #[.int .i64 l, .int .i64 e, .int .i64 s] w fun en w' => en = .returned (.int .i64 (dangerV l e s)) ∧ w = w' := by
  have i0 : ∀ w : World, (Instr.index 67 (.agg #[.int .i64 7, .int .i64 9, .int .i64 12, .int .i64 16]) (.int .i64 0)).run Try.prog w = .ok (.int .i64 7) w := fun _ => by kernel_rfl
  have i1 : ∀ w : World, (Instr.index 67 (.agg #[.int .i64 7, .int .i64 9, .int .i64 12, .int .i64 16]) (.int .i64 1)).run Try.prog w = .ok (.int .i64 9) w := fun _ => by kernel_rfl
  have i2 : ∀ w : World, (Instr.index 67 (.agg #[.int .i64 7, .int .i64 9, .int .i64 12, .int .i64 16]) (.int .i64 2)).run Try.prog w = .ok (.int .i64 12) w := fun _ => by kernel_rfl
  have i3 : ∀ w : World, (Instr.index 67 (.agg #[.int .i64 7, .int .i64 9, .int .i64 12, .int .i64 16]) (.int .i64 3)).run Try.prog w = .ok (.int .i64 16) w := fun _ => by kernel_rfl
  go_enter Try.func39, Try.ntmps39
  go_wp2
  go_rounds 5
  all_goals (go_ret; exact ⟨ret_int (by unfold dangerV; repeat' split <;> omega), rfl⟩)
theorem levelOk_c (n : Int) (w : World) :
    Calls Try.prog 35 #[.int .i64 n] w fun e w' => e = .returned (.bool (inB n 1 5)) ∧ w = w' := by
  go_enter Try.func35, Try.ntmps35
  go_wp2_with (go_at_call 38; refine (within_c _ _ _ _).mono ?_; rintro e w' ⟨rfl, rfl⟩)
  go_ret
  exact ⟨rfl, rfl⟩
theorem l17Is_c (n : Int) (w : World) :
    Calls Try.prog 34 #[.int .i64 n] w fun e w' => e = .returned (.bool (inB n 1 5)) ∧ w = w' := by
  go_enter Try.func34, Try.ntmps34
  go_wp2_with (go_at_call 51; refine (l00In_c _ _ _ _).mono ?_; rintro e w' ⟨rfl, rfl⟩)
  go_ret
  exact ⟨rfl, rfl⟩

end Go.Proofs.Ytbienjiinokhoaa
