/- ChangeOf, LevelName, LanguageName. -/
import Derived.Test.YthbnliepgjjbdaaGreatDoorTb
namespace Go.Proofs.YthbnliepgjjbdaaGreatDoor
open Go.ChangeShapes Go.WideShapes Go.ChangeAt Go.RowKit

def cmpV (a b : Int) : Int := if a < b then -1 else if a > b then 1 else 0
def changeOfV (a b : Int) : Int × Int := if inB a 1 5 && inB b 1 5 then (cmpV b a, 0) else (0, 2)
theorem isNaN64_c (a : Int) (w : World) :
    Calls Tryz.prog 48 #[.int .i64 a] w fun e w' => e = .returned (.bool false) ∧ w = w' := by
  go_enter Tryz.func48, Tryz.ntmps48
  go_wp2
  all_goals (go_ret; exact ⟨by simp, rfl⟩)
theorem cmp64_c (a b : Int) (w : World) :
    Calls Tryz.prog 30 #[.int .i64 a, .int .i64 b] w fun e w' => e = .returned (.int .i64 (cmpV a b)) ∧ w = w' := by
  go_enter Tryz.func30, Tryz.ntmps30
  go_wp2_with (first | (go_at_call 48; refine (isNaN64_c _ _).mono ?_; rintro e w' ⟨rfl, rfl⟩))
  all_goals (go_ret; exact ⟨ret_int (by unfold cmpV; repeat' split <;> omega), rfl⟩)

theorem iChangeOf_c (a b : Int) (w : World) :
    Calls Tryz.prog 16 #[.int .i64 a, .int .i64 b] w fun e w' => e = .returned (.tuple #[.int .i64 (changeOfV a b).1, .int .i64 (changeOfV a b).2]) ∧ w = w' := by
  cases hb0 : inB a 1 5
  all_goals cases hb1 : inB b 1 5
  all_goals
    have hv : -1 ≤ cmpV b a ∧ cmpV b a ≤ 1 := by unfold cmpV; repeat' split <;> omega
    obtain ⟨hv1, hv2⟩ := hv
    go_enter Tryz.func16, Tryz.ntmps16
    go_wp2_with (first | (go_at_call 29; refine (levelOk_c _ _).mono ?_; rintro e w' ⟨rfl, rfl⟩) | (go_at_call 30; refine (cmp64_c _ _ _).mono ?_; rintro e w' ⟨rfl, rfl⟩))
    all_goals (go_ret2; exact ⟨by simp [changeOfV, hb0, hb1], rfl⟩)
theorem sChangeOf_c (a b : Int) (w : World) :
    Calls Tryz.prog 11 #[.int .i64 a, .int .i64 b] w fun e w' => e = .returned (.tuple #[.int .i64 (changeOfV a b).1, .int .i64 (changeOfV a b).2]) ∧ w = w' := by
  cases hb0 : inB a 1 5
  all_goals cases hb1 : inB b 1 5
  all_goals
    go_enter Tryz.func11, Tryz.ntmps11
    go_wp2_with (first | (go_at_call 20; refine (l17Is_c _ _).mono ?_; rintro e w' ⟨rfl, rfl⟩))
    all_goals (go_ret2; refine ⟨ret2 (show _ = (changeOfV a b).1 from ?_) (by simp [changeOfV, hb0, hb1]), rfl⟩)
    all_goals simp [changeOfV, hb0, hb1, cmpV]
    all_goals (repeat' split <;> omega)

theorem languageOk_c (n : Int) (w : World) :
    Calls Tryz.prog 23 #[.int .i64 n] w fun e w' => e = .returned (.bool (inB n 1 4)) ∧ w = w' := by
  go_enter Tryz.func23, Tryz.ntmps23
  go_wp2_with (go_at_call 17; refine (within_c _ _ _ _).mono ?_; rintro e w' ⟨rfl, rfl⟩)
  go_ret
  exact ⟨rfl, rfl⟩
def langV (n : Int) : ByteArray := if n = 1 then ⟨#[69, 110, 103, 108, 105, 115, 104]⟩ else if n = 2 then ⟨#[71, 101, 114, 109, 97, 110]⟩ else if n = 3 then ⟨#[70, 114, 101, 110, 99, 104]⟩ else if n = 4 then ⟨#[73, 116, 97, 108, 105, 97, 110]⟩ else ⟨#[]⟩
def levelNameV (n : Int) : ByteArray := if n = 1 then ⟨#[108, 111, 119]⟩ else if n = 2 then ⟨#[109, 111, 100, 101, 114, 97, 116, 101]⟩ else if n = 3 then ⟨#[99, 111, 110, 115, 105, 100, 101, 114, 97, 98, 108, 101]⟩ else if n = 4 then ⟨#[104, 105, 103, 104]⟩ else if n = 5 then ⟨#[118, 101, 114, 121, 45, 104, 105, 103, 104]⟩ else ⟨#[]⟩
theorem inB_nb {n low high : Int} (h : inB n low high = false) : n < low ∨ high < n := by simp [inB] at h; omega
end Go.Proofs.YthbnliepgjjbdaaGreatDoor
