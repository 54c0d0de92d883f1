/- ChangeOf, LevelName, LanguageName. -/
import Derived.Test.YthbnliepgjjbdaaDoorTb
namespace Go.Proofs.YthbnliepgjjbdaaDoor
open Go.ChangeShapes Go.WideShapes Go.ChangeAt Go.RowKit

def cmpV (a b : Int) : Int := if a < b then -1 else if a > b then 1 else 0
def changeOfV (a b : Int) : Int × Int := if inB a 1 5 && inB b 1 5 then (cmpV b a, 0) else (0, 2)


theorem languageOk_c (n : Int) (w : World) :
    Calls Tryd.prog 38 #[.int .i64 n] w fun e w' => e = .returned (.bool (inB n 1 4)) ∧ w = w' := by
  go_enter Tryd.func38, Tryd.ntmps38
  go_wp2_with (go_at_call 47; refine (within_c _ _ _ _).mono ?_; rintro e w' ⟨rfl, rfl⟩)
  go_ret
  exact ⟨rfl, rfl⟩
theorem l19Language_c (n : Int) (w : World) :
    Calls Tryd.prog 35 #[.int .i64 n] w fun e w' => e = .returned (.bool (inB n 1 4)) ∧ w = w' := by
  go_enter Tryd.func35, Tryd.ntmps35
  go_wp2_with (go_at_call 54; refine (l00In_c _ _ _ _).mono ?_; rintro e w' ⟨rfl, rfl⟩)
  go_ret
  exact ⟨rfl, rfl⟩
def langV (n : Int) : ByteArray := if n = 1 then ⟨#[69, 110, 103, 108, 105, 115, 104]⟩ else if n = 2 then ⟨#[71, 101, 114, 109, 97, 110]⟩ else if n = 3 then ⟨#[70, 114, 101, 110, 99, 104]⟩ else if n = 4 then ⟨#[73, 116, 97, 108, 105, 97, 110]⟩ else ⟨#[]⟩
def levelNameV (n : Int) : ByteArray := if n = 1 then ⟨#[108, 111, 119]⟩ else if n = 2 then ⟨#[109, 111, 100, 101, 114, 97, 116, 101]⟩ else if n = 3 then ⟨#[99, 111, 110, 115, 105, 100, 101, 114, 97, 98, 108, 101]⟩ else if n = 4 then ⟨#[104, 105, 103, 104]⟩ else if n = 5 then ⟨#[118, 101, 114, 121, 45, 104, 105, 103, 104]⟩ else ⟨#[]⟩
theorem inB_nb {n low high : Int} (h : inB n low high = false) : n < low ∨ high < n := by simp [inB] at h; omega
end Go.Proofs.YthbnliepgjjbdaaDoor
