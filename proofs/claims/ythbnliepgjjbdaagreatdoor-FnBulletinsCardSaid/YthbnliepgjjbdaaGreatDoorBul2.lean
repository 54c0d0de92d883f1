/- FnExactValidBulletin. -/
import Derived.Test.YthbnliepgjjbdaaGreatDoorBul
import Derived.Test.YthbnliepgjjbdaaGreatDoorOpenS
namespace Go.Proofs.YthbnliepgjjbdaaGreatDoor
open Go.ChangeShapes Go.WideShapes Go.ChangeAt Go.RowKit
set_option linter.unusedVariables false
theorem sValidBulletin_c (A : Option Addr) (n c BA : Nat) (ss : List Sen) (w : World) (ha : Reads w BA 3 A n (sens ss)) (hA : BA ≤ w.heap.size) (hn : n ≤ 1152921504606846976) :
    Calls Tryz.prog 9 #[.slice A n c] w fun e w' => e = .returned (.bool (bulB ss)) ∧ Below w.heap.size w w' := by
  have hc := l19List_c A n c BA ss w ha hA hn
  clear ha
  go_enter Tryz.func9, Tryz.ntmps9
  go_wp2_with fail
  refine hc.mono ?_
  rintro e w1 ⟨rfl, hb⟩
  clear hc
  go_wp2
  go_ret
  exact ⟨rfl, hb⟩


end Go.Proofs.YthbnliepgjjbdaaGreatDoor
