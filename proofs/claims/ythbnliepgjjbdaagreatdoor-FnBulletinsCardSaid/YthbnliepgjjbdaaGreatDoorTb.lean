/- The danger chapter's exact laws over plain integers. -/
import Derived.Test.YthbnliepgjjbdaaGreatDoorTa
namespace Go.Proofs.YthbnliepgjjbdaaGreatDoor
open Go.ChangeShapes Go.WideShapes Go.ChangeAt Go.RowKit


def sizeOfV (t : Int) : Int × Int := if inB t 0 1000000 then (sizeV t, 0) else (0, 2)


def dangerLevelV (l e s : Int) : Int × Int := if inB l 1 4 && inB e 1 3 && inB s 1 5 then (dangerV l e s, 0) else (0, 2)
def extentOfV (u a : Int) : Int × Int := if inB a 1 64 && inB u 0 a then (extentV u a, 0) else (0, 2)
def likelihoodOfV (l h : Int) : Int × Int := if inB l 0 1000000 && inB h l 1000000 then (likeV l h, 0) else (0, 2)
theorem inB_b {n low high : Int} (h : inB n low high = true) : low ≤ n ∧ n ≤ high := by simpa [inB] using h


end Go.Proofs.YthbnliepgjjbdaaGreatDoor
