/- Sentences: the text of one, by the reference; SentenceText of both. -/
import Derived.Test.YthbnliepgjjbdaaGreatDoorSnG
import Derived.Test.YthbnliepgjjbdaaGreatDoorSnRP
import Derived.Test.YthbnliepgjjbdaaGreatDoorSen2
import Derived.Test.YthbnliepgjjbdaaGreatDoorTc
namespace Go.Proofs.YthbnliepgjjbdaaGreatDoor
open Go.ChangeShapes Go.WideShapes Go.ChangeAt Go.RowKit
set_option linter.unusedVariables false
theorem str_add (a b : List UInt8) : (⟨a.toArray⟩ : ByteArray) ++ ⟨b.toArray⟩ = ⟨(a ++ b).toArray⟩ := by
  apply ByteArray.ext
  simp [ByteArray.data_append]
def sentV (s : Sen) (n : Int) : ByteArray × Int := if s.ok = false then (⟨#[]⟩, 1) else if inB n 1 4 = false then (⟨#[]⟩, 2) else (⟨(s.text n.toNat).toArray⟩, 0)
theorem inB_lang {n : Int} (h : inB n 1 4 = true) : ∃ l : Nat, n = l ∧ 1 ≤ l ∧ l ≤ 4 := by
  unfold inB at h
  simp at h
  exact ⟨n.toNat, by omega, by omega, by omega⟩
end Go.Proofs.YthbnliepgjjbdaaGreatDoor
