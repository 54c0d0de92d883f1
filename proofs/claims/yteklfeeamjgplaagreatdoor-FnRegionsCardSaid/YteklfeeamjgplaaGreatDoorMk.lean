/- Marks: texts that tell places apart; lists of texts marked and held. -/
import Derived.Test.YteklfeeamjgplaaGreatDoorRgX
import Derived.Laws.BytesArg
namespace Go.Proofs.YteklfeeamjgplaaGreatDoor
open Go.ChangeShapes Go.WideShapes Go.ChangeAt Go.RowKit
set_option linter.unusedVariables false
def mloop : Nat → Nat → ByteArray → ByteArray
  | 0, _, s => s
  | f + 1, k, s => if k = 0 then s else mloop f (k / 10) (strOfNums [48 + (k : Int) % 10] ++ s)
theorem mloop_zero (f : Nat) (s : ByteArray) : mloop f 0 s = s := by cases f <;> simp [mloop]
def mtxN (k : Nat) : ByteArray := ⟨#[109]⟩ ++ mloop k k ⟨#[]⟩
def mtx (k : Int) : ByteArray := mtxN k.toNat
def mts (k : Int) (n : Nat) : List ByteArray := (marks k n).map mtx
theorem marks_succ' (k : Int) (m : Nat) : marks k (m + 1) = marks k m ++ [k + m] := by
  induction m generalizing k with
  | zero => simp [marks]
  | succ m ih =>
    rw [marks, ih (k + 1), marks]
    simp; omega
theorem mts_len (k : Int) (n : Nat) : (mts k n).length = n := by simp [mts, marks_length]
theorem mts_get (k : Int) (n j : Nat) (h : j < n) : (mts k n)[j]? = some (mtx (k + j)) := by
  unfold mts
  rw [List.getElem?_map, marks_get k n j h]; rfl
end Go.Proofs.YteklfeeamjgplaaGreatDoor
