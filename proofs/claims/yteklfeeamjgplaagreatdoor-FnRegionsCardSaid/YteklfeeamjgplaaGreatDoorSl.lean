/- Contracts of generic library functions over slices of int64 with closures, and of allWithin. -/
import Derived.Test.YteklfeeamjgplaaGreatDoorMio
import Derived.Test.YteklfeeamjgplaaGreatDoorTa
import Derived.Shelf.Abstract
namespace Go.Proofs.YteklfeeamjgplaaGreatDoor
open Go.ChangeShapes Go.WideShapes Go.ChangeAt Go.RowKit
set_option linter.unusedVariables false

/-- the first index from k on at which p holds, or -1 -/
def idxFrom {α : Type} (p : α → Bool) (k : Nat) : List α → Int
  | [] => -1
  | z :: r => if p z then (k : Int) else idxFrom p (k + 1) r
def idxOf {α : Type} (p : α → Bool) (l : List α) : Int := idxFrom p 0 l
theorem idxFrom_append {α : Type} (p : α → Bool) (k : Nat) (l r : List α) (h : l.all (fun z => !p z) = true) : idxFrom p k (l ++ r) = idxFrom p (k + l.length) r := by
  induction l generalizing k with
  | nil => simp
  | cons z l ih =>
    simp only [List.all_cons, Bool.and_eq_true, Bool.not_eq_true'] at h
    simp only [List.cons_append, idxFrom, h.1, Bool.false_eq_true, if_false]
    rw [ih (k + 1) h.2, List.length_cons]
    congr 1; omega
theorem idxFrom_none {α : Type} (p : α → Bool) (k : Nat) (l : List α) (h : l.all (fun z => !p z) = true) : idxFrom p k l = -1 := by
  have := idxFrom_append p k l [] h
  simpa [idxFrom] using this
theorem idxFrom_at {α : Type} (p : α → Bool) (l r : List α) (z : α) (h : l.all (fun z => !p z) = true) (hp : p z = true) : idxOf p (l ++ z :: r) = l.length := by
  unfold idxOf
  rw [idxFrom_append p 0 l _ h]
  simp [idxFrom, hp]
theorem idxFrom_bd {α : Type} (p : α → Bool) (k : Nat) (l : List α) : -1 ≤ idxFrom p k l ∧ idxFrom p k l < (k : Int) + l.length ∧ (0 ≤ idxFrom p k l ↔ l.any p = true) := by
  induction l generalizing k with
  | nil => simp [idxFrom]; omega
  | cons z l ih =>
    simp only [idxFrom]
    by_cases hp : p z = true
    · simp [hp]; omega
    · have := ih (k + 1)
      simp only [hp, Bool.false_eq_true, if_false, List.any_cons, Bool.false_or, List.length_cons]
      refine ⟨this.1, ?_, this.2.2⟩
      have := this.2.1
      simp at this ⊢
      omega
theorem drop_cons_get {α : Type} {l : List α} {k : Nat} {z : α} (h : l[k]? = some z) : l = l.take k ++ z :: l.drop (k + 1) := by
  obtain ⟨hk, rfl⟩ := List.getElem?_eq_some_iff.1 h
  rw [← List.drop_eq_getElem_cons hk, List.take_append_drop]
theorem take_snoc' {α : Type} {zs : List α} {k : Nat} {z : α} (h : zs[k]? = some z) : zs.take (k + 1) = zs.take k ++ [z] := by
  rw [List.take_add_one, h]; rfl

/-- A closure's contract: in every world in which all that lay in w still lies, it answers p and turns nothing that is there. -/
def ClosI (g : Nat) (lb : Array Value) (p : Int → Bool) (w : World) : Prop :=
  Enters Tryz.prog g ∧ ∀ (z : Int) (W : World), Below w.heap.size w W → Calls Tryz.prog g (#[.int .i64 z] ++ lb) W fun e W' => e = .returned (.bool (p z)) ∧ Below W.heap.size W W'




end Go.Proofs.YteklfeeamjgplaaGreatDoor
