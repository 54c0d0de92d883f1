/- The reference's l18Groups. -/
import Derived.Test.YteklfeeamjgplaaGreatDoorJnC
namespace Go.Proofs.YteklfeeamjgplaaGreatDoor
open Go.ChangeShapes Go.WideShapes Go.ChangeAt Go.RowKit
set_option linter.unusedVariables false
def lvs (ds : List Dat) : List Int := ds.map (·.2.1)
theorem lvs_get {ds : List Dat} {k : Nat} (h : k < ds.length) : (lvs ds)[k]? = some (dLv ds k) := by
  unfold lvs dLv
  rw [List.getElem?_map, List.getElem?_eq_getElem h]; rfl
theorem ins_len (n : Int) : ∀ l : List Int, (ins n l).length ≤ l.length + 1
  | [] => by simp [ins]
  | x :: l => by
    have ih := ins_len n l
    rw [ins]
    split
    · split <;> simp
    · simp; omega
theorem foldPut_len : ∀ (q a : List Int), (q.foldl putV a).length ≤ a.length + q.length
  | [], a => by simp
  | x :: q, a => by
    have h1 := foldPut_len q (putV a x)
    have h2 := ins_len x a
    rw [← putV_ins] at h2
    simp only [List.foldl_cons, List.length_cons]; omega
theorem sortV_len (q : List Int) : (sortV q).length ≤ q.length := by have := foldPut_len q []; simpa [sortV] using this
def bNb (ds : List Dat) (x : Nat) (s : List Bool × List Nat) (k : Nat) : List Bool × List Nat := (nbs ds x k).foldl (bStep ds x) s
theorem bNb_zero (ds : List Dat) (x : Nat) (s : List Bool × List Nat) : bNb ds x s 0 = s := rfl
theorem bNb_yes {ds : List Dat} {x k : Nat} (s : List Bool × List Nat) (h : isNb ds x k = true) : bNb ds x s (k + 1) = bStep ds x (bNb ds x s k) k := by
  unfold bNb; rw [nbs_succ, if_pos h]; simp
theorem bNb_no {ds : List Dat} {x k : Nat} (s : List Bool × List Nat) (h : isNb ds x k = false) : bNb ds x s (k + 1) = bNb ds x s k := by
  unfold bNb; rw [nbs_succ, if_neg (by rw [h]; simp)]
theorem bStep_take (ds : List Dat) (x : Nat) (s : List Bool × List Nat) (k m : Nat) (h : m ≤ s.2.length) : (bStep ds x s k).2.take m = s.2.take m := by
  unfold bStep
  split
  · show (s.2 ++ [k]).take m = _
    rw [List.take_append_of_le_length h]
  · rfl
theorem fold_take (ds : List Dat) (x : Nat) {m : Nat} : ∀ (l : List Nat) (s : List Bool × List Nat), m ≤ s.2.length → (l.foldl (bStep ds x) s).2.take m = s.2.take m
  | [], s, _ => rfl
  | k :: l, s, h => by
    rw [List.foldl_cons, fold_take ds x l _ (Nat.le_trans h (bStep_len ds x s k)), bStep_take ds x s k m h]
end Go.Proofs.YteklfeeamjgplaaGreatDoor
