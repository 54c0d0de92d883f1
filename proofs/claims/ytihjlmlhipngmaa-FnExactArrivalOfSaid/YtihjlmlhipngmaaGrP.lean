/- Lists of steps; the direction to a cell (l09Way), the steepest direction (l09Steepest), by the reference. -/
import Derived.Test.YtihjlmlhipngmaaGrO
import Derived.Test.YtihjlmlhipngmaaStpS
namespace Go.Proofs.Ytihjlmlhipngmaa
open Go.ChangeShapes Go.WideShapes Go.ChangeAt Go.RowKit
set_option linter.unusedVariables false

def stpV (g : Gr) (cell : Int) (a : Nat) : Stp := ⟨goV g cell a, a, fallV g cell (goV g cell a) a⟩
/-- the steps to the cells next to a cell, of the first k directions -/
def nextTo (g : Gr) (cell : Int) : Nat → List Stp
  | 0 => []
  | k + 1 => nextTo g cell k ++ (if goB g cell k then [stpV g cell k] else [])
theorem nextTo_t {g : Gr} {cell : Int} {k : Nat} (h : goB g cell k = true) : nextTo g cell (k + 1) = nextTo g cell k ++ [stpV g cell k] := by rw [nextTo, if_pos h]
theorem nextTo_f {g : Gr} {cell : Int} {k : Nat} (h : goB g cell k = false) : nextTo g cell (k + 1) = nextTo g cell k := by rw [nextTo, if_neg (by simp [h])]; simp
theorem nextTo_mem {g : Gr} {cell : Int} : ∀ {k : Nat} {x : Stp}, x ∈ nextTo g cell k → ∃ a, a < k ∧ goB g cell a = true ∧ x = stpV g cell a
  | 0, x, h => by simp [nextTo] at h
  | k + 1, x, h => by
    rw [nextTo, List.mem_append] at h
    rcases h with h | h
    · obtain ⟨a, h1, h2, h3⟩ := nextTo_mem h
      exact ⟨a, by omega, h2, h3⟩
    · cases hb : goB g cell k
      · rw [hb] at h; simp at h
      · rw [hb] at h; simp at h; exact ⟨k, by omega, hb, h⟩
theorem nextTo_len (g : Gr) (cell : Int) : ∀ k : Nat, (nextTo g cell k).length ≤ k
  | 0 => by simp [nextTo]
  | k + 1 => by
    have := nextTo_len g cell k
    rw [nextTo, List.length_append]
    split <;> simp <;> omega
/-- the steepest step down, the first one of several -/
def beats : Option Stp → Stp → Bool
  | none, _ => true
  | some y, x => decide (y.slope < x.slope)
def bestS (g : Gr) (cell : Int) (best : Option Stp) (x : Stp) : Option Stp :=
  if hAt g x.cell < hAt g cell ∧ beats best x = true then some x else best
def bestL (g : Gr) (cell : Int) (l : List Stp) : Option Stp := l.foldl (bestS g cell) none
theorem bestL_snoc (g : Gr) (cell : Int) (l : List Stp) (x : Stp) : bestL g cell (l ++ [x]) = bestS g cell (bestL g cell l) x := by simp [bestL, List.foldl_append]
theorem bestF_mem {g : Gr} {cell : Int} : ∀ (l : List Stp) (b : Option Stp) {x : Stp}, l.foldl (bestS g cell) b = some x → (x ∈ l ∧ hAt g x.cell < hAt g cell) ∨ b = some x
  | [], b, x, h => .inr h
  | y :: l, b, x, h => by
    rcases bestF_mem l (bestS g cell b y) h with h1 | h1
    · exact .inl ⟨List.mem_cons_of_mem _ h1.1, h1.2⟩
    · unfold bestS at h1
      split at h1
      · rename_i hc
        injection h1 with h1
        subst h1
        exact .inl ⟨List.mem_cons_self .., hc.1⟩
      · exact .inr h1
theorem bestL_mem {g : Gr} {cell : Int} {l : List Stp} {x : Stp} (h : bestL g cell l = some x) : x ∈ l ∧ hAt g x.cell < hAt g cell := by
  rcases bestF_mem l none h with h1 | h1
  · exact h1
  · cases h1
def encD : Option Stp → Int
  | none => -1
  | some x => x.dir
def encS : Option Stp → Int
  | none => 0
  | some x => x.slope

end Go.Proofs.Ytihjlmlhipngmaa
