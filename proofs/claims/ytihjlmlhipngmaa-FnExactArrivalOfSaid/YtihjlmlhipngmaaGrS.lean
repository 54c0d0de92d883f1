/- The steepest step of a cell, by the program. -/
import Derived.Test.YtihjlmlhipngmaaGrR
namespace Go.Proofs.Ytihjlmlhipngmaa
open Go.ChangeShapes Go.WideShapes Go.ChangeAt Go.RowKit
set_option linter.unusedVariables false

def bestV : Option Stp → Stp
  | none => ⟨0, 0, 0⟩
  | some x => x
theorem bestV_none : bestV none = ⟨0, 0, 0⟩ := rfl
theorem next_cell {g : Gr} {cell : Nat} {x : Stp} {j : Nat} (hb : GrOk g) (h : (nextTo g cell 8)[j]? = some x) : ∃ t : Nat, x.cell = t ∧ t < g.hs.length := by
  obtain ⟨a, _, h2, h3⟩ := nextTo_mem (List.mem_of_getElem? h)
  rcases goV_cases (cell := (cell : Int)) (a := a) hb with ⟨h4, _⟩ | ⟨_, h5, h6⟩
  · rw [h4] at h2; cases h2
  · refine ⟨(goV g cell a).toNat, ?_, by omega⟩
    rw [h3]; simp only [stpV]; omega
def set3 (w : World) (b : Nat) (u0 u1 u2 : Value) : World := ((w.setCell ⟨b, 0, none⟩ u0).setCell ⟨b, 1, none⟩ u1).setCell ⟨b, 2, none⟩ u2
theorem set3_blk {w : World} {b : Nat} {T : TypeId} {a0 a1 a2 : Value} (h : Blk w b T #[a0, a1, a2]) (u0 u1 u2 : Value) : Blk (set3 w b u0 u1 u2) b T #[u0, u1, u2] := by
  have h1 := ((h.set_ 0 u0).set_ 1 u1).set_ 2 u2
  simpa [set3] using h1
theorem set3_below {w0 w : World} {lo b : Nat} (h : Below lo w0 w) (hb : lo ≤ b) (u0 u1 u2 : Value) : Below lo w0 (set3 w b u0 u1 u2) :=
  ((h.setCell (p := ⟨b, 0, none⟩) hb u0).setCell (p := ⟨b, 1, none⟩) hb u1).setCell (p := ⟨b, 2, none⟩) hb u2
theorem set3_far {w : World} {b b' : Nat} {T : TypeId} {cs : Array Value} (h : Blk w b' T cs) (hb : b' ≠ b) (u0 u1 u2 : Value) : Blk (set3 w b u0 u1 u2) b' T cs :=
  ((h.far (p := ⟨b, 0, none⟩) hb u0).far (p := ⟨b, 1, none⟩) hb u1).far (p := ⟨b, 2, none⟩) hb u2
theorem set3_size (w : World) (b : Nat) (u0 u1 u2 : Value) : (set3 w b u0 u1 u2).heap.size = w.heap.size := by simp [set3]
theorem set3_own {w : World} {lo hi s n b : Nat} {T : TypeId} {v : Value} {xs : List Value} (h : Own w lo hi T s v n xs) (hb : b < lo) (u0 u1 u2 : Value) : Own (set3 w b u0 u1 u2) lo hi T s v n xs :=
  ((h.setOut (p := ⟨b, 0, none⟩) hb u0).setOut (p := ⟨b, 1, none⟩) hb u1).setOut (p := ⟨b, 2, none⟩) hb u2
end Go.Proofs.Ytihjlmlhipngmaa
