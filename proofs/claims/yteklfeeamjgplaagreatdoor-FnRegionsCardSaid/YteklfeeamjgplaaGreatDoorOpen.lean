/- Opening the arguments of a law: what a reading says of memory, in this seat's words. -/
import Derived.Test.YteklfeeamjgplaaGreatDoorMio
import Derived.ChangeOld
import Derived.Carry
import Derived.Lib.SmallJoins
namespace Go.Proofs.YteklfeeamjgplaaGreatDoor
open Go.ChangeShapes Go.WideShapes Go.ChangeAt Go.RowKit
set_option linter.unusedVariables false

set_option maxRecDepth 1000000 in
theorem laidOut : laidOutB Tryz.prog = true := by kernel_rfl
theorem ownKnobNone : ownKnob Tryz.prog.godebug = none := by kernel_rfl

theorem cells_i64 : Tryz.prog.cellsOf 2 = 1 := by kernel_rfl

section
variable {H : Type} {enc : TypeId × Value → H} {w : World} {base : Nat} {spare : Nat → Bool} {held : Bool}
set_option maxRecDepth 1000000 in
theorem open_i64s {v : Value} {d : DataW H} {p : List MemPlace} {r : Reach} {b0 : Nat} (hv : Value.okWide Tryz.prog w r b0 31 v) (h : DataW.Trod enc Tryz.prog w base spare held 31 v d p) :
    ∃ A n c zs, v = .slice A n c ∧ Reads w w.heap.size 1 A n (ints zs) ∧ n ≤ c ∧ c ≤ maxLen ∧ (∀ z ∈ zs, (Lit.int .i64 z).wf = true) := by
  obtain ⟨a0, len, cap, rfl⟩ := okWide_slice Tryz.underlying31 hv
  obtain ⟨fuel, hf⟩ := h
  rcases open_ints Tryz.underlying31 Tryz.underlying2 cells_i64 hf with ⟨hcs, _⟩ | ⟨x, l, c, zs, hcs, _, hl, hm, hz, _, hcell, hwz⟩
  · simp [Value.cells] at hcs
    obtain ⟨rfl, rfl, rfl⟩ := hcs
    exact ⟨none, 0, 0, [], rfl, Reads.none_, Nat.le_refl _, by simp [maxLen], by simp⟩
  · simp [Value.cells] at hcs
    obtain ⟨rfl, rfl, rfl⟩ := hcs
    have hzl : len ≤ zs.length := by rw [hz]; split <;> omega
    refine ⟨some x, len, cap, zs.take len, rfl, ⟨by simp [ints]; omega, fun hn => ⟨x, rfl, ?_, fun j u hu => ?_⟩⟩, hl, hm, fun z hzm => hwz z (List.mem_of_mem_take hzm)⟩
    · have := World.block_lt_of_cell? _ _ (hcell 0 (by omega))
      rwa [block_of_add] at this
    · obtain ⟨z, hzj, rfl⟩ := ints_get hu
      have hj : j < len := by
        have := (List.getElem?_eq_some_iff.1 hzj).1
        simp at this; omega
      rw [hcell j (by omega)]
      rw [List.getElem?_take, if_pos hj] at hzj
      simp [hzj]
end
end Go.Proofs.YteklfeeamjgplaaGreatDoor
