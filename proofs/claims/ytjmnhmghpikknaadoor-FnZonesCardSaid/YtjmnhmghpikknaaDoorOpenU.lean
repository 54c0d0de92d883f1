/- Opening an argument that is a slice of bytes. -/
import Derived.Test.YtjmnhmghpikknaaDoorOpen
import Derived.Test.YtjmnhmghpikknaaDoorSrc
namespace Go.Proofs.YtjmnhmghpikknaaDoor
open Go.ChangeShapes Go.WideShapes Go.ChangeAt Go.RowKit
set_option linter.unusedVariables false
theorem cells_u8 : Tryd.prog.cellsOf 5 = 1 := by kernel_rfl
section
variable {H : Type} {enc : TypeId × Value → H} {w : World} {base : Nat} {spare : Nat → Bool} {held : Bool}
set_option maxRecDepth 1000000 in
theorem open_u8s {v : Value} {d : DataW H} {p : List MemPlace} {r : Reach} {b0 : Nat} (hv : Value.okWide Tryd.prog w r b0 22 v) (h : DataW.Trod enc Tryd.prog w base spare held 22 v d p) :
    ∃ A n c zs, v = .slice A n c ∧ Bytes w w.heap.size A n zs ∧ n ≤ c ∧ c ≤ maxLen ∧ n ≤ 9223372036854775807 := by
  obtain ⟨a0, len, cap, rfl⟩ := okWide_slice Tryd.underlying22 hv
  obtain ⟨fuel, hf⟩ := h
  rcases open_ints Tryd.underlying22 Tryd.underlying5 cells_u8 hf with ⟨hcs, _⟩ | ⟨x, l, c, zs, hcs, _, hl, hm, hz, _, hcell, hwz⟩
  · simp [Value.cells] at hcs
    obtain ⟨rfl, rfl, rfl⟩ := hcs
    exact ⟨none, 0, 0, [], rfl, ⟨Reads.none_, by simp⟩, Nat.le_refl _, by simp [maxLen], by omega⟩
  · simp [Value.cells] at hcs
    obtain ⟨rfl, rfl, rfl⟩ := hcs
    have hzl : len ≤ zs.length := by rw [hz]; split <;> omega
    refine ⟨some x, len, cap, zs.take len, rfl, ⟨⟨by simp [u8s]; omega, fun hn => ⟨x, rfl, ?_, fun j u hu => ?_⟩⟩, fun z hzm => ?_⟩, hl, hm, by unfold maxLen at hm; omega⟩
    · have := World.block_lt_of_cell? _ _ (hcell 0 (by omega))
      rwa [block_of_add] at this
    · obtain ⟨z, hzj, rfl⟩ := u8s_get hu
      have hj : j < len := by
        have := (List.getElem?_eq_some_iff.1 hzj).1
        simp at this; omega
      rw [hcell j (by omega)]
      rw [List.getElem?_take, if_pos hj] at hzj
      simp [hzj]
    · have := hwz z (List.mem_of_mem_take hzm)
      have h1 : IntKind.u8.min = 0 := by rfl
      have h2 : IntKind.u8.max = 255 := by rfl
      simp [Lit.wf] at this
      omega
end
end Go.Proofs.YtjmnhmghpikknaaDoor
