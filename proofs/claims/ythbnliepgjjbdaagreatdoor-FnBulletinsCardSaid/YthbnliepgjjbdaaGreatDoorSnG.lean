/- Sentences: the parts of a kind, by the reference. -/
import Derived.Test.YthbnliepgjjbdaaGreatDoorSnCF
namespace Go.Proofs.YthbnliepgjjbdaaGreatDoor
open Go.ChangeShapes Go.WideShapes Go.ChangeAt Go.RowKit
set_option linter.unusedVariables false
def partsB (k l : Nat) : List ByteArray :=
  if k = 0 then [] else if k = 4 then [⟨(partT k l).1.toArray⟩, ⟨(partT k l).2.1.toArray⟩, ⟨(partT k l).2.2.toArray⟩] else [⟨(partT k l).1.toArray⟩, ⟨(partT k l).2.1.toArray⟩]
/-- a table of the parts of all kinds -/
def PartsAt (l : Nat) (W : World) (g : Nat) : Prop :=
  g < W.heap.size ∧ ∀ k, 1 ≤ k → k ≤ 7 → ∃ g', W.cell? ⟨g, k, none⟩ = some (.slice (some ⟨g', 0, none⟩) (partsB k l).length (partsB k l).length) ∧ Blk W g' 9 (strs (partsB k l)).toArray
theorem PartsAt.below {l : Nat} {W W' : World} {g B : Nat} (h : PartsAt l W g) (hb : Below B W W') (hB : W.heap.size ≤ B) : PartsAt l W' g :=
  ⟨Nat.lt_of_lt_of_le h.1 hb.size, fun k h1 h7 => by
    obtain ⟨g', hc, hk⟩ := h.2 k h1 h7
    exact ⟨g', (hb.cell (Nat.lt_of_lt_of_le h.1 hB)).trans hc, hk.below hb (Nat.lt_of_lt_of_le hk.lt hB)⟩⟩
theorem parts_at {l : Nat} {w0 w W : World} (h0 : Below w0.heap.size w0 w) (os : List Obj) (hW : W = alls w os) (a0 a1 a2 a3 a4 a5 a6 a7 a8 : Array Value) (t1 t2 : TypeId)
    (ho : os = [.cells a0 t1, .cells a1 t1, .cells a2 t1, .cells a3 t1, .cells a4 t1, .cells a5 t1, .cells a6 t1, .cells a7 t1, .cells a8 t2]) (ht : t1 = 9)
    (h1 : a1 = (strs (partsB 1 l)).toArray) (h2 : a2 = (strs (partsB 2 l)).toArray) (h3 : a3 = (strs (partsB 3 l)).toArray) (h4 : a4 = (strs (partsB 4 l)).toArray)
    (h5 : a5 = (strs (partsB 5 l)).toArray) (h6 : a6 = (strs (partsB 6 l)).toArray) (h7 : a7 = (strs (partsB 7 l)).toArray)
    (h8 : a8 = #[.slice (some ⟨w.heap.size, 0, none⟩) 0 0, .slice (some ⟨w.heap.size + 1, 0, none⟩) 2 2, .slice (some ⟨w.heap.size + 1 + 1, 0, none⟩) 2 2, .slice (some ⟨w.heap.size + 1 + 1 + 1, 0, none⟩) 2 2,
      .slice (some ⟨w.heap.size + 1 + 1 + 1 + 1, 0, none⟩) 3 3, .slice (some ⟨w.heap.size + 1 + 1 + 1 + 1 + 1, 0, none⟩) 2 2, .slice (some ⟨w.heap.size + 1 + 1 + 1 + 1 + 1 + 1, 0, none⟩) 2 2, .slice (some ⟨w.heap.size + 1 + 1 + 1 + 1 + 1 + 1 + 1, 0, none⟩) 2 2]) :
    (∃ g : Nat, Value.slice (some ⟨w.heap.size + 1 + 1 + 1 + 1 + 1 + 1 + 1 + 1, 0, none⟩) 8 8 = .slice (some ⟨g, 0, none⟩) 8 8 ∧ Hid (PartsAt l W g) ∧ Hid (Below w0.heap.size w0 W)) := by
  suffices h : PartsAt l W (w.heap.size + 8) ∧ Below w.heap.size w W from ⟨_, rfl, Lib.hid h.1, Lib.hid (h0.trans (h.2.mono h0.size))⟩
  clear h0
  obtain ⟨hs, hb, hat⟩ := alls_at os w
  rw [← hW] at hs hb hat
  subst ho ht
  have b : ∀ i cs t, ([.cells a0 9, .cells a1 9, .cells a2 9, .cells a3 9, .cells a4 9, .cells a5 9, .cells a6 9, .cells a7 9, .cells a8 t2] : List Obj)[i]? = some (.cells cs t) → Blk W (w.heap.size + i) t cs := fun i cs t h => hat i _ h
  have k8 := b 8 a8 t2 rfl
  refine ⟨⟨by rw [hs]; simp, fun k k1 k7 => ?_⟩, hb⟩
  have hk7 : k = 1 ∨ k = 2 ∨ k = 3 ∨ k = 4 ∨ k = 5 ∨ k = 6 ∨ k = 7 := by omega
  rcases hk7 with rfl | rfl | rfl | rfl | rfl | rfl | rfl
  · exact ⟨_, (k8.cell 1).trans (by rw [h8]; rfl), by rw [← h1]; exact b 1 a1 _ rfl⟩
  · exact ⟨_, (k8.cell 2).trans (by rw [h8]; rfl), by rw [← h2]; exact b 2 a2 _ rfl⟩
  · exact ⟨_, (k8.cell 3).trans (by rw [h8]; rfl), by rw [← h3]; exact b 3 a3 _ rfl⟩
  · exact ⟨_, (k8.cell 4).trans (by rw [h8]; rfl), by rw [← h4]; exact b 4 a4 _ rfl⟩
  · exact ⟨_, (k8.cell 5).trans (by rw [h8]; rfl), by rw [← h5]; exact b 5 a5 _ rfl⟩
  · exact ⟨_, (k8.cell 6).trans (by rw [h8]; rfl), by rw [← h6]; exact b 6 a6 _ rfl⟩
  · exact ⟨_, (k8.cell 7).trans (by rw [h8]; rfl), by rw [← h7]; exact b 7 a7 _ rfl⟩
theorem parts_done {k l n : Nat} {w W : World} {g : Nat} (hb : Blk W g 9 (strs (partsB k l)).toArray) (hn : (partsB k l).length = n) (hB : Below w.heap.size w W) : RowPost (partsB k l) w (.returned (.slice (some ⟨g, 0, none⟩) n n)) W := by
  subst hn
  exact ⟨_, _, rfl, reads_blk hb rfl, hB⟩
end Go.Proofs.YthbnliepgjjbdaaGreatDoor
