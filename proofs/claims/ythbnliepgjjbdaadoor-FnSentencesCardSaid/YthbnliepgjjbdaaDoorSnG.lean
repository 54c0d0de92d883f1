/- Sentences: the parts of a kind, by the reference. -/
import Derived.Test.YthbnliepgjjbdaaDoorSnE
namespace Go.Proofs.YthbnliepgjjbdaaDoor
open Go.ChangeShapes Go.WideShapes Go.ChangeAt Go.RowKit
set_option linter.unusedVariables false
def partsB (k l : Nat) : List ByteArray :=
  if k = 0 then [] else if k = 4 then [⟨(partT k l).1.toArray⟩, ⟨(partT k l).2.1.toArray⟩, ⟨(partT k l).2.2.toArray⟩] else [⟨(partT k l).1.toArray⟩, ⟨(partT k l).2.1.toArray⟩]
/-- a table of the parts of all kinds -/
def PartsAt (l : Nat) (W : World) (g : Nat) : Prop :=
  g < W.heap.size ∧ ∀ k, 1 ≤ k → k ≤ 7 → ∃ g', W.cell? ⟨g, k, none⟩ = some (.slice (some ⟨g', 0, none⟩) (partsB k l).length (partsB k l).length) ∧ Blk W g' 9 (strs (partsB k l)).toArray
theorem PartsAt.below {l : Nat} {W W' : World} {g B : Nat} (h : PartsAt l W g) (hb : Below B W W') (hB : W.heap.size ≤ B) : PartsAt l W' g :=
  ⟨Nat.lt_of_lt_of_le h.1 hb.size, fun k h1 h7 => by
    obtain ⟨g', hc, hk⟩ := h.2 k h1 h7
    exact ⟨g', (hb.cell (Nat.lt_of_lt_of_le h.1 hB)).trans hc, hk.below hb (Nat.lt_of_lt_of_le hk.lt hB)⟩⟩
theorem parts_at {l : Nat} {w0 w W : World} (h0 : Below w0.heap.size w0 w) (os : List Obj) (hW : W = alls w os) (a0 a1 a2 a3 a4 a5 a6 a7 a8 : Array Value) (t1 t2 : TypeId)
    (ho : os = [.cells a0 t1, .cells a1 t1, .cells a2 t1, .cells a3 t1, .cells a4 t1, .cells a5 t1, .cells a6 t1, .cells a7 t1, .cells a8 t2]) (ht : t1 = 9)
    (h1 : a1 = (strs (partsB 1 l)).toArray) (h2 : a2 = (strs (partsB 2 l)).toArray) (h3 : a3 = (strs (partsB 3 l)).toArray) (h4 : a4 = (strs (partsB 4 l)).toArray)
    (h5 : a5 = (strs (partsB 5 l)).toArray) (h6 : a6 = (strs (partsB 6 l)).toArray) (h7 : a7 = (strs (partsB 7 l)).toArray)
    (h8 : a8 = #[.slice (some ⟨w.heap.size, 0, none⟩) 0 0, .slice (some ⟨w.heap.size + 1, 0, none⟩) 2 2, .slice (some ⟨w.heap.size + 1 + 1, 0, none⟩) 2 2, .slice (some ⟨w.heap.size + 1 + 1 + 1, 0, none⟩) 2 2,
      .slice (some ⟨w.heap.size + 1 + 1 + 1 + 1, 0, none⟩) 3 3, .slice (some ⟨w.heap.size + 1 + 1 + 1 + 1 + 1, 0, none⟩) 2 2, .slice (some ⟨w.heap.size + 1 + 1 + 1 + 1 + 1 + 1, 0, none⟩) 2 2, .slice (some ⟨w.heap.size + 1 + 1 + 1 + 1 + 1 + 1 + 1, 0, none⟩) 2 2]) :
    (∃ g : Nat, Value.slice (some ⟨w.heap.size + 1 + 1 + 1 + 1 + 1 + 1 + 1 + 1, 0, none⟩) 8 8 = .slice (some ⟨g, 0, none⟩) 8 8 ∧ Hid (PartsAt l W g) ∧ Hid (Below w0.heap.size w0 W)) := by
  suffices h : PartsAt l W (w.heap.size + 8) ∧ Below w.heap.size w W from ⟨_, rfl, Lib.hid h.1, Lib.hid (h0.trans (h.2.mono h0.size))⟩
  clear h0
  obtain ⟨hs, hb, hat⟩ := alls_at os w
  rw [← hW] at hs hb hat
  subst ho ht
  have b : ∀ i cs t, ([.cells a0 9, .cells a1 9, .cells a2 9, .cells a3 9, .cells a4 9, .cells a5 9, .cells a6 9, .cells a7 9, .cells a8 t2] : List Obj)[i]? = some (.cells cs t) → Blk W (w.heap.size + i) t cs := fun i cs t h => hat i _ h
  have k8 := b 8 a8 t2 rfl
  refine ⟨⟨by rw [hs]; simp, fun k k1 k7 => ?_⟩, hb⟩
  have hk7 : k = 1 ∨ k = 2 ∨ k = 3 ∨ k = 4 ∨ k = 5 ∨ k = 6 ∨ k = 7 := by omega
  rcases hk7 with rfl | rfl | rfl | rfl | rfl | rfl | rfl
  · exact ⟨_, (k8.cell 1).trans (by rw [h8]; rfl), by rw [← h1]; exact b 1 a1 _ rfl⟩
  · exact ⟨_, (k8.cell 2).trans (by rw [h8]; rfl), by rw [← h2]; exact b 2 a2 _ rfl⟩
  · exact ⟨_, (k8.cell 3).trans (by rw [h8]; rfl), by rw [← h3]; exact b 3 a3 _ rfl⟩
  · exact ⟨_, (k8.cell 4).trans (by rw [h8]; rfl), by rw [← h4]; exact b 4 a4 _ rfl⟩
  · exact ⟨_, (k8.cell 5).trans (by rw [h8]; rfl), by rw [← h5]; exact b 5 a5 _ rfl⟩
  · exact ⟨_, (k8.cell 6).trans (by rw [h8]; rfl), by rw [← h6]; exact b 6 a6 _ rfl⟩
  · exact ⟨_, (k8.cell 7).trans (by rw [h8]; rfl), by rw [← h7]; exact b 7 a7 _ rfl⟩
theorem parts_done {k l n : Nat} {w W : World} {g : Nat} (hb : Blk W g 9 (strs (partsB k l)).toArray) (hn : (partsB k l).length = n) (hB : Below w.heap.size w W) : RowPost (partsB k l) w (.returned (.slice (some ⟨g, 0, none⟩) n n)) W := by
  subst hn
  exact ⟨_, _, rfl, reads_blk hb rfl, hB⟩
set_option maxHeartbeats 800000 in
set_option maxRecDepth 100000 in
theorem l19Parts_c (k l : Nat) (hk : 1 ≤ k ∧ k ≤ 7) (hl : 1 ≤ l ∧ l ≤ 4) (w : World) : Calls Tryd.prog 55 #[.int .i64 k, .int .i64 l] w fun e w' => ∃ g, e = .returned (.slice (some ⟨g, 0, none⟩) (partsB k l).length (partsB k l).length) ∧ Blk w' g 9 (strs (partsB k l)).toArray ∧ Below w.heap.size w w' := by
  go_enter Tryd.func55, Tryd.ntmps55
  go_upto_region 1 with (fail)
  go_cut [5] (fun p wx => ∃ g : Nat, p = .slice (some ⟨g, 0, none⟩) 8 8 ∧ Hid (PartsAt 1 wx g) ∧ Hid (Below w.heap.size w wx))
  case first =>
    go_wp2_with fail
    go_meet
    refine parts_at (l := 1) (Below.refl _ _) _ rfl _ _ _ _ _ _ _ _ _ _ _ rfl rfl ?_ ?_ ?_ ?_ ?_ ?_ ?_ ?_
    all_goals kernel_rfl
  case rest =>
  obtain ⟨g1, rfl, H1, HB1⟩ := hcut
  rename World => w1
  go_upto_region 2 with (fail)
  go_cut [6] (fun p wx => ∃ g : Nat, p = .slice (some ⟨g, 0, none⟩) 8 8 ∧ Hid (PartsAt 2 wx g) ∧ Hid (Below w1.heap.size w1 wx))
  case first =>
    go_wp2_with fail
    go_meet
    refine parts_at (l := 2) (Below.refl _ _) _ rfl _ _ _ _ _ _ _ _ _ _ _ rfl rfl ?_ ?_ ?_ ?_ ?_ ?_ ?_ ?_
    all_goals kernel_rfl
  case rest =>
  obtain ⟨g2, rfl, H2, HB2⟩ := hcut
  rename World => w2
  go_upto_region 3 with (fail)
  go_cut [7] (fun p wx => ∃ g : Nat, p = .slice (some ⟨g, 0, none⟩) 8 8 ∧ Hid (PartsAt 3 wx g) ∧ Hid (Below w2.heap.size w2 wx))
  case first =>
    go_wp2_with fail
    go_meet
    refine parts_at (l := 3) (Below.refl _ _) _ rfl _ _ _ _ _ _ _ _ _ _ _ rfl rfl ?_ ?_ ?_ ?_ ?_ ?_ ?_ ?_
    all_goals kernel_rfl
  case rest =>
  obtain ⟨g3, rfl, H3, HB3⟩ := hcut
  rename World => w3
  go_upto_region 4 with (fail)
  go_cut [8] (fun p wx => ∃ g : Nat, p = .slice (some ⟨g, 0, none⟩) 8 8 ∧ Hid (PartsAt 4 wx g) ∧ Hid (Below w3.heap.size w3 wx))
  case first =>
    go_wp2_with fail
    go_meet
    refine parts_at (l := 4) (Below.refl _ _) _ rfl _ _ _ _ _ _ _ _ _ _ _ rfl rfl ?_ ?_ ?_ ?_ ?_ ?_ ?_ ?_
    all_goals kernel_rfl
  case rest =>
  obtain ⟨g4, rfl, H4, HB4⟩ := hcut
  rename World => w4
  have hs1 := HB1.out.size
  have hs2 := HB2.out.size
  have hs3 := HB3.out.size
  have B34 : Below w3.heap.size w3 w4 := HB4.out
  have B24 : Below w2.heap.size w2 w4 := HB3.out.trans (B34.mono hs3)
  have B14 : Below w1.heap.size w1 w4 := HB2.out.trans (B24.mono hs2)
  have HB := Lib.hid (HB1.out.trans (B14.mono hs1))
  have hkn : (k : Int) < 8 := by omega
  have hk0 : (0 : Int) ≤ (k : Int) := by omega
  have P1 := (H1.out.below B14 (Nat.le_refl _)).2 k hk.1 hk.2
  have P2 := (H2.out.below B24 (Nat.le_refl _)).2 k hk.1 hk.2
  have P3 := (H3.out.below B34 (Nat.le_refl _)).2 k hk.1 hk.2
  have P4 := H4.out.2 k hk.1 hk.2
  have hl4 : l = 1 ∨ l = 2 ∨ l = 3 ∨ l = 4 := by omega
  clear B34 B24 B14 H1 H2 H3 H4 HB1 HB2 HB3 HB4 hs1 hs2 hs3 hk hl
  rcases hl4 with rfl | rfl | rfl | rfl
  · obtain ⟨g', hc, hb⟩ := P1
    have HBK := Lib.hid hb
    clear hb P2 P3 P4
    go_wp2
    go_ret
    exact ⟨g', rfl, HBK.out, HB.out⟩
  · obtain ⟨g', hc, hb⟩ := P2
    have HBK := Lib.hid hb
    clear hb P1 P3 P4
    go_wp2
    go_ret
    exact ⟨g', rfl, HBK.out, HB.out⟩
  · obtain ⟨g', hc, hb⟩ := P3
    have HBK := Lib.hid hb
    clear hb P1 P2 P4
    go_wp2
    go_ret
    exact ⟨g', rfl, HBK.out, HB.out⟩
  · obtain ⟨g', hc, hb⟩ := P4
    have HBK := Lib.hid hb
    clear hb P1 P2 P3
    go_wp2
    go_ret
    exact ⟨g', rfl, HBK.out, HB.out⟩
end Go.Proofs.YthbnliepgjjbdaaDoor
