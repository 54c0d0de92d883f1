/- Drawn bulletins (printed by wip/tools/mk_sda.py). -/
import Derived.Test.YthbnliepgjjbdaaGreatDoorSnV
import Derived.Test.YthbnliepgjjbdaaGreatDoorSnY
import Derived.Test.YthbnliepgjjbdaaGreatDoorSrcs
namespace Go.Proofs.YthbnliepgjjbdaaGreatDoor
open Go.ChangeShapes Go.WideShapes Go.ChangeAt Go.RowKit
set_option linter.unusedVariables false
theorem one_c (g M : Nat) (n : Int) (w : World) (h : Src w g M) (hM : M ≤ 500000000000000000) (hn : n ≤ 1000000000000) :
    Calls Tryz.prog 33 #[.pointer (some ⟨g, 0, none⟩), .int .i64 n] w fun e w' => ∃ b : Bool, e = .returned (.bool b) ∧ Src w' g (M + 2) ∧ Only g (g + 1) w w' := by
  have HS := Lib.hid h; clear h
  go_enter Tryz.func33, Tryz.ntmps33
  go_wp2_with fail
  refine (pick_c g M n w HS.out (by omega) (by omega)).mono ?_
  rintro e w1 ⟨v, rfl, hv0, hv1, S1, Y1⟩
  have S1' := Lib.hid S1
  have Y1' := Lib.hid Y1
  clear S1 Y1 hv1
  go_wp2
  go_ret
  exact ⟨_, rfl, S1'.out, Y1'.out⟩
def DrawPost (g M : Nat) (k : Int) (w : World) (e : Ending) (w' : World) : Prop :=
  ∃ a b : Int, e = .returned (.agg #[.int .i64 k, .int .i64 a, .int .i64 b]) ∧ okS k a b = true ∧ Src w' g M ∧ Only g (g + 1) w w'
set_option maxHeartbeats 4000000 in
set_option maxRecDepth 100000 in
theorem l19DrawOne_c (g M k : Nat) (hk : 1 ≤ k ∧ k ≤ 7) (w : World) (h : Src w g M) (hM : M ≤ 400000000000000000) :
    Calls Tryz.prog 34 #[.pointer (some ⟨g, 0, none⟩), .int .i64 k] w (DrawPost g (M + 4) k w) := by
  have hg := h.lt
  have HS := Lib.hid h
  clear h
  have hk7 : k = 1 ∨ k = 2 ∨ k = 3 ∨ k = 4 ∨ k = 5 ∨ k = 6 ∨ k = 7 := by omega
  rcases hk7 with rfl | rfl | rfl | rfl | rfl | rfl | rfl
  · go_enter Tryz.func34, Tryz.ntmps34
    go_upto_region 5 with (fail)
    obtain ⟨w1, hw1⟩ : ∃ W, W = (w.alloc (.cells #[.int .i64 0, .int .i64 0, .int .i64 0] 38)).alloc (.cells #[.int .i64 1, .int .i64 0, .int .i64 0] 38) := ⟨_, rfl⟩
    have HR1 : Hid (Blk w1 w.heap.size 38 #[.int .i64 0, .int .i64 0, .int .i64 0]) := Lib.hid (by rw [hw1]; exact (Blk.new _ _ _).alloc _)
    have HX1 : Hid (Blk w1 (w.heap.size + 1) 38 #[.int .i64 1, .int .i64 0, .int .i64 0]) := Lib.hid (by rw [hw1]; have := Blk.new (w.alloc (.cells #[.int .i64 0, .int .i64 0, .int .i64 0] 38)) 38 #[.int .i64 1, .int .i64 0, .int .i64 0]; simpa using this)
    have S1 : Hid (Src w1 g M) := Lib.hid (by rw [hw1]; exact (HS.out.alloc _).alloc _)
    have Y1 : Hid (Only g (g + 1) w w1) := Lib.hid (by rw [hw1]; exact ((Only.refl g (g + 1) w).alloc' _).alloc' _)
    rw [← hw1]
    clear hw1
    go_wp2_with fail
    refine (pick_c g M 5 w1 S1.out (by omega) (by omega)).mono ?_
    rintro e w2 ⟨v, rfl, v0, v1, s2, y2⟩
    have hv : 0 ≤ v ∧ v < 5 := by omega
    have S2 := Lib.hid s2
    have Y2 := Lib.hid (Y1.out.trans y2)
    have HR2 := Lib.hid (HR1.out.only' y2 (.inr (by omega)))
    have HX2 := Lib.hid (HX1.out.only' y2 (.inr (by omega)))
    clear s2 y2 v1 S1 Y1 HR1 HX1
    have x1 : w2.cell? ⟨w.heap.size + 1, 1, none⟩ = some (.int .i64 0) := HX2.out.cell 1
    have xf1 := HX2.out.frozen 1
    have hwr : IntKind.i64.wrap (1 + v) = (1 + v) := IntWalk.i64_in _ (by omega)
    go_upto_region 15 with (fail)
    obtain ⟨w3, hw3⟩ : ∃ W, W = w2.setCell ⟨w.heap.size + 1, 1, none⟩ (.int .i64 (1 + v)) := ⟨_, rfl⟩
    have HX3 : Hid (Blk w3 (w.heap.size + 1) 38 #[.int .i64 1, .int .i64 (1 + v), .int .i64 0]) := Lib.hid (by rw [hw3]; exact HX2.out.set_ 1 _)
    have HR3 : Hid (Blk w3 w.heap.size 38 #[.int .i64 0, .int .i64 0, .int .i64 0]) := Lib.hid (by rw [hw3]; exact HR2.out.far (by show w.heap.size ≠ w.heap.size + 1; omega) _)
    have S3 : Hid (Src w3 g (M + 2)) := Lib.hid (by rw [hw3]; exact S2.out.set (by show g < w.heap.size + 1; omega) _)
    have Y3 : Hid (Only g (g + 1) w w3) := Lib.hid (by rw [hw3]; exact Y2.out.setNew (by show w.heap.size ≤ w.heap.size + 1; omega) _)
    rw [← hw3]
    clear hw3 S2 Y2 HR2 HX2 x1 xf1
    have c0 : w3.cell? ⟨w.heap.size + 1, 0, none⟩ = some (.int .i64 1) := HX3.out.cell 0
    have c1 : w3.cell? ⟨w.heap.size + 1, 1, none⟩ = some (.int .i64 (1 + v)) := HX3.out.cell 1
    have c2 : w3.cell? ⟨w.heap.size + 1, 2, none⟩ = some (.int .i64 0) := HX3.out.cell 2
    have r0 : w3.cell? ⟨w.heap.size, 0, none⟩ = some (.int .i64 0) := HR3.out.cell 0
    have f0 := HR3.out.frozen 0
    have r1 : w3.cell? ⟨w.heap.size, 1, none⟩ = some (.int .i64 0) := HR3.out.cell 1
    have f1 := HR3.out.frozen 1
    have r2 : w3.cell? ⟨w.heap.size, 2, none⟩ = some (.int .i64 0) := HR3.out.cell 2
    have f2 := HR3.out.frozen 2
    have hk3 := ((HR3.out.set_ 0 (.int .i64 1)).set_ 1 (.int .i64 (1 + v))).set_ 2 (.int .i64 0)
    have q0 := hk3.cell 0
    have q1 := hk3.cell 1
    have q2 := hk3.cell 2
    simp at q0 q1 q2
    have HQ0 := Lib.hid q0
    have HQ1 := Lib.hid q1
    have HQ2 := Lib.hid q2
    clear hk3 q0 q1 q2
    go_wp2
    refine bodyPost_ret (v := .agg #[.int .i64 1, .int .i64 (1 + v), .int .i64 0]) (by have q0 := HQ0.out; have q1 := HQ1.out; have q2 := HQ2.out; simp [results, Tryz.results34, go_sem, q0, q1, q2]) rfl ?_
    refine ⟨(1 + v), 0, rfl, by simp [okS, inB]; omega, ?_, ?_⟩
    · exact (((S3.out.set (p := ⟨w.heap.size, 0, none⟩) hg _).set (p := ⟨w.heap.size, 1, none⟩) hg _).set (p := ⟨w.heap.size, 2, none⟩) hg _).more (by omega)
    · exact ((Y3.out.setNew (p := ⟨w.heap.size, 0, none⟩) (Nat.le_refl _) _).setNew (p := ⟨w.heap.size, 1, none⟩) (Nat.le_refl _) _).setNew (p := ⟨w.heap.size, 2, none⟩) (Nat.le_refl _) _
  · go_enter Tryz.func34, Tryz.ntmps34
    go_upto_region 7 with (fail)
    obtain ⟨w1, hw1⟩ : ∃ W, W = (w.alloc (.cells #[.int .i64 0, .int .i64 0, .int .i64 0] 38)).alloc (.cells #[.int .i64 2, .int .i64 0, .int .i64 0] 38) := ⟨_, rfl⟩
    have HR1 : Hid (Blk w1 w.heap.size 38 #[.int .i64 0, .int .i64 0, .int .i64 0]) := Lib.hid (by rw [hw1]; exact (Blk.new _ _ _).alloc _)
    have HX1 : Hid (Blk w1 (w.heap.size + 1) 38 #[.int .i64 2, .int .i64 0, .int .i64 0]) := Lib.hid (by rw [hw1]; have := Blk.new (w.alloc (.cells #[.int .i64 0, .int .i64 0, .int .i64 0] 38)) 38 #[.int .i64 2, .int .i64 0, .int .i64 0]; simpa using this)
    have S1 : Hid (Src w1 g M) := Lib.hid (by rw [hw1]; exact (HS.out.alloc _).alloc _)
    have Y1 : Hid (Only g (g + 1) w w1) := Lib.hid (by rw [hw1]; exact ((Only.refl g (g + 1) w).alloc' _).alloc' _)
    rw [← hw1]
    clear hw1
    go_wp2_with fail
    refine (pick_c g M 3 w1 S1.out (by omega) (by omega)).mono ?_
    rintro e w2 ⟨v, rfl, v0, v1, s2, y2⟩
    have hv : 0 ≤ v ∧ v < 3 := by omega
    have S2 := Lib.hid s2
    have Y2 := Lib.hid (Y1.out.trans y2)
    have HR2 := Lib.hid (HR1.out.only' y2 (.inr (by omega)))
    have HX2 := Lib.hid (HX1.out.only' y2 (.inr (by omega)))
    clear s2 y2 v1 S1 Y1 HR1 HX1
    have x1 : w2.cell? ⟨w.heap.size + 1, 1, none⟩ = some (.int .i64 0) := HX2.out.cell 1
    have xf1 := HX2.out.frozen 1
    have hwr : IntKind.i64.wrap (v - 1) = (v - 1) := IntWalk.i64_in _ (by omega)
    go_upto_region 15 with (fail)
    obtain ⟨w3, hw3⟩ : ∃ W, W = w2.setCell ⟨w.heap.size + 1, 1, none⟩ (.int .i64 (v - 1)) := ⟨_, rfl⟩
    have HX3 : Hid (Blk w3 (w.heap.size + 1) 38 #[.int .i64 2, .int .i64 (v - 1), .int .i64 0]) := Lib.hid (by rw [hw3]; exact HX2.out.set_ 1 _)
    have HR3 : Hid (Blk w3 w.heap.size 38 #[.int .i64 0, .int .i64 0, .int .i64 0]) := Lib.hid (by rw [hw3]; exact HR2.out.far (by show w.heap.size ≠ w.heap.size + 1; omega) _)
    have S3 : Hid (Src w3 g (M + 2)) := Lib.hid (by rw [hw3]; exact S2.out.set (by show g < w.heap.size + 1; omega) _)
    have Y3 : Hid (Only g (g + 1) w w3) := Lib.hid (by rw [hw3]; exact Y2.out.setNew (by show w.heap.size ≤ w.heap.size + 1; omega) _)
    rw [← hw3]
    clear hw3 S2 Y2 HR2 HX2 x1 xf1
    have c0 : w3.cell? ⟨w.heap.size + 1, 0, none⟩ = some (.int .i64 2) := HX3.out.cell 0
    have c1 : w3.cell? ⟨w.heap.size + 1, 1, none⟩ = some (.int .i64 (v - 1)) := HX3.out.cell 1
    have c2 : w3.cell? ⟨w.heap.size + 1, 2, none⟩ = some (.int .i64 0) := HX3.out.cell 2
    have r0 : w3.cell? ⟨w.heap.size, 0, none⟩ = some (.int .i64 0) := HR3.out.cell 0
    have f0 := HR3.out.frozen 0
    have r1 : w3.cell? ⟨w.heap.size, 1, none⟩ = some (.int .i64 0) := HR3.out.cell 1
    have f1 := HR3.out.frozen 1
    have r2 : w3.cell? ⟨w.heap.size, 2, none⟩ = some (.int .i64 0) := HR3.out.cell 2
    have f2 := HR3.out.frozen 2
    have hk3 := ((HR3.out.set_ 0 (.int .i64 2)).set_ 1 (.int .i64 (v - 1))).set_ 2 (.int .i64 0)
    have q0 := hk3.cell 0
    have q1 := hk3.cell 1
    have q2 := hk3.cell 2
    simp at q0 q1 q2
    have HQ0 := Lib.hid q0
    have HQ1 := Lib.hid q1
    have HQ2 := Lib.hid q2
    clear hk3 q0 q1 q2
    go_wp2
    refine bodyPost_ret (v := .agg #[.int .i64 2, .int .i64 (v - 1), .int .i64 0]) (by have q0 := HQ0.out; have q1 := HQ1.out; have q2 := HQ2.out; simp [results, Tryz.results34, go_sem, q0, q1, q2]) rfl ?_
    refine ⟨(v - 1), 0, rfl, by simp [okS, inB]; omega, ?_, ?_⟩
    · exact (((S3.out.set (p := ⟨w.heap.size, 0, none⟩) hg _).set (p := ⟨w.heap.size, 1, none⟩) hg _).set (p := ⟨w.heap.size, 2, none⟩) hg _).more (by omega)
    · exact ((Y3.out.setNew (p := ⟨w.heap.size, 0, none⟩) (Nat.le_refl _) _).setNew (p := ⟨w.heap.size, 1, none⟩) (Nat.le_refl _) _).setNew (p := ⟨w.heap.size, 2, none⟩) (Nat.le_refl _) _
  · go_enter Tryz.func34, Tryz.ntmps34
    go_upto_region 9 with (fail)
    obtain ⟨w1, hw1⟩ : ∃ W, W = (w.alloc (.cells #[.int .i64 0, .int .i64 0, .int .i64 0] 38)).alloc (.cells #[.int .i64 3, .int .i64 0, .int .i64 0] 38) := ⟨_, rfl⟩
    have HR1 : Hid (Blk w1 w.heap.size 38 #[.int .i64 0, .int .i64 0, .int .i64 0]) := Lib.hid (by rw [hw1]; exact (Blk.new _ _ _).alloc _)
    have HX1 : Hid (Blk w1 (w.heap.size + 1) 38 #[.int .i64 3, .int .i64 0, .int .i64 0]) := Lib.hid (by rw [hw1]; have := Blk.new (w.alloc (.cells #[.int .i64 0, .int .i64 0, .int .i64 0] 38)) 38 #[.int .i64 3, .int .i64 0, .int .i64 0]; simpa using this)
    have S1 : Hid (Src w1 g M) := Lib.hid (by rw [hw1]; exact (HS.out.alloc _).alloc _)
    have Y1 : Hid (Only g (g + 1) w w1) := Lib.hid (by rw [hw1]; exact ((Only.refl g (g + 1) w).alloc' _).alloc' _)
    rw [← hw1]
    clear hw1
    go_wp2_with fail
    refine (pick_c g M 51 w1 S1.out (by omega) (by omega)).mono ?_
    rintro e w2 ⟨v, rfl, v0, v1, s2, y2⟩
    have hv : 0 ≤ v ∧ v < 51 := by omega
    have S2 := Lib.hid s2
    have Y2 := Lib.hid (Y1.out.trans y2)
    have HR2 := Lib.hid (HR1.out.only' y2 (.inr (by omega)))
    have HX2 := Lib.hid (HX1.out.only' y2 (.inr (by omega)))
    clear s2 y2 v1 S1 Y1 HR1 HX1
    have x1 : w2.cell? ⟨w.heap.size + 1, 1, none⟩ = some (.int .i64 0) := HX2.out.cell 1
    have xf1 := HX2.out.frozen 1
    have hwr : IntKind.i64.wrap (100 * v) = (100 * v) := IntWalk.i64_in _ (by omega)
    go_upto_region 15 with (fail)
    obtain ⟨w3, hw3⟩ : ∃ W, W = w2.setCell ⟨w.heap.size + 1, 1, none⟩ (.int .i64 (100 * v)) := ⟨_, rfl⟩
    have HX3 : Hid (Blk w3 (w.heap.size + 1) 38 #[.int .i64 3, .int .i64 (100 * v), .int .i64 0]) := Lib.hid (by rw [hw3]; exact HX2.out.set_ 1 _)
    have HR3 : Hid (Blk w3 w.heap.size 38 #[.int .i64 0, .int .i64 0, .int .i64 0]) := Lib.hid (by rw [hw3]; exact HR2.out.far (by show w.heap.size ≠ w.heap.size + 1; omega) _)
    have S3 : Hid (Src w3 g (M + 2)) := Lib.hid (by rw [hw3]; exact S2.out.set (by show g < w.heap.size + 1; omega) _)
    have Y3 : Hid (Only g (g + 1) w w3) := Lib.hid (by rw [hw3]; exact Y2.out.setNew (by show w.heap.size ≤ w.heap.size + 1; omega) _)
    rw [← hw3]
    clear hw3 S2 Y2 HR2 HX2 x1 xf1
    have c0 : w3.cell? ⟨w.heap.size + 1, 0, none⟩ = some (.int .i64 3) := HX3.out.cell 0
    have c1 : w3.cell? ⟨w.heap.size + 1, 1, none⟩ = some (.int .i64 (100 * v)) := HX3.out.cell 1
    have c2 : w3.cell? ⟨w.heap.size + 1, 2, none⟩ = some (.int .i64 0) := HX3.out.cell 2
    have r0 : w3.cell? ⟨w.heap.size, 0, none⟩ = some (.int .i64 0) := HR3.out.cell 0
    have f0 := HR3.out.frozen 0
    have r1 : w3.cell? ⟨w.heap.size, 1, none⟩ = some (.int .i64 0) := HR3.out.cell 1
    have f1 := HR3.out.frozen 1
    have r2 : w3.cell? ⟨w.heap.size, 2, none⟩ = some (.int .i64 0) := HR3.out.cell 2
    have f2 := HR3.out.frozen 2
    have hk3 := ((HR3.out.set_ 0 (.int .i64 3)).set_ 1 (.int .i64 (100 * v))).set_ 2 (.int .i64 0)
    have q0 := hk3.cell 0
    have q1 := hk3.cell 1
    have q2 := hk3.cell 2
    simp at q0 q1 q2
    have HQ0 := Lib.hid q0
    have HQ1 := Lib.hid q1
    have HQ2 := Lib.hid q2
    clear hk3 q0 q1 q2
    go_wp2
    refine bodyPost_ret (v := .agg #[.int .i64 3, .int .i64 (100 * v), .int .i64 0]) (by have q0 := HQ0.out; have q1 := HQ1.out; have q2 := HQ2.out; simp [results, Tryz.results34, go_sem, q0, q1, q2]) rfl ?_
    refine ⟨(100 * v), 0, rfl, by simp [okS, inB]; omega, ?_, ?_⟩
    · exact (((S3.out.set (p := ⟨w.heap.size, 0, none⟩) hg _).set (p := ⟨w.heap.size, 1, none⟩) hg _).set (p := ⟨w.heap.size, 2, none⟩) hg _).more (by omega)
    · exact ((Y3.out.setNew (p := ⟨w.heap.size, 0, none⟩) (Nat.le_refl _) _).setNew (p := ⟨w.heap.size, 1, none⟩) (Nat.le_refl _) _).setNew (p := ⟨w.heap.size, 2, none⟩) (Nat.le_refl _) _
  · go_enter Tryz.func34, Tryz.ntmps34
    go_upto_region 11 with (fail)
    obtain ⟨w1, hw1⟩ : ∃ W, W = (w.alloc (.cells #[.int .i64 0, .int .i64 0, .int .i64 0] 38)).alloc (.cells #[.int .i64 4, .int .i64 0, .int .i64 0] 38) := ⟨_, rfl⟩
    have HR1 : Hid (Blk w1 w.heap.size 38 #[.int .i64 0, .int .i64 0, .int .i64 0]) := Lib.hid (by rw [hw1]; exact (Blk.new _ _ _).alloc _)
    have HX1 : Hid (Blk w1 (w.heap.size + 1) 38 #[.int .i64 4, .int .i64 0, .int .i64 0]) := Lib.hid (by rw [hw1]; have := Blk.new (w.alloc (.cells #[.int .i64 0, .int .i64 0, .int .i64 0] 38)) 38 #[.int .i64 4, .int .i64 0, .int .i64 0]; simpa using this)
    have S1 : Hid (Src w1 g M) := Lib.hid (by rw [hw1]; exact (HS.out.alloc _).alloc _)
    have Y1 : Hid (Only g (g + 1) w w1) := Lib.hid (by rw [hw1]; exact ((Only.refl g (g + 1) w).alloc' _).alloc' _)
    rw [← hw1]
    clear hw1
    go_wp2_with fail
    refine (pick_c g M 8 w1 S1.out (by omega) (by omega)).mono ?_
    rintro e w2 ⟨v, rfl, v0, v1, s2, y2⟩
    have hv : 0 ≤ v ∧ v < 8 := by omega
    have S2 := Lib.hid s2
    have Y2 := Lib.hid (Y1.out.trans y2)
    have HR2 := Lib.hid (HR1.out.only' y2 (.inr (by omega)))
    have HX2 := Lib.hid (HX1.out.only' y2 (.inr (by omega)))
    clear s2 y2 v1 S1 Y1 HR1 HX1
    have x1 : w2.cell? ⟨w.heap.size + 1, 1, none⟩ = some (.int .i64 0) := HX2.out.cell 1
    have xf1 := HX2.out.frozen 1
    go_upto_region 12 with (fail)
    obtain ⟨w3, hw3⟩ : ∃ W, W = w2.setCell ⟨w.heap.size + 1, 1, none⟩ (.int .i64 v) := ⟨_, rfl⟩
    have HX3 : Hid (Blk w3 (w.heap.size + 1) 38 #[.int .i64 4, .int .i64 v, .int .i64 0]) := Lib.hid (by rw [hw3]; exact HX2.out.set_ 1 _)
    have HR3 : Hid (Blk w3 w.heap.size 38 #[.int .i64 0, .int .i64 0, .int .i64 0]) := Lib.hid (by rw [hw3]; exact HR2.out.far (by show w.heap.size ≠ w.heap.size + 1; omega) _)
    have S3 : Hid (Src w3 g (M + 2)) := Lib.hid (by rw [hw3]; exact S2.out.set (by show g < w.heap.size + 1; omega) _)
    have Y3 : Hid (Only g (g + 1) w w3) := Lib.hid (by rw [hw3]; exact Y2.out.setNew (by show w.heap.size ≤ w.heap.size + 1; omega) _)
    rw [← hw3]
    clear hw3 S2 Y2 HR2 HX2 x1 xf1
    go_wp2_with fail
    refine (pick_c g (M + 2) 8 w3 S3.out (by omega) (by omega)).mono ?_
    rintro e w4 ⟨u, rfl, u0, u1, s2, y2⟩
    have hu : 0 ≤ u ∧ u < 8 := by omega
    have S4 := Lib.hid s2
    have Y4 := Lib.hid (Y3.out.trans y2)
    have HR4 := Lib.hid (HR3.out.only' y2 (.inr (by omega)))
    have HX4 := Lib.hid (HX3.out.only' y2 (.inr (by omega)))
    clear s2 y2 u1 S3 Y3 HR3 HX3
    have x1 : w4.cell? ⟨w.heap.size + 1, 2, none⟩ = some (.int .i64 0) := HX4.out.cell 2
    have xf1 := HX4.out.frozen 2
    go_upto_region 15 with (fail)
    obtain ⟨w5, hw5⟩ : ∃ W, W = w4.setCell ⟨w.heap.size + 1, 2, none⟩ (.int .i64 u) := ⟨_, rfl⟩
    have HX5 : Hid (Blk w5 (w.heap.size + 1) 38 #[.int .i64 4, .int .i64 v, .int .i64 u]) := Lib.hid (by rw [hw5]; exact HX4.out.set_ 2 _)
    have HR5 : Hid (Blk w5 w.heap.size 38 #[.int .i64 0, .int .i64 0, .int .i64 0]) := Lib.hid (by rw [hw5]; exact HR4.out.far (by show w.heap.size ≠ w.heap.size + 1; omega) _)
    have S5 : Hid (Src w5 g (M + 2 + 2)) := Lib.hid (by rw [hw5]; exact S4.out.set (by show g < w.heap.size + 1; omega) _)
    have Y5 : Hid (Only g (g + 1) w w5) := Lib.hid (by rw [hw5]; exact Y4.out.setNew (by show w.heap.size ≤ w.heap.size + 1; omega) _)
    rw [← hw5]
    clear hw5 S4 Y4 HR4 HX4 x1 xf1
    have c0 : w5.cell? ⟨w.heap.size + 1, 0, none⟩ = some (.int .i64 4) := HX5.out.cell 0
    have c1 : w5.cell? ⟨w.heap.size + 1, 1, none⟩ = some (.int .i64 v) := HX5.out.cell 1
    have c2 : w5.cell? ⟨w.heap.size + 1, 2, none⟩ = some (.int .i64 u) := HX5.out.cell 2
    have r0 : w5.cell? ⟨w.heap.size, 0, none⟩ = some (.int .i64 0) := HR5.out.cell 0
    have f0 := HR5.out.frozen 0
    have r1 : w5.cell? ⟨w.heap.size, 1, none⟩ = some (.int .i64 0) := HR5.out.cell 1
    have f1 := HR5.out.frozen 1
    have r2 : w5.cell? ⟨w.heap.size, 2, none⟩ = some (.int .i64 0) := HR5.out.cell 2
    have f2 := HR5.out.frozen 2
    have hk3 := ((HR5.out.set_ 0 (.int .i64 4)).set_ 1 (.int .i64 v)).set_ 2 (.int .i64 u)
    have q0 := hk3.cell 0
    have q1 := hk3.cell 1
    have q2 := hk3.cell 2
    simp at q0 q1 q2
    have HQ0 := Lib.hid q0
    have HQ1 := Lib.hid q1
    have HQ2 := Lib.hid q2
    clear hk3 q0 q1 q2
    go_wp2
    refine bodyPost_ret (v := .agg #[.int .i64 4, .int .i64 v, .int .i64 u]) (by have q0 := HQ0.out; have q1 := HQ1.out; have q2 := HQ2.out; simp [results, Tryz.results34, go_sem, q0, q1, q2]) rfl ?_
    refine ⟨v, u, rfl, by simp [okS, inB]; omega, ?_, ?_⟩
    · exact (((S5.out.set (p := ⟨w.heap.size, 0, none⟩) hg _).set (p := ⟨w.heap.size, 1, none⟩) hg _).set (p := ⟨w.heap.size, 2, none⟩) hg _).more (by omega)
    · exact ((Y5.out.setNew (p := ⟨w.heap.size, 0, none⟩) (Nat.le_refl _) _).setNew (p := ⟨w.heap.size, 1, none⟩) (Nat.le_refl _) _).setNew (p := ⟨w.heap.size, 2, none⟩) (Nat.le_refl _) _
  · go_enter Tryz.func34, Tryz.ntmps34
    go_upto_region 3 with (fail)
    obtain ⟨w1, hw1⟩ : ∃ W, W = (w.alloc (.cells #[.int .i64 0, .int .i64 0, .int .i64 0] 38)).alloc (.cells #[.int .i64 5, .int .i64 0, .int .i64 0] 38) := ⟨_, rfl⟩
    have HR1 : Hid (Blk w1 w.heap.size 38 #[.int .i64 0, .int .i64 0, .int .i64 0]) := Lib.hid (by rw [hw1]; exact (Blk.new _ _ _).alloc _)
    have HX1 : Hid (Blk w1 (w.heap.size + 1) 38 #[.int .i64 5, .int .i64 0, .int .i64 0]) := Lib.hid (by rw [hw1]; have := Blk.new (w.alloc (.cells #[.int .i64 0, .int .i64 0, .int .i64 0] 38)) 38 #[.int .i64 5, .int .i64 0, .int .i64 0]; simpa using this)
    have S1 : Hid (Src w1 g M) := Lib.hid (by rw [hw1]; exact (HS.out.alloc _).alloc _)
    have Y1 : Hid (Only g (g + 1) w w1) := Lib.hid (by rw [hw1]; exact ((Only.refl g (g + 1) w).alloc' _).alloc' _)
    rw [← hw1]
    clear hw1
    go_wp2_with fail
    refine (pick_c g M 500 w1 S1.out (by omega) (by omega)).mono ?_
    rintro e w2 ⟨v, rfl, v0, v1, s2, y2⟩
    have hv : 0 ≤ v ∧ v < 500 := by omega
    have S2 := Lib.hid s2
    have Y2 := Lib.hid (Y1.out.trans y2)
    have HR2 := Lib.hid (HR1.out.only' y2 (.inr (by omega)))
    have HX2 := Lib.hid (HX1.out.only' y2 (.inr (by omega)))
    clear s2 y2 v1 S1 Y1 HR1 HX1
    have x1 : w2.cell? ⟨w.heap.size + 1, 1, none⟩ = some (.int .i64 0) := HX2.out.cell 1
    have xf1 := HX2.out.frozen 1
    have hwr : IntKind.i64.wrap (1 + v) = (1 + v) := IntWalk.i64_in _ (by omega)
    go_upto_region 15 with (fail)
    obtain ⟨w3, hw3⟩ : ∃ W, W = w2.setCell ⟨w.heap.size + 1, 1, none⟩ (.int .i64 (1 + v)) := ⟨_, rfl⟩
    have HX3 : Hid (Blk w3 (w.heap.size + 1) 38 #[.int .i64 5, .int .i64 (1 + v), .int .i64 0]) := Lib.hid (by rw [hw3]; exact HX2.out.set_ 1 _)
    have HR3 : Hid (Blk w3 w.heap.size 38 #[.int .i64 0, .int .i64 0, .int .i64 0]) := Lib.hid (by rw [hw3]; exact HR2.out.far (by show w.heap.size ≠ w.heap.size + 1; omega) _)
    have S3 : Hid (Src w3 g (M + 2)) := Lib.hid (by rw [hw3]; exact S2.out.set (by show g < w.heap.size + 1; omega) _)
    have Y3 : Hid (Only g (g + 1) w w3) := Lib.hid (by rw [hw3]; exact Y2.out.setNew (by show w.heap.size ≤ w.heap.size + 1; omega) _)
    rw [← hw3]
    clear hw3 S2 Y2 HR2 HX2 x1 xf1
    have c0 : w3.cell? ⟨w.heap.size + 1, 0, none⟩ = some (.int .i64 5) := HX3.out.cell 0
    have c1 : w3.cell? ⟨w.heap.size + 1, 1, none⟩ = some (.int .i64 (1 + v)) := HX3.out.cell 1
    have c2 : w3.cell? ⟨w.heap.size + 1, 2, none⟩ = some (.int .i64 0) := HX3.out.cell 2
    have r0 : w3.cell? ⟨w.heap.size, 0, none⟩ = some (.int .i64 0) := HR3.out.cell 0
    have f0 := HR3.out.frozen 0
    have r1 : w3.cell? ⟨w.heap.size, 1, none⟩ = some (.int .i64 0) := HR3.out.cell 1
    have f1 := HR3.out.frozen 1
    have r2 : w3.cell? ⟨w.heap.size, 2, none⟩ = some (.int .i64 0) := HR3.out.cell 2
    have f2 := HR3.out.frozen 2
    have hk3 := ((HR3.out.set_ 0 (.int .i64 5)).set_ 1 (.int .i64 (1 + v))).set_ 2 (.int .i64 0)
    have q0 := hk3.cell 0
    have q1 := hk3.cell 1
    have q2 := hk3.cell 2
    simp at q0 q1 q2
    have HQ0 := Lib.hid q0
    have HQ1 := Lib.hid q1
    have HQ2 := Lib.hid q2
    clear hk3 q0 q1 q2
    go_wp2
    refine bodyPost_ret (v := .agg #[.int .i64 5, .int .i64 (1 + v), .int .i64 0]) (by have q0 := HQ0.out; have q1 := HQ1.out; have q2 := HQ2.out; simp [results, Tryz.results34, go_sem, q0, q1, q2]) rfl ?_
    refine ⟨(1 + v), 0, rfl, by simp [okS, inB]; omega, ?_, ?_⟩
    · exact (((S3.out.set (p := ⟨w.heap.size, 0, none⟩) hg _).set (p := ⟨w.heap.size, 1, none⟩) hg _).set (p := ⟨w.heap.size, 2, none⟩) hg _).more (by omega)
    · exact ((Y3.out.setNew (p := ⟨w.heap.size, 0, none⟩) (Nat.le_refl _) _).setNew (p := ⟨w.heap.size, 1, none⟩) (Nat.le_refl _) _).setNew (p := ⟨w.heap.size, 2, none⟩) (Nat.le_refl _) _
  · go_enter Tryz.func34, Tryz.ntmps34
    go_upto_region 3 with (fail)
    obtain ⟨w1, hw1⟩ : ∃ W, W = (w.alloc (.cells #[.int .i64 0, .int .i64 0, .int .i64 0] 38)).alloc (.cells #[.int .i64 6, .int .i64 0, .int .i64 0] 38) := ⟨_, rfl⟩
    have HR1 : Hid (Blk w1 w.heap.size 38 #[.int .i64 0, .int .i64 0, .int .i64 0]) := Lib.hid (by rw [hw1]; exact (Blk.new _ _ _).alloc _)
    have HX1 : Hid (Blk w1 (w.heap.size + 1) 38 #[.int .i64 6, .int .i64 0, .int .i64 0]) := Lib.hid (by rw [hw1]; have := Blk.new (w.alloc (.cells #[.int .i64 0, .int .i64 0, .int .i64 0] 38)) 38 #[.int .i64 6, .int .i64 0, .int .i64 0]; simpa using this)
    have S1 : Hid (Src w1 g M) := Lib.hid (by rw [hw1]; exact (HS.out.alloc _).alloc _)
    have Y1 : Hid (Only g (g + 1) w w1) := Lib.hid (by rw [hw1]; exact ((Only.refl g (g + 1) w).alloc' _).alloc' _)
    rw [← hw1]
    clear hw1
    go_wp2_with fail
    refine (pick_c g M 500 w1 S1.out (by omega) (by omega)).mono ?_
    rintro e w2 ⟨v, rfl, v0, v1, s2, y2⟩
    have hv : 0 ≤ v ∧ v < 500 := by omega
    have S2 := Lib.hid s2
    have Y2 := Lib.hid (Y1.out.trans y2)
    have HR2 := Lib.hid (HR1.out.only' y2 (.inr (by omega)))
    have HX2 := Lib.hid (HX1.out.only' y2 (.inr (by omega)))
    clear s2 y2 v1 S1 Y1 HR1 HX1
    have x1 : w2.cell? ⟨w.heap.size + 1, 1, none⟩ = some (.int .i64 0) := HX2.out.cell 1
    have xf1 := HX2.out.frozen 1
    have hwr : IntKind.i64.wrap (1 + v) = (1 + v) := IntWalk.i64_in _ (by omega)
    go_upto_region 15 with (fail)
    obtain ⟨w3, hw3⟩ : ∃ W, W = w2.setCell ⟨w.heap.size + 1, 1, none⟩ (.int .i64 (1 + v)) := ⟨_, rfl⟩
    have HX3 : Hid (Blk w3 (w.heap.size + 1) 38 #[.int .i64 6, .int .i64 (1 + v), .int .i64 0]) := Lib.hid (by rw [hw3]; exact HX2.out.set_ 1 _)
    have HR3 : Hid (Blk w3 w.heap.size 38 #[.int .i64 0, .int .i64 0, .int .i64 0]) := Lib.hid (by rw [hw3]; exact HR2.out.far (by show w.heap.size ≠ w.heap.size + 1; omega) _)
    have S3 : Hid (Src w3 g (M + 2)) := Lib.hid (by rw [hw3]; exact S2.out.set (by show g < w.heap.size + 1; omega) _)
    have Y3 : Hid (Only g (g + 1) w w3) := Lib.hid (by rw [hw3]; exact Y2.out.setNew (by show w.heap.size ≤ w.heap.size + 1; omega) _)
    rw [← hw3]
    clear hw3 S2 Y2 HR2 HX2 x1 xf1
    have c0 : w3.cell? ⟨w.heap.size + 1, 0, none⟩ = some (.int .i64 6) := HX3.out.cell 0
    have c1 : w3.cell? ⟨w.heap.size + 1, 1, none⟩ = some (.int .i64 (1 + v)) := HX3.out.cell 1
    have c2 : w3.cell? ⟨w.heap.size + 1, 2, none⟩ = some (.int .i64 0) := HX3.out.cell 2
    have r0 : w3.cell? ⟨w.heap.size, 0, none⟩ = some (.int .i64 0) := HR3.out.cell 0
    have f0 := HR3.out.frozen 0
    have r1 : w3.cell? ⟨w.heap.size, 1, none⟩ = some (.int .i64 0) := HR3.out.cell 1
    have f1 := HR3.out.frozen 1
    have r2 : w3.cell? ⟨w.heap.size, 2, none⟩ = some (.int .i64 0) := HR3.out.cell 2
    have f2 := HR3.out.frozen 2
    have hk3 := ((HR3.out.set_ 0 (.int .i64 6)).set_ 1 (.int .i64 (1 + v))).set_ 2 (.int .i64 0)
    have q0 := hk3.cell 0
    have q1 := hk3.cell 1
    have q2 := hk3.cell 2
    simp at q0 q1 q2
    have HQ0 := Lib.hid q0
    have HQ1 := Lib.hid q1
    have HQ2 := Lib.hid q2
    clear hk3 q0 q1 q2
    go_wp2
    refine bodyPost_ret (v := .agg #[.int .i64 6, .int .i64 (1 + v), .int .i64 0]) (by have q0 := HQ0.out; have q1 := HQ1.out; have q2 := HQ2.out; simp [results, Tryz.results34, go_sem, q0, q1, q2]) rfl ?_
    refine ⟨(1 + v), 0, rfl, by simp [okS, inB]; omega, ?_, ?_⟩
    · exact (((S3.out.set (p := ⟨w.heap.size, 0, none⟩) hg _).set (p := ⟨w.heap.size, 1, none⟩) hg _).set (p := ⟨w.heap.size, 2, none⟩) hg _).more (by omega)
    · exact ((Y3.out.setNew (p := ⟨w.heap.size, 0, none⟩) (Nat.le_refl _) _).setNew (p := ⟨w.heap.size, 1, none⟩) (Nat.le_refl _) _).setNew (p := ⟨w.heap.size, 2, none⟩) (Nat.le_refl _) _
  · go_enter Tryz.func34, Tryz.ntmps34
    go_upto_region 14 with (fail)
    obtain ⟨w1, hw1⟩ : ∃ W, W = (w.alloc (.cells #[.int .i64 0, .int .i64 0, .int .i64 0] 38)).alloc (.cells #[.int .i64 7, .int .i64 0, .int .i64 0] 38) := ⟨_, rfl⟩
    have HR1 : Hid (Blk w1 w.heap.size 38 #[.int .i64 0, .int .i64 0, .int .i64 0]) := Lib.hid (by rw [hw1]; exact (Blk.new _ _ _).alloc _)
    have HX1 : Hid (Blk w1 (w.heap.size + 1) 38 #[.int .i64 7, .int .i64 0, .int .i64 0]) := Lib.hid (by rw [hw1]; have := Blk.new (w.alloc (.cells #[.int .i64 0, .int .i64 0, .int .i64 0] 38)) 38 #[.int .i64 7, .int .i64 0, .int .i64 0]; simpa using this)
    have S1 : Hid (Src w1 g M) := Lib.hid (by rw [hw1]; exact (HS.out.alloc _).alloc _)
    have Y1 : Hid (Only g (g + 1) w w1) := Lib.hid (by rw [hw1]; exact ((Only.refl g (g + 1) w).alloc' _).alloc' _)
    rw [← hw1]
    clear hw1
    go_wp2_with fail
    refine (pick_c g M 8 w1 S1.out (by omega) (by omega)).mono ?_
    rintro e w2 ⟨v, rfl, v0, v1, s2, y2⟩
    have hv : 0 ≤ v ∧ v < 8 := by omega
    have S2 := Lib.hid s2
    have Y2 := Lib.hid (Y1.out.trans y2)
    have HR2 := Lib.hid (HR1.out.only' y2 (.inr (by omega)))
    have HX2 := Lib.hid (HX1.out.only' y2 (.inr (by omega)))
    clear s2 y2 v1 S1 Y1 HR1 HX1
    have x1 : w2.cell? ⟨w.heap.size + 1, 1, none⟩ = some (.int .i64 0) := HX2.out.cell 1
    have xf1 := HX2.out.frozen 1
    go_upto_region 15 with (fail)
    obtain ⟨w3, hw3⟩ : ∃ W, W = w2.setCell ⟨w.heap.size + 1, 1, none⟩ (.int .i64 v) := ⟨_, rfl⟩
    have HX3 : Hid (Blk w3 (w.heap.size + 1) 38 #[.int .i64 7, .int .i64 v, .int .i64 0]) := Lib.hid (by rw [hw3]; exact HX2.out.set_ 1 _)
    have HR3 : Hid (Blk w3 w.heap.size 38 #[.int .i64 0, .int .i64 0, .int .i64 0]) := Lib.hid (by rw [hw3]; exact HR2.out.far (by show w.heap.size ≠ w.heap.size + 1; omega) _)
    have S3 : Hid (Src w3 g (M + 2)) := Lib.hid (by rw [hw3]; exact S2.out.set (by show g < w.heap.size + 1; omega) _)
    have Y3 : Hid (Only g (g + 1) w w3) := Lib.hid (by rw [hw3]; exact Y2.out.setNew (by show w.heap.size ≤ w.heap.size + 1; omega) _)
    rw [← hw3]
    clear hw3 S2 Y2 HR2 HX2 x1 xf1
    have c0 : w3.cell? ⟨w.heap.size + 1, 0, none⟩ = some (.int .i64 7) := HX3.out.cell 0
    have c1 : w3.cell? ⟨w.heap.size + 1, 1, none⟩ = some (.int .i64 v) := HX3.out.cell 1
    have c2 : w3.cell? ⟨w.heap.size + 1, 2, none⟩ = some (.int .i64 0) := HX3.out.cell 2
    have r0 : w3.cell? ⟨w.heap.size, 0, none⟩ = some (.int .i64 0) := HR3.out.cell 0
    have f0 := HR3.out.frozen 0
    have r1 : w3.cell? ⟨w.heap.size, 1, none⟩ = some (.int .i64 0) := HR3.out.cell 1
    have f1 := HR3.out.frozen 1
    have r2 : w3.cell? ⟨w.heap.size, 2, none⟩ = some (.int .i64 0) := HR3.out.cell 2
    have f2 := HR3.out.frozen 2
    have hk3 := ((HR3.out.set_ 0 (.int .i64 7)).set_ 1 (.int .i64 v)).set_ 2 (.int .i64 0)
    have q0 := hk3.cell 0
    have q1 := hk3.cell 1
    have q2 := hk3.cell 2
    simp at q0 q1 q2
    have HQ0 := Lib.hid q0
    have HQ1 := Lib.hid q1
    have HQ2 := Lib.hid q2
    clear hk3 q0 q1 q2
    go_wp2
    refine bodyPost_ret (v := .agg #[.int .i64 7, .int .i64 v, .int .i64 0]) (by have q0 := HQ0.out; have q1 := HQ1.out; have q2 := HQ2.out; simp [results, Tryz.results34, go_sem, q0, q1, q2]) rfl ?_
    refine ⟨v, 0, rfl, by simp [okS, inB]; omega, ?_, ?_⟩
    · exact (((S3.out.set (p := ⟨w.heap.size, 0, none⟩) hg _).set (p := ⟨w.heap.size, 1, none⟩) hg _).set (p := ⟨w.heap.size, 2, none⟩) hg _).more (by omega)
    · exact ((Y3.out.setNew (p := ⟨w.heap.size, 0, none⟩) (Nat.le_refl _) _).setNew (p := ⟨w.heap.size, 1, none⟩) (Nat.le_refl _) _).setNew (p := ⟨w.heap.size, 2, none⟩) (Nat.le_refl _) _
end Go.Proofs.YthbnliepgjjbdaaGreatDoor
