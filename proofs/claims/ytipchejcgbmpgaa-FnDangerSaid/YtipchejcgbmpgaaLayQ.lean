/- Layers: what the reference draws. -/
import Derived.Test.YtipchejcgbmpgaaLayA
import Derived.Test.YtipchejcgbmpgaaSrc2
namespace Go.Proofs.Ytipchejcgbmpgaa
open Go.ChangeShapes Go.WideShapes Go.ChangeAt Go.RowKit
set_option linter.unusedVariables false

def DrawOnePost (w : World) (g M : Nat) (e : Ending) (w' : World) : Prop :=
  ∃ s : Lay, e = .returned s.val ∧ s.ok = true ∧ Src w' g M ∧ Only g (g + 1) w w'
/-- the state between two choices: the source, the layer's block, what has turned -/
def DrawSt (w W : World) (g M gb gr : Nat) (cs : Array Value) : Prop :=
  Src W g M ∧ Blk W gb 52 cs ∧ Only g (g + 1) w W ∧ w.heap.size ≤ gr ∧ gr < gb ∧ Blk W gr 52 #[.int .i64 0, .int .i64 0, .int .i64 0, .int .i64 0, .int .i64 0, .int .i64 0, .int .i64 0] ∧ g < w.heap.size
theorem DrawSt.turn {w W W' : World} {g M M' gb gr : Nat} {cs : Array Value} (h : DrawSt w W g M gb gr cs) (hs : Src W' g M') (ho : Only g (g + 1) W W') : DrawSt w W' g M' gb gr cs := by
  obtain ⟨h1, h2, h3, h4, h5, h6, h7⟩ := h
  exact ⟨hs, h2.only' ho (by omega), h3.trans ho, h4, h5, h6.only' ho (by omega), h7⟩
theorem DrawSt.put {w W : World} {g M gb gr : Nat} {cs : Array Value} (h : DrawSt w W g M gb gr cs) (i : Nat) (u : Value) : DrawSt w (W.setCell ⟨gb, i, none⟩ u) g M gb gr (cs.setIfInBounds i u) := by
  obtain ⟨h1, h2, h3, h4, h5, h6, h7⟩ := h
  exact ⟨h1.set (by show g < gb; omega) u, h2.set_ i u, h3.setNew (by show w.heap.size ≤ gb; omega) u, h4, h5, h6.far (by show gr ≠ gb; omega) u, h7⟩
theorem DrawSt.alloc {w W : World} {g M gb gr : Nat} {cs : Array Value} (h : DrawSt w W g M gb gr cs) (o : Obj) : DrawSt w (W.alloc o) g M gb gr cs := by
  obtain ⟨h1, h2, h3, h4, h5, h6, h7⟩ := h
  exact ⟨h1.alloc o, h2.alloc o, h3.alloc' o, h4, h5, h6.alloc o, h7⟩
theorem draw_ok {f i w d t h a : Int} (h1 : 1 ≤ f ∧ f ≤ 6) (h2 : 1 ≤ i ∧ i ≤ 1000000) (h3 : 0 ≤ w ∧ w ≤ 1000000) (h4 : 30 ≤ d ∧ d ≤ 900) (h5 : -4000 ≤ t ∧ t ≤ 0) (h6 : 1 ≤ h ∧ h ≤ 6) (h7 : 0 ≤ a ∧ a ≤ 10000) : Lay.ok ⟨f, i, w, d, t, h, a⟩ = true := by
  simp [Lay.ok, inB]; omega
set_option maxHeartbeats 4000000 in
theorem l03DrawOne_c (g M : Nat) (w : World) (h : Src w g M) (hM : M ≤ 100000000000000000) :
    Calls Try.prog 93 #[.pointer (some ⟨g, 0, none⟩)] w (DrawOnePost w g (M + 14)) := by
  have HS := Lib.hid h; clear h
  have HG := Lib.hid HS.out.lt
  go_enter Try.func93, Try.ntmps93
  go_wp2_with fail
  refine (pick_c g M 6 _ (HS.out.alloc _) (by omega) (by omega)).mono ?_
  rintro e w1 ⟨v1, rfl, a1, b1, S1, Y1⟩
  have D1 : Hid (DrawSt w (w1.alloc (.cells #[.int .i64 (1 + v1), .int .i64 0, .int .i64 0, .int .i64 0, .int .i64 0, .int .i64 0, .int .i64 0] 52)) g (M + 2) w1.heap.size w.heap.size #[.int .i64 (1 + v1), .int .i64 0, .int .i64 0, .int .i64 0, .int .i64 0, .int .i64 0, .int .i64 0]) := Lib.hid (by
    have hs1 := Y1.size
    simp at hs1
    exact ⟨S1.alloc _, Blk.new _ _ _, ((Only.refl g (g + 1) w).alloc' _ |>.trans Y1).alloc' _, Nat.le_refl _, by omega, ((Blk.new _ _ _).only' Y1 (.inr (by have := HG.out; omega))).alloc _, HG.out⟩)
  clear S1 Y1
  go_wp2_with fail
  refine (pick_c g (M + 2) 120 _ D1.out.1 (by omega) (by omega)).mono ?_
  rintro e w2 ⟨v2, rfl, a2, b2, S2, Y2⟩
  have D2 := Lib.hid (D1.out.turn S2 Y2)
  have x1 : w2.cell? ⟨w1.heap.size, 1, none⟩ = some (.int .i64 0) := D2.out.2.1.cell 1
  have f1 := D2.out.2.1.frozen 1
  clear S2 Y2
  go_wp2_with fail
  have D3 : Hid (DrawSt w (w2.setCell ⟨w1.heap.size, 1, none⟩ (.int .i64 (1000 + 500 * v2))) g (M + 2 + 2) w1.heap.size w.heap.size #[.int .i64 (1 + v1), .int .i64 (1000 + 500 * v2), .int .i64 0, .int .i64 0, .int .i64 0, .int .i64 0, .int .i64 0]) := Lib.hid (D2.out.put 1 (.int .i64 (1000 + 500 * v2)))
  have hz3 : (w2.setCell ⟨w1.heap.size, 1, none⟩ (.int .i64 (1000 + 500 * v2))).heap.size = w2.heap.size := by simp
  obtain ⟨W3, hW3⟩ : ∃ W, W = w2.setCell ⟨w1.heap.size, 1, none⟩ (.int .i64 (1000 + 500 * v2)) := ⟨_, rfl⟩
  rw [← hW3] at D3 hz3 ⊢
  rw [← hz3]
  clear hz3 hW3 x1 f1 D2 D1
  refine (among_c g W3.heap.size (M + 2 + 2) 6 [0, 0, 0, 100, 700, 3000] _ (D3.out.alloc _).1 (Blk.new _ _ _) (by have := D3.out.1.lt; omega) rfl (by omega) (by omega) (by omega)).mono ?_
  rintro e w3 ⟨v3, rfl, m3, S3, Y3⟩
  have b3 : 0 ≤ v3 ∧ v3 ≤ 1000000 := by simp at m3; omega
  have D4 := Lib.hid ((D3.out.alloc _).turn S3 Y3)
  clear S3 Y3 m3 D3
  have x3 : w3.cell? ⟨w1.heap.size, 2, none⟩ = some (.int .i64 0) := D4.out.2.1.cell 2
  have f3 := D4.out.2.1.frozen 2
  go_wp2_with fail
  have D5 : Hid (DrawSt w (w3.setCell ⟨w1.heap.size, 2, none⟩ (.int .i64 v3)) g _ w1.heap.size w.heap.size #[.int .i64 (1 + v1), .int .i64 (1000 + 500 * v2), .int .i64 v3, .int .i64 0, .int .i64 0, .int .i64 0, .int .i64 0]) := Lib.hid (D4.out.put 2 (.int .i64 v3))
  obtain ⟨W13, hW⟩ : ∃ W, W = w3.setCell ⟨w1.heap.size, 2, none⟩ (.int .i64 v3) := ⟨_, rfl⟩
  rw [← hW] at D5 ⊢
  clear hW x3 f3 D4
  refine (pick_c g _ 40 _ D5.out.1 (by omega) (by omega)).mono ?_
  rintro e w4 ⟨v4, rfl, a4, b4, S4, Y4⟩
  have E4 := Lib.hid (D5.out.turn S4 Y4)
  clear S4 Y4 D5
  have x4 : w4.cell? ⟨w1.heap.size, 3, none⟩ = some (.int .i64 0) := E4.out.2.1.cell 3
  have f4 := E4.out.2.1.frozen 3
  go_wp2_with fail
  have D6 : Hid (DrawSt w (w4.setCell ⟨w1.heap.size, 3, none⟩ (.int .i64 (60 + 10 * v4))) g _ w1.heap.size w.heap.size #[.int .i64 (1 + v1), .int .i64 (1000 + 500 * v2), .int .i64 v3, .int .i64 (60 + 10 * v4), .int .i64 0, .int .i64 0, .int .i64 0]) := Lib.hid (E4.out.put 3 (.int .i64 (60 + 10 * v4)))
  obtain ⟨W14, hW⟩ : ∃ W, W = w4.setCell ⟨w1.heap.size, 3, none⟩ (.int .i64 (60 + 10 * v4)) := ⟨_, rfl⟩
  rw [← hW] at D6 ⊢
  clear hW x4 f4 E4
  refine (pick_c g _ 30 _ D6.out.1 (by omega) (by omega)).mono ?_
  rintro e w5 ⟨v5, rfl, a5, b5, S5, Y5⟩
  have E5 := Lib.hid (D6.out.turn S5 Y5)
  clear S5 Y5 D6
  have x5 : w5.cell? ⟨w1.heap.size, 4, none⟩ = some (.int .i64 0) := E5.out.2.1.cell 4
  have f5 := E5.out.2.1.frozen 4
  have y2 : w5.cell? ⟨w1.heap.size, 2, none⟩ = some (.int .i64 v3) := E5.out.2.1.cell 2
  by_cases hw : 0 < v3
  · go_wp2_with fail
    have D7 := Lib.hid (E5.out.put 4 (.int .i64 (-50 * v5)) |>.put 4 (.int .i64 0))
    refine (pick_c g _ 6 _ D7.out.1 (by omega) (by omega)).mono ?_
    rintro e w6 ⟨v6, rfl, a6, b6, S6, Y6⟩
    have E6 := Lib.hid (D7.out.turn S6 Y6)
    clear S6 Y6 D7 x5 f5 y2
    have x6 : w6.cell? ⟨w1.heap.size, 5, none⟩ = some (.int .i64 0) := E6.out.2.1.cell 5
    have f6 := E6.out.2.1.frozen 5
    go_wp2_with fail
    have D8 := Lib.hid (E6.out.put 5 (.int .i64 (1 + v6)))
    refine (pick_c g _ 400 _ D8.out.1 (by omega) (by omega)).mono ?_
    rintro e w7 ⟨v7, rfl, a7, b7, S7, Y7⟩
    have E7 := Lib.hid (D8.out.turn S7 Y7)
    clear S7 Y7 D8 x6 f6 E6
    have z0 : w7.cell? ⟨w1.heap.size, 0, none⟩ = some (.int .i64 (1 + v1)) := E7.out.2.1.cell 0
    have z1 : w7.cell? ⟨w1.heap.size, 1, none⟩ = some (.int .i64 (1000 + 500 * v2)) := E7.out.2.1.cell 1
    have z2 : w7.cell? ⟨w1.heap.size, 2, none⟩ = some (.int .i64 v3) := E7.out.2.1.cell 2
    have z3 : w7.cell? ⟨w1.heap.size, 3, none⟩ = some (.int .i64 (60 + 10 * v4)) := E7.out.2.1.cell 3
    have z4 : w7.cell? ⟨w1.heap.size, 4, none⟩ = some (.int .i64 0) := E7.out.2.1.cell 4
    have z5 : w7.cell? ⟨w1.heap.size, 5, none⟩ = some (.int .i64 (1 + v6)) := E7.out.2.1.cell 5
    have z6 : w7.cell? ⟨w1.heap.size, 6, none⟩ = some (.int .i64 0) := E7.out.2.1.cell 6
    have f7 := E7.out.2.1.frozen 6
    have r0 : w7.cell? ⟨w.heap.size, 0, none⟩ = some (.int .i64 0) := E7.out.2.2.2.2.2.1.cell 0
    have s0 := E7.out.2.2.2.2.2.1.frozen 0
    have r1 : w7.cell? ⟨w.heap.size, 1, none⟩ = some (.int .i64 0) := E7.out.2.2.2.2.2.1.cell 1
    have s1 := E7.out.2.2.2.2.2.1.frozen 1
    have r2 : w7.cell? ⟨w.heap.size, 2, none⟩ = some (.int .i64 0) := E7.out.2.2.2.2.2.1.cell 2
    have s2 := E7.out.2.2.2.2.2.1.frozen 2
    have r3 : w7.cell? ⟨w.heap.size, 3, none⟩ = some (.int .i64 0) := E7.out.2.2.2.2.2.1.cell 3
    have s3 := E7.out.2.2.2.2.2.1.frozen 3
    have r4 : w7.cell? ⟨w.heap.size, 4, none⟩ = some (.int .i64 0) := E7.out.2.2.2.2.2.1.cell 4
    have s4 := E7.out.2.2.2.2.2.1.frozen 4
    have r5 : w7.cell? ⟨w.heap.size, 5, none⟩ = some (.int .i64 0) := E7.out.2.2.2.2.2.1.cell 5
    have s5 := E7.out.2.2.2.2.2.1.frozen 5
    have r6 : w7.cell? ⟨w.heap.size, 6, none⟩ = some (.int .i64 0) := E7.out.2.2.2.2.2.1.cell 6
    have s6 := E7.out.2.2.2.2.2.1.frozen 6
    have hlt7 : ¬ w1.heap.size = w.heap.size := by have := E7.out.2.2.2.2.1; omega
    have hlt8 : ¬ w.heap.size = w1.heap.size := by have := E7.out.2.2.2.2.1; omega
    go_wp2
    refine bodyPost_ret (v := .agg #[.int .i64 (1 + v1), .int .i64 (1000 + 500 * v2), .int .i64 v3, .int .i64 (60 + 10 * v4), .int .i64 0, .int .i64 (1 + v6), .int .i64 v7]) (by simp [results, Try.results93, go_sem, r0, r1, r2, r3, r4, r5, r6]) rfl ?_
    refine ⟨⟨1 + v1, 1000 + 500 * v2, v3, 60 + 10 * v4, 0, 1 + v6, v7⟩, rfl, draw_ok (by omega) (by omega) b3 (by omega) (by omega) (by omega) (by omega), ?_, ?_⟩
    · exact Src.more ((((((((E7.out.put 6 (.int .i64 v7)).1.set (p := ⟨w.heap.size, 0, none⟩) HG.out _).set (p := ⟨w.heap.size, 1, none⟩) HG.out _).set (p := ⟨w.heap.size, 2, none⟩) HG.out _).set (p := ⟨w.heap.size, 3, none⟩) HG.out _).set (p := ⟨w.heap.size, 4, none⟩) HG.out _).set (p := ⟨w.heap.size, 5, none⟩) HG.out _).set (p := ⟨w.heap.size, 6, none⟩) HG.out _) (by omega)
    · exact ((((((((E7.out.put 6 (.int .i64 v7)).2.2.1.setNew (p := ⟨w.heap.size, 0, none⟩) (Nat.le_refl _) _).setNew (p := ⟨w.heap.size, 1, none⟩) (Nat.le_refl _) _).setNew (p := ⟨w.heap.size, 2, none⟩) (Nat.le_refl _) _).setNew (p := ⟨w.heap.size, 3, none⟩) (Nat.le_refl _) _).setNew (p := ⟨w.heap.size, 4, none⟩) (Nat.le_refl _) _).setNew (p := ⟨w.heap.size, 5, none⟩) (Nat.le_refl _) _).setNew (p := ⟨w.heap.size, 6, none⟩) (Nat.le_refl _) _)
  · go_wp2_with fail
    have D7 := Lib.hid (E5.out.put 4 (.int .i64 (-50 * v5)))
    refine (pick_c g _ 6 _ D7.out.1 (by omega) (by omega)).mono ?_
    rintro e w6 ⟨v6, rfl, a6, b6, S6, Y6⟩
    have E6 := Lib.hid (D7.out.turn S6 Y6)
    clear S6 Y6 D7 x5 f5 y2
    have x6 : w6.cell? ⟨w1.heap.size, 5, none⟩ = some (.int .i64 0) := E6.out.2.1.cell 5
    have f6 := E6.out.2.1.frozen 5
    go_wp2_with fail
    have D8 := Lib.hid (E6.out.put 5 (.int .i64 (1 + v6)))
    refine (pick_c g _ 400 _ D8.out.1 (by omega) (by omega)).mono ?_
    rintro e w7 ⟨v7, rfl, a7, b7, S7, Y7⟩
    have E7 := Lib.hid (D8.out.turn S7 Y7)
    clear S7 Y7 D8 x6 f6 E6
    have z0 : w7.cell? ⟨w1.heap.size, 0, none⟩ = some (.int .i64 (1 + v1)) := E7.out.2.1.cell 0
    have z1 : w7.cell? ⟨w1.heap.size, 1, none⟩ = some (.int .i64 (1000 + 500 * v2)) := E7.out.2.1.cell 1
    have z2 : w7.cell? ⟨w1.heap.size, 2, none⟩ = some (.int .i64 v3) := E7.out.2.1.cell 2
    have z3 : w7.cell? ⟨w1.heap.size, 3, none⟩ = some (.int .i64 (60 + 10 * v4)) := E7.out.2.1.cell 3
    have z4 : w7.cell? ⟨w1.heap.size, 4, none⟩ = some (.int .i64 (-50 * v5)) := E7.out.2.1.cell 4
    have z5 : w7.cell? ⟨w1.heap.size, 5, none⟩ = some (.int .i64 (1 + v6)) := E7.out.2.1.cell 5
    have z6 : w7.cell? ⟨w1.heap.size, 6, none⟩ = some (.int .i64 0) := E7.out.2.1.cell 6
    have f7 := E7.out.2.1.frozen 6
    have r0 : w7.cell? ⟨w.heap.size, 0, none⟩ = some (.int .i64 0) := E7.out.2.2.2.2.2.1.cell 0
    have s0 := E7.out.2.2.2.2.2.1.frozen 0
    have r1 : w7.cell? ⟨w.heap.size, 1, none⟩ = some (.int .i64 0) := E7.out.2.2.2.2.2.1.cell 1
    have s1 := E7.out.2.2.2.2.2.1.frozen 1
    have r2 : w7.cell? ⟨w.heap.size, 2, none⟩ = some (.int .i64 0) := E7.out.2.2.2.2.2.1.cell 2
    have s2 := E7.out.2.2.2.2.2.1.frozen 2
    have r3 : w7.cell? ⟨w.heap.size, 3, none⟩ = some (.int .i64 0) := E7.out.2.2.2.2.2.1.cell 3
    have s3 := E7.out.2.2.2.2.2.1.frozen 3
    have r4 : w7.cell? ⟨w.heap.size, 4, none⟩ = some (.int .i64 0) := E7.out.2.2.2.2.2.1.cell 4
    have s4 := E7.out.2.2.2.2.2.1.frozen 4
    have r5 : w7.cell? ⟨w.heap.size, 5, none⟩ = some (.int .i64 0) := E7.out.2.2.2.2.2.1.cell 5
    have s5 := E7.out.2.2.2.2.2.1.frozen 5
    have r6 : w7.cell? ⟨w.heap.size, 6, none⟩ = some (.int .i64 0) := E7.out.2.2.2.2.2.1.cell 6
    have s6 := E7.out.2.2.2.2.2.1.frozen 6
    have hlt7 : ¬ w1.heap.size = w.heap.size := by have := E7.out.2.2.2.2.1; omega
    have hlt8 : ¬ w.heap.size = w1.heap.size := by have := E7.out.2.2.2.2.1; omega
    go_wp2
    refine bodyPost_ret (v := .agg #[.int .i64 (1 + v1), .int .i64 (1000 + 500 * v2), .int .i64 v3, .int .i64 (60 + 10 * v4), .int .i64 (-50 * v5), .int .i64 (1 + v6), .int .i64 v7]) (by simp [results, Try.results93, go_sem, r0, r1, r2, r3, r4, r5, r6]) rfl ?_
    refine ⟨⟨1 + v1, 1000 + 500 * v2, v3, 60 + 10 * v4, (-50 * v5), 1 + v6, v7⟩, rfl, draw_ok (by omega) (by omega) b3 (by omega) (by omega) (by omega) (by omega), ?_, ?_⟩
    · exact Src.more ((((((((E7.out.put 6 (.int .i64 v7)).1.set (p := ⟨w.heap.size, 0, none⟩) HG.out _).set (p := ⟨w.heap.size, 1, none⟩) HG.out _).set (p := ⟨w.heap.size, 2, none⟩) HG.out _).set (p := ⟨w.heap.size, 3, none⟩) HG.out _).set (p := ⟨w.heap.size, 4, none⟩) HG.out _).set (p := ⟨w.heap.size, 5, none⟩) HG.out _).set (p := ⟨w.heap.size, 6, none⟩) HG.out _) (by omega)
    · exact ((((((((E7.out.put 6 (.int .i64 v7)).2.2.1.setNew (p := ⟨w.heap.size, 0, none⟩) (Nat.le_refl _) _).setNew (p := ⟨w.heap.size, 1, none⟩) (Nat.le_refl _) _).setNew (p := ⟨w.heap.size, 2, none⟩) (Nat.le_refl _) _).setNew (p := ⟨w.heap.size, 3, none⟩) (Nat.le_refl _) _).setNew (p := ⟨w.heap.size, 4, none⟩) (Nat.le_refl _) _).setNew (p := ⟨w.heap.size, 5, none⟩) (Nat.le_refl _) _).setNew (p := ⟨w.heap.size, 6, none⟩) (Nat.le_refl _) _)
theorem app_lay {ops : Array Oper} {rest : List Oper} {o : Oper} {a : Act} {Q : Exit → Act → World → Prop} {w : World} (hgd : o.guard = none) (s x : Operand)
    (ho : o.op = .call { callee := .builtin .append, args := #[s, x], argTypes := #[25, 25] })
    (lo : Nat) (v : Value) (n : Nat) (ss : List Lay) (z : Lay) (g : Nat) (hs : a.eval s = v) (hown : w.ownsRow lo 52 7 v n (lays ss))
    (hx : a.eval x = .slice (some ⟨g, 0, none⟩) 1 1) (hk : Blk w g 52 #[.int .i64 z.form, .int .i64 z.ice, .int .i64 z.water, .int .i64 z.density, .int .i64 z.degrees, .int .i64 z.hardness, .int .i64 z.age])
    (hn : n ≤ 100000000000) (hlo : lo ≤ w.heap.size)
    (h : ∀ v' w', w'.ownsRow lo 52 7 v' (n + 1) (lays (ss ++ [z])) → Below lo w w' → w.heap.size ≤ w'.heap.size → wpList Try.prog ops Q rest (a.put o.dst v') w') : wpList Try.prog ops Q (o :: rest) a w := by
  refine app_gen hgd s x _ ho lo _ _ 7 56 Try.underlying25 info_lay rfl (by omega) (by omega) v n (lays ss) z.cells g hs hown hx rfl (by simp [Value.oneCell', Lay.cells]) (fun j u hu => ?_) hn hlo (fun v' w' k1 k2 k3 => h v' w' (by rw [lays_app]; simpa [lays] using k1) k2 k3)
  rw [hk.cell j]
  simpa [Lay.cells] using hu
def ProfPost (w : World) (e : Ending) (w' : World) : Prop :=
  ∃ A n c ls, e = .returned (.slice A n c) ∧ Own w' w.heap.size w'.heap.size 52 7 (.slice A n c) n (lays ls) ∧ proB ls = true ∧ n ≤ 5 ∧ n ≤ c ∧ Below w.heap.size w w'
theorem owns_below' {w w' : World} {lo B s n : Nat} {T : TypeId} {v : Value} {xs : List Value} (h : w.ownsRow lo T s v n xs) (hb : Below B w w') (hB : w.heap.size ≤ B) : w'.ownsRow lo T s v n xs :=
  ((Own.of_owns h (Nat.le_refl _)).below hb hB).1
theorem owns_only' {w w' : World} {lo lo' hi' s n : Nat} {T : TypeId} {v : Value} {xs : List Value} (h : w.ownsRow lo T s v n xs) (ho : Only lo' hi' w w') (hd : hi' ≤ lo) : w'.ownsRow lo T s v n xs :=
  ((Own.of_owns h (Nat.le_refl _)).only ho (.inr hd)).1
theorem owns_alloc' {w : World} {lo s n : Nat} {T : TypeId} {v : Value} {xs : List Value} (h : w.ownsRow lo T s v n xs) (o : Obj) : (w.alloc o).ownsRow lo T s v n xs :=
  owns_below' h ((Below.refl _ _).alloc (Nat.le_refl _) o) (Nat.le_refl _)
theorem Only.thenBelow {w w3 w4 : World} {lo hi : Nat} (h : Only lo hi w w3) (hb : Below w.heap.size w3 w4) : Only lo hi w w4 :=
  ⟨hb.os.trans h.os, hb.tape.trans h.tape, hb.output.trans h.output, Nat.le_trans h.size hb.size, fun k hk hc => (hb.block k hk).trans (h.block k hk hc)⟩
def DrawLPost (w : World) (g : Nat) (e : Ending) (w' : World) : Prop :=
  ∃ v n ls, e = .returned v ∧ w'.ownsRow w.heap.size 52 7 v n (lays ls) ∧ ls.all Lay.ok = true ∧ n ≤ 5 ∧ Only g (g + 1) w w'
set_option maxHeartbeats 2000000 in
theorem l03Draw_c (g : Nat) (w : World) (h : Src w g 0) :
    Calls Try.prog 74 #[.pointer (some ⟨g, 0, none⟩)] w (DrawLPost w g) := by
  have HS := Lib.hid h; clear h
  have HG := Lib.hid HS.out.lt
  go_enter Try.func74, Try.ntmps74
  go_wp2_with fail
  refine (pick_c g 0 6 _ (HS.out.alloc _) (by omega) (by omega)).mono ?_
  rintro e w1 ⟨v, rfl, hv0, hv1, S1, Y1⟩
  have O1 : Hid (w1.ownsRow w.heap.size 52 7 (.slice (some ⟨w.heap.size, 0, none⟩) 0 0) 0 (lays [])) := Lib.hid (by
    refine owns_only' ?_ Y1 (by have := HG.out; omega)
    exact World.ownsRow_lit (w := w) (base := w.heap.size) (e := 52) (size := 7) #[] 0 (Nat.le_refl _) (by simp [maxLen]) (by simp))
  have T1 : Hid (Only g (g + 1) w w1) := Lib.hid (((Only.refl g (g + 1) w).alloc' _).trans Y1)
  have S1' := Lib.hid S1
  have hs1 : w.heap.size ≤ w1.heap.size := T1.out.size
  clear S1 Y1
  obtain ⟨m0, rfl⟩ : ∃ m0 : Nat, v = m0 := ⟨v.toNat, by omega⟩
  go_wp2_with fail
  go_loopw [3, 4] (fun o k wr => ∃ (m n' : Nat) (ls : List Lay), m ≤ 5 ∧ n' + m ≤ 5 ∧ k = .int .i64 m ∧ Hid (wr.ownsRow w.heap.size 52 7 o n' (lays ls)) ∧ Hid (ls.all Lay.ok = true) ∧ Hid (Src wr g (2 + 14 * n')) ∧ Hid (Only g (g + 1) w wr)) (fun _ k _ => (intOf k).toNat)
  case atStart => exact ⟨m0, 0, [], by omega, by omega, rfl, O1, Lib.hid rfl, S1', T1⟩
  case round =>
    clear O1 S1' T1 hs1
    obtain ⟨m, n', ls, hm, hnm, rfl, HO, HA, HS', HT⟩ := hrel
    by_cases h0 : m = 0
    · subst h0
      go_wp2
      go_ret
      exact ⟨_, n', ls, rfl, HO.out, HA.out, by omega, HT.out⟩
    · have hmp : 0 < m := by omega
      go_wp2_with fail
      refine (l03DrawOne_c g (2 + 14 * n') wr HS'.out (by omega)).mono ?_
      rintro e w3 ⟨s, rfl, hok, S3, Y3⟩
      have hsr := HT.out.size
      have hs3 := Y3.size
      have O3 := Lib.hid (owns_only' HO.out Y3 (by have := HG.out; omega))
      have T3 := Lib.hid (HT.out.trans Y3)
      have S3' := Lib.hid S3
      have HK := Lib.hid hok
      clear Y3 HO HT HS' S3 hok
      simp only [Lay.val]
      go_wp2_with (at_builtin; refine app_lay rfl (.tmp 12) (.tmp 15) rfl w.heap.size _ n' ls s w3.heap.size rfl (owns_alloc' O3.out _) rfl (Blk.new _ _ _) (by omega) (by simp; omega) ?_)
      intro v4 w4 O4 B4 hs4
      have hs4' : w3.heap.size ≤ w4.heap.size := by have h3 := hs4; first | omega | (simp at h3; omega)
      have O4' := Lib.hid O4
      have B4' := Lib.hid ((Below.refl w.heap.size w3).alloc (by omega) _ |>.trans B4)
      clear O4 B4 hs4
      go_wp2
      go_roundw
      case rel => exact ⟨m - 1, n' + 1, ls ++ [s], by omega, by omega, by rw [show ((m - 1 : Nat) : Int) = (m : Int) - 1 from by omega], O4', Lib.hid (by rw [List.all_append, HA.out]; simp [HK.out]), Lib.hid ((S3'.out.below B4'.out HG.out).more (by omega)), Lib.hid (T3.out.thenBelow B4'.out)⟩
      case measure => simp [intOf]; omega
theorem R8Profile_c (A : Option Addr) (n c : Nat) (zs : List Int) (w : World) (ha : Bytes w w.heap.size A n zs) (hn : n ≤ 1152921504606846976) :
    Calls Try.prog 36 #[.slice A n c] w (ProfPost w) := by
  have HA := Lib.hid ha; clear ha
  go_enter Try.func36, Try.ntmps36
  go_wp2_with fail
  refine (l00From_c A n c zs w HA.out hn).mono ?_
  rintro e w1 ⟨rfl, S1, B1, hs1⟩
  have S1' := Lib.hid S1
  have B1' := Lib.hid B1
  have HS1 := Lib.hid hs1
  clear S1 B1 hs1
  go_wp2_with fail
  refine (l03Draw_c w.heap.size w1 S1'.out).mono ?_
  rintro e w2 ⟨v, m, ls, rfl, ho, hok, hm, ht⟩
  obtain ⟨A2, c2, rfl, hnc, _⟩ := (Own.of_owns ho (Nat.le_refl _)).slice
  have HO := Lib.hid ho
  have HT := Lib.hid ht
  have HK := Lib.hid hok
  clear ho ht hok
  go_wp2
  go_ret
  have e1 := HS1.out
  refine ⟨A2, m, c2, ls, rfl, (Own.of_owns HO.out (Nat.le_refl _)).widen (by omega) (Nat.le_refl _), ?_, hm, hnc, B1'.out.trans (HT.out.below (Nat.le_refl _) (by omega))⟩
  have hl : ls.length = m := by have := HO.out.1; rw [lays_len] at this; omega
  simp [proB, HK.out, hl]; omega
end Go.Proofs.Ytipchejcgbmpgaa
