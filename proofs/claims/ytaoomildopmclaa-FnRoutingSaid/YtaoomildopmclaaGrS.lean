/- The steepest step of a cell, by the program. -/
import Derived.Test.YtaoomildopmclaaGrR
namespace Go.Proofs.Ytaoomildopmclaa
open Go.ChangeShapes Go.WideShapes Go.ChangeAt Go.RowKit
set_option linter.unusedVariables false

def bestV : Option Stp → Stp
  | none => ⟨0, 0, 0⟩
  | some x => x
theorem bestV_none : bestV none = ⟨0, 0, 0⟩ := rfl
theorem next_cell {g : Gr} {cell : Nat} {x : Stp} {j : Nat} (hb : GrOk g) (h : (nextTo g cell 8)[j]? = some x) : ∃ t : Nat, x.cell = t ∧ t < g.hs.length := by
  obtain ⟨a, _, h2, h3⟩ := nextTo_mem (List.mem_of_getElem? h)
  rcases goV_cases (cell := (cell : Int)) (a := a) hb with ⟨h4, _⟩ | ⟨_, h5, h6⟩
  · rw [h4] at h2; cases h2
  · refine ⟨(goV g cell a).toNat, ?_, by omega⟩
    rw [h3]; simp only [stpV]; omega
def set3 (w : World) (b : Nat) (u0 u1 u2 : Value) : World := ((w.setCell ⟨b, 0, none⟩ u0).setCell ⟨b, 1, none⟩ u1).setCell ⟨b, 2, none⟩ u2
theorem set3_blk {w : World} {b : Nat} {T : TypeId} {a0 a1 a2 : Value} (h : Blk w b T #[a0, a1, a2]) (u0 u1 u2 : Value) : Blk (set3 w b u0 u1 u2) b T #[u0, u1, u2] := by
  have h1 := ((h.set_ 0 u0).set_ 1 u1).set_ 2 u2
  simpa [set3] using h1
theorem set3_below {w0 w : World} {lo b : Nat} (h : Below lo w0 w) (hb : lo ≤ b) (u0 u1 u2 : Value) : Below lo w0 (set3 w b u0 u1 u2) :=
  ((h.setCell (p := ⟨b, 0, none⟩) hb u0).setCell (p := ⟨b, 1, none⟩) hb u1).setCell (p := ⟨b, 2, none⟩) hb u2
theorem set3_far {w : World} {b b' : Nat} {T : TypeId} {cs : Array Value} (h : Blk w b' T cs) (hb : b' ≠ b) (u0 u1 u2 : Value) : Blk (set3 w b u0 u1 u2) b' T cs :=
  ((h.far (p := ⟨b, 0, none⟩) hb u0).far (p := ⟨b, 1, none⟩) hb u1).far (p := ⟨b, 2, none⟩) hb u2
theorem set3_size (w : World) (b : Nat) (u0 u1 u2 : Value) : (set3 w b u0 u1 u2).heap.size = w.heap.size := by simp [set3]
theorem set3_own {w : World} {lo hi s n b : Nat} {T : TypeId} {v : Value} {xs : List Value} (h : Own w lo hi T s v n xs) (hb : b < lo) (u0 u1 u2 : Value) : Own (set3 w b u0 u1 u2) lo hi T s v n xs :=
  ((h.setOut (p := ⟨b, 0, none⟩) hb u0).setOut (p := ⟨b, 1, none⟩) hb u1).setOut (p := ⟨b, 2, none⟩) hb u2
set_option maxHeartbeats 8000000 in
theorem steepest_c (g : Gr) (A : Option Addr) (n c B : Nat) (cell : Nat) (w : World) (hg : GS w B g A n c) (hok : g.ok = true) (hc : cell < n) :
    Calls Try.prog 70 #[g.val A n c, .int .i64 cell] w fun e w' => e = .returned (.tuple #[(bestV (bestL g cell (nextTo g cell 8))).val, .bool (bestL g cell (nextTo g cell 8)).isSome]) ∧ Below w.heap.size w w' := by
  have HN := Lib.hid fun W (hW : Below w.heap.size w W) => next_c g A n c B cell W (hg.below hW) hok hc
  have HOK := Lib.hid (Gr.ok_bd hok)
  have HL := Lib.hid hg.len
  have HG := Lib.hid hg
  obtain ⟨X, hX⟩ : ∃ X, X = ((w.alloc (.cells (g.cells A n c) 26)).alloc (.cells #[.int .i64 0, .int .i64 0, .int .i64 0] 85)).alloc (.cells #[.int .i64 0, .int .i64 0, .int .i64 0] 85) := ⟨_, rfl⟩
  have HT : Hid (Below w.heap.size w X) := Lib.hid (by rw [hX]; exact (((Below.refl w.heap.size w).alloc (Nat.le_refl _) _).alloc (by simp) _).alloc (by simp <;> omega) _)
  have hs : X.heap.size = w.heap.size + 1 + 1 + 1 := by rw [hX]; simp
  have HK0 : Hid (Blk X w.heap.size 26 (g.cells A n c)) := Lib.hid (by rw [hX]; exact ((Blk.new _ _ _).alloc _).alloc _)
  have HK1 : Hid (Blk X (w.heap.size + 1) 85 #[.int .i64 0, .int .i64 0, .int .i64 0]) := Lib.hid (by
    have h := (Blk.new (w.alloc (.cells (g.cells A n c) 26)) 85 #[.int .i64 0, .int .i64 0, .int .i64 0]).alloc (.cells #[.int .i64 0, .int .i64 0, .int .i64 0] 85)
    rw [hX]; simpa using h)
  have HK2 : Hid (Blk X (w.heap.size + 1 + 1) 85 #[.int .i64 0, .int .i64 0, .int .i64 0]) := Lib.hid (by
    have h := Blk.new ((w.alloc (.cells (g.cells A n c) 26)).alloc (.cells #[.int .i64 0, .int .i64 0, .int .i64 0] 85)) 85 #[.int .i64 0, .int .i64 0, .int .i64 0]
    rw [hX]; simpa using h)
  have HX := Lib.hid hX
  clear hX
  have hbig := hg.big
  clear hg hok
  simp only [Gr.val, Gr.cells] at *
  go_enter Try.func70, Try.ntmps70
  go_wp2_with fail
  rw [← HX.out]
  refine (HN.out X HT.out).mono ?_
  rintro e w2 ⟨A2, m, c2, rfl, O2, hm, B2⟩
  have HO := Lib.hid O2
  have HLM := Lib.hid (HO.out.reads.stpLen)
  have hs2 := B2.size
  have HT2 := Lib.hid (HT.out.trans (B2.mono HT.out.size))
  replace HK0 := Lib.hid (HK0.out.below B2 (by omega))
  replace HK1 := Lib.hid (HK1.out.below B2 (by omega))
  replace HK2 := Lib.hid (HK2.out.below B2 (by omega))
  clear O2 B2
  go_wp2
  go_loopw [7, 14] (fun f i wr => ∃ j : Nat, j ≤ m ∧ i = .int .i64 j ∧ f = .bool (bestL g cell ((nextTo g cell 8).take j)).isSome ∧ Hid (Blk wr w.heap.size 26 #[.int .i64 g.rows, .int .i64 g.cols, .int .i64 g.size, .slice A n c]) ∧ Hid (Blk wr (w.heap.size + 1) 85 #[.int .i64 0, .int .i64 0, .int .i64 0]) ∧ Hid (Blk wr (w.heap.size + 1 + 1) 85 #[.int .i64 (bestV (bestL g cell ((nextTo g cell 8).take j))).cell, .int .i64 (bestV (bestL g cell ((nextTo g cell 8).take j))).dir, .int .i64 (bestV (bestL g cell ((nextTo g cell 8).take j))).slope]) ∧ Hid (Below w.heap.size w wr) ∧ Hid (Own wr X.heap.size w2.heap.size 85 3 (.slice A2 m c2) m (stps (nextTo g cell 8))) ∧ w2.heap.size ≤ wr.heap.size) (fun _ i _ => m - (intOf i).toNat)
  case atStart => exact ⟨0, Nat.zero_le _, rfl, rfl, HK0, HK1, HK2, HT2, HO, Nat.le_refl _⟩
  case round =>
    clear HK0 HK1 HK2 HO HN HX HT HT2
    obtain ⟨j, hj, rfl, rfl, HK0, HK1, HK2, HT, HO, hsr⟩ := hrel
    by_cases hlt : j < m
    · obtain ⟨ad, x, rfl, hbl, hx, hc9⟩ := HO.out.reads.stp hlt
      unfold StpAt at hc9
      obtain ⟨c0, c1, c2'⟩ := hc9
      obtain ⟨t, htc, ht⟩ := next_cell HOK.out hx
      have HN := Lib.hid (show bestL g cell ((nextTo g cell 8).take (j + 1)) = bestS g cell (bestL g cell ((nextTo g cell 8).take j)) x from by rw [List.take_add_one, hx]; exact bestL_snoc g cell _ x)
      clear hx
      obtain ⟨xc, xd, xs⟩ := x
      simp only at htc c0 c1 c2'
      subst htc
      rw [HL.out] at ht
      obtain ⟨W1, hW1⟩ : ∃ W1, W1 = wr.alloc (.cells #[.int .i64 t, .int .i64 xd, .int .i64 xs] 85) := ⟨_, rfl⟩
      have K3 : Hid (Blk W1 wr.heap.size 85 #[.int .i64 t, .int .i64 xd, .int .i64 xs]) := Lib.hid (by rw [hW1]; exact Blk.new _ _ _)
      have B1 : Below wr.heap.size wr W1 := by rw [hW1]; exact (Below.refl _ _).alloc (Nat.le_refl _) _
      have hsz1 : W1.heap.size = wr.heap.size + 1 := by rw [hW1]; simp
      have HW1 := Lib.hid hW1; clear hW1
      go_upto_region 6 with (fail)
      rw [← HW1.out]
      clear c0 c1 c2' HW1
      replace HT := Lib.hid (HT.out.trans (B1.mono HT.out.size))
      replace HK0 := Lib.hid (HK0.out.below B1 (by omega))
      replace HK1 := Lib.hid (HK1.out.below B1 (by omega))
      replace HK2 := Lib.hid (HK2.out.below B1 (by omega))
      replace HO := Lib.hid (HO.out.below B1 hsr)
      clear B1
      obtain ⟨ah, hah, _, g1⟩ := (HG.out.below HT.out).at_ ht
      obtain ⟨ah', e', _, g2⟩ := (HG.out.below HT.out).at_ hc
      obtain rfl : ah = ah' := by rw [hah] at e'; injection e'
      have y0 : W1.cell? ⟨w.heap.size, 3, none⟩ = some (.slice A n c) := HK0.out.cell 3
      have y1 : W1.cell? ⟨wr.heap.size, 0, none⟩ = some (.int .i64 t) := K3.out.cell 0
      have y2 : W1.cell? ⟨wr.heap.size, 1, none⟩ = some (.int .i64 xd) := K3.out.cell 1
      have y3 : W1.cell? ⟨wr.heap.size, 2, none⟩ = some (.int .i64 xs) := K3.out.cell 2
      have y4 := HK2.out.cell 2
      have y5 := HK2.out.cell 0
      have y6 := HK2.out.cell 1
      have f0 := HK2.out.frozen 0
      have f1 := HK2.out.frozen 1
      have f2 := HK2.out.frozen 2
      subst hah
      clear e'
      have hc' : (cell : Int) < (n : Int) := by omega
      have ht' : (t : Int) < (n : Int) := by omega
      by_cases hh : hAt g t < hAt g cell
      · have hd : decide (hAt g t < hAt g cell) = true := by simpa using hh
        cases hbst : bestL g cell ((nextTo g cell 8).take j) with
        | none =>
          have HV : Hid (bestL g cell ((nextTo g cell 8).take (j + 1)) = some ⟨t, xd, xs⟩) := Lib.hid (by rw [HN.out, hbst, bestS, if_pos ⟨hh, rfl⟩])
          have hS0 : (none : Option Stp).isSome = false := rfl
          rw [hbst, bestV_none] at HK2 y4 y5 y6
          rw [hS0]
          clear hbst hh
          go_quiet (fail)
          go_wp2
          go_roundw
          case rel => exact ⟨j + 1, by omega, by go_num, by rw [HV.out]; rfl, Lib.hid (set3_far (HK0.out.drewN _) (by omega) _ _ _), Lib.hid (set3_far (HK1.out.drewN _) (by omega) _ _ _), Lib.hid (by rw [HV.out]; exact set3_blk (HK2.out.drewN _) _ _ _), Lib.hid (set3_below (below_drewN HT.out _) (by omega) _ _ _), Lib.hid (set3_own (HO.out.below (below_drewN (Below.refl W1.heap.size W1) _) (by omega)) (by omega) _ _ _), Nat.le_trans (show w2.heap.size ≤ W1.heap.size from by omega) (Nat.le_of_eq (set3_size (W1.drewN _) (w.heap.size + 1 + 1) _ _ _).symm)⟩
          case measure => simp [intOf]; omega
        | some y =>
          have hS0 : (some y : Option Stp).isSome = true := rfl
          have hS1 : bestV (some y) = y := rfl
          rw [hbst, hS1] at HK2 y4 y5 y6
          rw [hS0]
          replace y4 : W1.cell? ⟨w.heap.size + 1 + 1, 2, none⟩ = some (.int .i64 y.slope) := y4
          replace y5 : W1.cell? ⟨w.heap.size + 1 + 1, 0, none⟩ = some (.int .i64 y.cell) := y5
          replace y6 : W1.cell? ⟨w.heap.size + 1 + 1, 1, none⟩ = some (.int .i64 y.dir) := y6
          by_cases hsl : y.slope < xs
          · have HV : Hid (bestL g cell ((nextTo g cell 8).take (j + 1)) = some ⟨t, xd, xs⟩) := Lib.hid (by rw [HN.out, hbst, bestS, if_pos ⟨hh, by simpa [beats] using hsl⟩])
            clear hbst hh hS0 hS1
            go_quiet (fail)
            go_wp2
            go_roundw
            case rel => exact ⟨j + 1, by omega, by go_num, by rw [HV.out]; rfl, Lib.hid (set3_far (HK0.out.drewN _) (by omega) _ _ _), Lib.hid (set3_far (HK1.out.drewN _) (by omega) _ _ _), Lib.hid (by rw [HV.out]; exact set3_blk (HK2.out.drewN _) _ _ _), Lib.hid (set3_below (below_drewN HT.out _) (by omega) _ _ _), Lib.hid (set3_own (HO.out.below (below_drewN (Below.refl W1.heap.size W1) _) (by omega)) (by omega) _ _ _), Nat.le_trans (show w2.heap.size ≤ W1.heap.size from by omega) (Nat.le_of_eq (set3_size (W1.drewN _) (w.heap.size + 1 + 1) _ _ _).symm)⟩
            case measure => simp [intOf]; omega
          · have HV : Hid (bestL g cell ((nextTo g cell 8).take (j + 1)) = some y) := Lib.hid (by rw [HN.out, hbst, bestS, if_neg (fun h => hsl (by simpa [beats] using h.2))])
            clear hbst hh hS0 hS1
            go_quiet (fail)
            go_wp2
            go_roundw
            case rel => exact ⟨j + 1, by omega, by go_num, by rw [HV.out]; rfl, Lib.hid (HK0.out.drewN _), Lib.hid (HK1.out.drewN _), Lib.hid (by rw [HV.out]; exact HK2.out.drewN _), Lib.hid (below_drewN HT.out _), Lib.hid (HO.out.below (below_drewN (Below.refl W1.heap.size W1) _) (by omega)), by simp; omega⟩
            case measure => simp [intOf]; omega
      · have hd : decide (hAt g t < hAt g cell) = false := by simpa using hh
        have HV : Hid (bestL g cell ((nextTo g cell 8).take (j + 1)) = bestL g cell ((nextTo g cell 8).take j)) := Lib.hid (by rw [HN.out, bestS, if_neg (fun h => hh h.1)])
        generalize bestL g cell ((nextTo g cell 8).take j) = bb at *
        clear hh
        go_quiet (fail)
        go_wp2
        go_roundw
        case rel => exact ⟨j + 1, by omega, by go_num, by rw [HV.out], Lib.hid (HK0.out.drewN _), Lib.hid (HK1.out.drewN _), Lib.hid (by rw [HV.out]; exact HK2.out.drewN _), Lib.hid (below_drewN HT.out _), Lib.hid (HO.out.below (below_drewN (Below.refl W1.heap.size W1) _) (by omega)), by simp; omega⟩
        case measure => simp [intOf]; omega
    · obtain rfl : j = m := by omega
      rw [List.take_of_length_le (by have := HLM.out; omega)] at HK2 ⊢
      obtain ⟨bb, hbb⟩ : ∃ bb, bestL g cell (nextTo g cell 8) = bb := ⟨_, rfl⟩
      rw [hbb] at HK2 ⊢
      have HBB := Lib.hid hbb
      clear hbb
      have y1 : wr.cell? ⟨w.heap.size + 1 + 1, 0, none⟩ = some (.int .i64 (bestV bb).cell) := HK2.out.cell 0
      have y2 : wr.cell? ⟨w.heap.size + 1 + 1, 1, none⟩ = some (.int .i64 (bestV bb).dir) := HK2.out.cell 1
      have y3 : wr.cell? ⟨w.heap.size + 1 + 1, 2, none⟩ = some (.int .i64 (bestV bb).slope) := HK2.out.cell 2
      have z1 : wr.cell? ⟨w.heap.size + 1, 0, none⟩ = some (.int .i64 0) := HK1.out.cell 0
      have z2 : wr.cell? ⟨w.heap.size + 1, 1, none⟩ = some (.int .i64 0) := HK1.out.cell 1
      have z3 : wr.cell? ⟨w.heap.size + 1, 2, none⟩ = some (.int .i64 0) := HK1.out.cell 2
      have f0 := HK1.out.frozen 0
      have f1 := HK1.out.frozen 1
      have f2 := HK1.out.frozen 2
      go_wp2
      have hk := set3_blk HK1.out (.int .i64 (bestV bb).cell) (.int .i64 (bestV bb).dir) (.int .i64 (bestV bb).slope)
      have hbl := set3_below (lo := w.heap.size) (b := w.heap.size + 1) HT.out (by omega) (.int .i64 (bestV bb).cell) (.int .i64 (bestV bb).dir) (.int .i64 (bestV bb).slope)
      simp only [set3] at hk hbl
      refine bodyPost_ret (v := .tuple #[(bestV bb).val, .bool bb.isSome]) (by
        have q0 := hk.cell 0
        have q1 := hk.cell 1
        have q2 := hk.cell 2
        simp at q0 q1 q2
        simp [results, Try.results70, go_sem, q0, q1, q2, Stp.val]) rfl ?_
      exact ⟨by rw [HBB.out], hbl⟩
end Go.Proofs.Ytaoomildopmclaa
