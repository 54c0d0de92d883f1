/- The cell in a direction, by the reference (l09Go); the direction to a cell (l09Way); the steepest one (l09Steepest). -/
import Derived.Test.YtaoomildopmclaaGrN
import Derived.Deep.RegionHeld3
namespace Go.Proofs.Ytaoomildopmclaa
open Go.ChangeShapes Go.WideShapes Go.ChangeAt Go.RowKit
set_option linter.unusedVariables false

def RowsPost (v : Int) (a : Nat) (w : World) (e : Ending) (w' : World) : Prop := ∃ gl, e = .returned (.slice (some ⟨gl, 0, none⟩) 8 8) ∧ w'.cell? ⟨gl, a, none⟩ = some (.int .i64 v) ∧ Below w.heap.size w w'
theorem l09Rows_at (a : Nat) (ha : a < 8) (w : World) : Calls Try.prog 87 #[] w (RowsPost (dR a) a w) :=
  (l09Rows_c w).mono fun e w' ⟨he, hw⟩ => ⟨w.heap.size, he, by rw [hw]; exact rows_cell w a ha, by rw [hw]; exact (Below.refl _ _).alloc (Nat.le_refl _) _⟩
theorem l09Columns_at (a : Nat) (ha : a < 8) (w : World) : Calls Try.prog 88 #[] w (RowsPost (dC a) a w) :=
  (l09Columns_c w).mono fun e w' ⟨he, hw⟩ => ⟨w.heap.size, he, by rw [hw]; exact columns_cell w a ha, by rw [hw]; exact (Below.refl _ _).alloc (Nat.le_refl _) _⟩
set_option maxHeartbeats 4000000 in
theorem l09Go_c (g : Gr) (b : Nat) (A : Option Addr) (n c B : Nat) (cell a : Nat) (w : World) (hg : GP w b B g A n c) (hok : g.ok = true) (hc : cell < n) (ha : a < 8) :
    Calls Try.prog 69 #[.pointer (some ⟨b, 0, none⟩), .int .i64 cell, .int .i64 a] w fun e w' => e = .returned (.int .i64 (goV g cell a)) ∧ Below w.heap.size w w' := by
  have hb := Gr.ok_bd hok
  have hl := hg.gs.len
  obtain ⟨⟨q1, q2⟩, m1, m2⟩ := cell_bd (cell := (cell : Int)) hb (by omega) (by omega)
  have hdr := dR_bd a
  have hdc := dC_bd a
  have r0 := hb.r0; have r1 := hb.r1; have c0 := hb.c0; have c1 := hb.c1
  have hbd := fun h => goB_bd (g := g) (cell := (cell : Int)) (a := a) hb h
  have HG := Lib.hid (show goV g cell a = if goB g cell a then rowT g cell a * g.cols + colT g cell a else -1 from rfl)
  have HBB := Lib.hid (show goB g cell a = (inB (rowT g cell a) 0 (g.rows - 1) && inB (colT g cell a) 0 (g.cols - 1)) from rfl)
  have HR := Lib.hid (show rowT g cell a = (cell : Int) / g.cols + dR a from rfl)
  have HC := Lib.hid (show colT g cell a = (cell : Int) % g.cols + dC a from rfl)
  have HGP := Lib.hid hg
  have hbl := hg.blk.lt
  have d1 : Int.tdiv (cell : Int) g.cols = (cell : Int) / g.cols := Int.tdiv_eq_ediv_of_nonneg (by omega)
  have d2 : Int.tmod (cell : Int) g.cols = (cell : Int) % g.cols := Int.tmod_eq_emod_of_nonneg (by omega)
  rw [HR.out] at HBB HG hbd
  rw [HC.out] at HBB HG hbd
  clear HR HC hg hok hb hl
  generalize goV g cell a = gv at *
  generalize goB g cell a = gb at *
  generalize (cell : Int) / g.cols = q at *
  generalize (cell : Int) % g.cols = m at *
  have e1 : IntKind.i64.wrap (q + dR a) = q + dR a := IntWalk.i64_in _ (by omega)
  have e2 : IntKind.i64.wrap (m + dC a) = m + dC a := IntWalk.i64_in _ (by omega)
  have e3 : IntKind.i64.wrap q = q := IntWalk.i64_in _ (by omega)
  have e4 : IntKind.i64.wrap m = m := IntWalk.i64_in _ (by omega)
  have ha1 : (0 : Int) ≤ (a : Int) := by omega
  have ha2 : (a : Int) < 8 := by omega
  have x1 := HGP.out.c
  have x0 := HGP.out.r
  have hz0 : (g.cols == 0) = false := by simp; omega
  have hz1 : g.cols ≠ 0 := by omega
  have hrc := fun W => rows_cell W a ha
  have hcc : ∀ (h : a < [Value.int IntKind.i64 0, Value.int IntKind.i64 1, Value.int IntKind.i64 1, Value.int IntKind.i64 1, Value.int IntKind.i64 0, Value.int IntKind.i64 (-1), Value.int IntKind.i64 (-1), Value.int IntKind.i64 (-1)].length), [Value.int IntKind.i64 0, Value.int IntKind.i64 1, Value.int IntKind.i64 1, Value.int IntKind.i64 1, Value.int IntKind.i64 0, Value.int IntKind.i64 (-1), Value.int IntKind.i64 (-1), Value.int IntKind.i64 (-1)][a]'h = .int .i64 (dC a) := by
    intro h
    have h8 : a = 0 ∨ a = 1 ∨ a = 2 ∨ a = 3 ∨ a = 4 ∨ a = 5 ∨ a = 6 ∨ a = 7 := by omega
    rcases h8 with rfl | rfl | rfl | rfl | rfl | rfl | rfl | rfl <;> rfl
  have hp := mul_bd (a := q + dR a + 1) (b := g.cols) (A := 65) (B := 8) (by omega) (by omega) (by omega) (by omega)
  rw [show (q + dR a + 1) * g.cols = (q + dR a) * g.cols + g.cols from by rw [Int.add_mul (q + dR a) 1 g.cols]; omega] at hp
  obtain ⟨hp1, hp2⟩ := hp
  have HBD := Lib.hid hbd; clear hbd
  go_enter Try.func69, Try.ntmps69
  go_wp2
  go_region_with ((go_at_call 87; refine (l09Rows_c _).mono ?_; rintro e w1 ⟨rfl, rfl⟩))
  all_goals
    go_wp2
    go_region_with ((go_at_call 88; refine (l09Columns_c _).mono ?_; rintro e w1 ⟨rfl, rfl⟩))
  all_goals
    go_wp2_with (go_at_call 81; refine (l00In_c _ _ _ _).mono ?_; rintro e w' ⟨rfl, rfl⟩)
  all_goals go_ret
  all_goals
    refine ⟨ret_int ?_, ?_⟩
    · rw [HG.out, HBB.out]
      clear e1 e2 e3 e4 hrc hcc d1 d2 HG HBB x0 x1 hz0 hz1 HGP HBD
      simp_all
    · repeat' first | exact Below.refl _ _ | refine Below.drew ?_ | refine Below.alloc ?_ (by simp <;> omega) _
end Go.Proofs.Ytaoomildopmclaa
