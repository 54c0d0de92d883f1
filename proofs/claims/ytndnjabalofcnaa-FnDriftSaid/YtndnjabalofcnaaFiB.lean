/- The cell behind the wind, by the program (lee) and by the reference (l06Next). -/
import Derived.Test.YtndnjabalofcnaaFiA
namespace Go.Proofs.Ytndnjabalofcnaa
open Go.ChangeShapes Go.WideShapes Go.ChangeAt Go.RowKit
set_option linter.unusedVariables false

def leeR (g : Fi) (cell d : Int) : Int := (if d = 0 then cell / g.cols + 1 else if d = 2 then cell / g.cols - 1 else cell / g.cols)
def leeC (g : Fi) (cell d : Int) : Int := (if d = 1 then cell % g.cols - 1 else if d = 3 then cell % g.cols + 1 else cell % g.cols)
def leeB (g : Fi) (cell d : Int) : Bool := inB (leeR g cell d) 0 (g.rows - 1) && inB (leeC g cell d) 0 (g.cols - 1)
def leeV (g : Fi) (cell d : Int) : Int := if leeB g cell d then leeR g cell d * g.cols + leeC g cell d else -1
theorem cell_bd {g : Fi} {cell : Int} (h : FiOk g) (h0 : 0 ≤ cell) (h1 : cell < g.hs.length) : (0 ≤ cell / g.cols ∧ cell / g.cols ≤ 63) ∧ (0 ≤ cell % g.cols ∧ cell % g.cols ≤ 7) := by
  have hl := h.len64
  have hc0 := h.c0
  have hc1 := h.c1
  have e1 := Int.ediv_nonneg h0 (show 0 ≤ g.cols by omega)
  have e2 := Int.ediv_le_self g.cols h0
  have e3 := Int.emod_nonneg cell (show g.cols ≠ 0 by omega)
  have e4 := Int.emod_lt_of_pos cell (show 0 < g.cols by omega)
  omega
theorem leeB_bd {g : Fi} {cell d : Int} (hg : FiOk g) (h : leeB g cell d = true) : (0 ≤ leeR g cell d ∧ leeR g cell d ≤ 7) ∧ (0 ≤ leeC g cell d ∧ leeC g cell d ≤ 7) ∧ (0 ≤ leeR g cell d * g.cols ∧ leeR g cell d * g.cols ≤ 56) ∧
    0 ≤ leeV g cell d ∧ leeV g cell d < g.hs.length := by
  have hb := h
  simp only [leeB, Bool.and_eq_true] at h
  have h1 := inB_bd h.1
  have h2 := inB_bd h.2
  have hr1 := hg.r1
  have hc0 := hg.c0
  have hc1 := hg.c1
  have m := mul_bd (a := leeR g cell d) (b := g.cols) (A := 7) (B := 8) (by omega) (by omega) (by omega) (by omega)
  have m2 : leeR g cell d * g.cols ≤ (g.rows - 1) * g.cols := Int.mul_le_mul_of_nonneg_right h1.2 (by omega)
  have e : (g.rows - 1) * g.cols = g.rows * g.cols - g.cols := by rw [Int.sub_mul]; omega
  have hgo : leeV g cell d = leeR g cell d * g.cols + leeC g cell d := by rw [leeV, if_pos hb]
  have := hg.len
  rw [hgo]
  omega
theorem leeV_cases {g : Fi} {cell d : Int} (hg : FiOk g) : leeV g cell d = -1 ∨ (0 ≤ leeV g cell d ∧ leeV g cell d < g.hs.length) := by
  cases h : leeB g cell d
  · left; rw [leeV, h]; rfl
  · right; exact (leeB_bd hg h).2.2.2
theorem inB_lt {n hi : Int} : inB n 0 (hi - 1) = (!decide (n < 0) && !decide (n ≥ hi)) := by
  rw [Bool.eq_iff_iff]; simp [inB]; omega
set_option maxHeartbeats 4000000 in
theorem lee_c (g : Fi) (A : Option Addr) (n c B : Nat) (cell : Nat) (d : Int) (w : World) (hg : GS w B g A n c) (hok : FiOk g) (hc : cell < n) (h0 : 0 ≤ d) (h3 : d ≤ 3) :
    Calls Try.prog 70 #[g.val A n c, .int .i64 cell, .int .i64 d] w fun e w' => e = .returned (.int .i64 (leeV g cell d)) ∧ Below w.heap.size w w' := by
  have hl := hg.len
  obtain ⟨⟨q1, q2⟩, m1, m2⟩ := cell_bd (cell := (cell : Int)) hok (by omega) (by omega)
  have r0 := hok.r0; have r1 := hok.r1; have c0 := hok.c0; have c1 := hok.c1
  have HB := Lib.hid fun h => leeB_bd (g := g) (cell := (cell : Int)) (d := d) hok h
  have HG := Lib.hid (show leeV g cell d = if leeB g cell d then leeR g cell d * g.cols + leeC g cell d else -1 from rfl)
  have HBB := Lib.hid (show leeB g cell d = (inB (leeR g cell d) 0 (g.rows - 1) && inB (leeC g cell d) 0 (g.cols - 1)) from rfl)
  have HR := Lib.hid (show leeR g cell d = (if d = 0 then (cell : Int) / g.cols + 1 else if d = 2 then (cell : Int) / g.cols - 1 else (cell : Int) / g.cols) from rfl)
  have HC := Lib.hid (show leeC g cell d = (if d = 1 then (cell : Int) % g.cols - 1 else if d = 3 then (cell : Int) % g.cols + 1 else (cell : Int) % g.cols) from rfl)
  have d1 : Int.tdiv (cell : Int) g.cols = (cell : Int) / g.cols := Int.tdiv_eq_ediv_of_nonneg (by omega)
  have d2 : Int.tmod (cell : Int) g.cols = (cell : Int) % g.cols := Int.tmod_eq_emod_of_nonneg (by omega)
  have hcl : (cell : Int) ≤ 64 := by have := hok.len64; omega
  clear hl hg hok
  generalize leeV g cell d = gv at *
  generalize leeB g cell d = gb at *
  generalize leeR g cell d = lr at *
  generalize leeC g cell d = lc at *
  generalize (cell : Int) / g.cols = q at *
  generalize (cell : Int) % g.cols = m at *
  have e3 : IntKind.i64.wrap q = q := IntWalk.i64_in _ (by omega)
  have e4 : IntKind.i64.wrap m = m := IntWalk.i64_in _ (by omega)
  have hz1 : g.cols ≠ 0 := by omega
  have hz0 : (g.cols == 0) = false := by simp; omega
  obtain ⟨b1, hb1⟩ : ∃ b1, inB lr 0 (g.rows - 1) = b1 := ⟨_, rfl⟩
  obtain ⟨b2, hb2⟩ : ∃ b2, inB lc 0 (g.cols - 1) = b2 := ⟨_, rfl⟩
  rw [hb1, hb2] at HBB
  have H1 := Lib.hid hb1
  have H2 := Lib.hid hb2
  clear hb1 hb2
  obtain ⟨r, co, hs⟩ := g
  simp only [Fi.val, Fi.cells] at *
  have hd4 : d = 0 ∨ d = 1 ∨ d = 2 ∨ d = 3 := by omega
  rcases hd4 with rfl | rfl | rfl | rfl
  all_goals
    simp only [if_true, if_false, Int.reduceEq] at HR HC
    have HR2 := HR.out
    have HC2 := HC.out
    subst HR2 HC2
    clear HR HC
    go_enter Try.func70, Try.ntmps70
    go_wp2
    go_quiet (fail)
    clear e3 e4 d1 d2
  all_goals
    cases b1
    · obtain rfl : gb = false := by rw [HBB.out]; rfl
      have hgv : gv = -1 := by rw [HG.out]; rfl
      clear HB HG HBB
      go_wp2_with (go_at_call 52; refine (within_c _ _ _ _).mono ?_; rintro e w' ⟨rfl, rfl⟩; rw [H1.out])
      go_ret
      exact ⟨ret_int hgv.symm, below_drewN ((Below.refl _ _).alloc (Nat.le_refl _) _) _⟩
    · cases b2
      · obtain rfl : gb = false := by rw [HBB.out]; rfl
        have hgv : gv = -1 := by rw [HG.out]; rfl
        clear HB HG HBB
        go_wp2_with (go_at_call 52; refine (within_c _ _ _ _).mono ?_; rintro e w' ⟨rfl, rfl⟩; first | rw [H1.out] | rw [H2.out])
        go_ret
        exact ⟨ret_int hgv.symm, below_drewN ((Below.refl _ _).alloc (Nat.le_refl _) _) _⟩
      · obtain rfl : gb = true := by rw [HBB.out]; rfl
        have hbd := HB.out rfl
        have hgv : gv = _ := HG.out
        simp only [if_true] at hgv
        have HGV := Lib.hid hgv
        clear HB HG HBB hgv
        go_wp2_with (go_at_call 52; refine (within_c _ _ _ _).mono ?_; rintro e w' ⟨rfl, rfl⟩; first | rw [H1.out] | rw [H2.out])
        go_ret
        exact ⟨ret_int HGV.out.symm, below_drewN ((Below.refl _ _).alloc (Nat.le_refl _) _) _⟩
set_option maxHeartbeats 4000000 in
theorem l06Next_c (g : Fi) (b : Nat) (A : Option Addr) (n c B : Nat) (cell : Nat) (d : Int) (w : World) (hg : GP w b B g A n c) (hok : FiOk g) (hc : cell < n) (h0 : 0 ≤ d) (h3 : d ≤ 3) :
    Calls Try.prog 66 #[.pointer (some ⟨b, 0, none⟩), .int .i64 cell, .int .i64 d] w fun e w' => e = .returned (.int .i64 (leeV g cell d)) ∧ w = w' := by
  have hl := hg.gs.len
  obtain ⟨⟨q1, q2⟩, m1, m2⟩ := cell_bd (cell := (cell : Int)) hok (by omega) (by omega)
  have r0 := hok.r0; have r1 := hok.r1; have c0 := hok.c0; have c1 := hok.c1
  have HB := Lib.hid fun h => leeB_bd (g := g) (cell := (cell : Int)) (d := d) hok h
  have HG := Lib.hid (show leeV g cell d = if leeB g cell d then leeR g cell d * g.cols + leeC g cell d else -1 from rfl)
  have HBB := Lib.hid (show leeB g cell d = (inB (leeR g cell d) 0 (g.rows - 1) && inB (leeC g cell d) 0 (g.cols - 1)) from rfl)
  have HR := Lib.hid (show leeR g cell d = (if d = 0 then (cell : Int) / g.cols + 1 else if d = 2 then (cell : Int) / g.cols - 1 else (cell : Int) / g.cols) from rfl)
  have HC := Lib.hid (show leeC g cell d = (if d = 1 then (cell : Int) % g.cols - 1 else if d = 3 then (cell : Int) % g.cols + 1 else (cell : Int) % g.cols) from rfl)
  have d1 : Int.tdiv (cell : Int) g.cols = (cell : Int) / g.cols := Int.tdiv_eq_ediv_of_nonneg (by omega)
  have d2 : Int.tmod (cell : Int) g.cols = (cell : Int) % g.cols := Int.tmod_eq_emod_of_nonneg (by omega)
  have hcl : (cell : Int) ≤ 64 := by have := hok.len64; omega
  have x0 := hg.r
  have x1 := hg.c
  clear hl hg hok
  generalize leeV g cell d = gv at *
  generalize leeB g cell d = gb at *
  generalize leeR g cell d = lr at *
  generalize leeC g cell d = lc at *
  generalize (cell : Int) / g.cols = q at *
  generalize (cell : Int) % g.cols = m at *
  have hz1 : g.cols ≠ 0 := by omega
  have hz0 : (g.cols == 0) = false := by simp; omega
  rw [inB_lt, inB_lt] at HBB
  obtain ⟨r, co, hs⟩ := g
  simp only at *
  have hd4 : d = 0 ∨ d = 1 ∨ d = 2 ∨ d = 3 := by omega
  rcases hd4 with rfl | rfl | rfl | rfl
  all_goals
    simp only [if_true, if_false, Int.reduceEq] at HR HC
    have HR2 := HR.out
    have HC2 := HC.out
    subst HR2 HC2
    clear HR HC
    cases gb
    · have hgv : gv = -1 := by rw [HG.out]; rfl
      have HX := HBB.out
      clear HB HG HBB
      simp only [Bool.false_eq, Bool.and_eq_false_iff, Bool.not_eq_false', decide_eq_true_eq] at HX
      go_enter Try.func66, Try.ntmps66
      go_wp2
      all_goals first | (exfalso; omega) | (go_ret; exact ⟨ret_int (by first | rfl | exact hgv.symm), rfl⟩)
    · have hbd := HB.out rfl
      have hgv : gv = _ := HG.out
      simp only [if_true] at hgv
      have HGV := Lib.hid hgv
      have HX := HBB.out
      clear HB HG HBB hgv
      simp only [Bool.true_eq, Bool.and_eq_true, Bool.not_eq_true', decide_eq_false_iff_not] at HX
      go_enter Try.func66, Try.ntmps66
      go_wp2
      all_goals first | (exfalso; omega) | (go_ret; exact ⟨ret_int (by first | rfl | exact HGV.out.symm), rfl⟩)
end Go.Proofs.Ytndnjabalofcnaa
