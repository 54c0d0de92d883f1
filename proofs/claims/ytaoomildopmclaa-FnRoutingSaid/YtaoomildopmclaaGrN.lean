/- Steps from a cell to those next to it: plain mathematics, and the reference's functions l09Go, l09Fall. -/
import Derived.Test.YtaoomildopmclaaGrA
namespace Go.Proofs.Ytaoomildopmclaa
open Go.ChangeShapes Go.WideShapes Go.ChangeAt Go.RowKit
set_option linter.unusedVariables false

def dR : Nat → Int
  | 0 => -1 | 1 => -1 | 2 => 0 | 3 => 1 | 4 => 1 | 5 => 1 | 6 => 0 | 7 => -1 | _ => 0
def dC : Nat → Int
  | 0 => 0 | 1 => 1 | 2 => 1 | 3 => 1 | 4 => 0 | 5 => -1 | 6 => -1 | 7 => -1 | _ => 0
theorem dR_bd (a : Nat) : -1 ≤ dR a ∧ dR a ≤ 1 := by unfold dR; split <;> omega
theorem dC_bd (a : Nat) : -1 ≤ dC a ∧ dC a ≤ 1 := by unfold dC; split <;> omega
def rowT (g : Gr) (cell : Int) (a : Nat) : Int := cell / g.cols + dR a
def colT (g : Gr) (cell : Int) (a : Nat) : Int := cell % g.cols + dC a
def goB (g : Gr) (cell : Int) (a : Nat) : Bool := inB (rowT g cell a) 0 (g.rows - 1) && inB (colT g cell a) 0 (g.cols - 1)
def goV (g : Gr) (cell : Int) (a : Nat) : Int := if goB g cell a then rowT g cell a * g.cols + colT g cell a else -1
def hAt (g : Gr) (i : Int) : Int := (g.hs[i.toNat]?).getD 0
def fallV (g : Gr) (cell to_ : Int) (a : Nat) : Int :=
  if a % 2 = 1 then rnd (1000000 * (hAt g cell - hAt g to_)) (1414 * g.size) else rnd (1000 * (hAt g cell - hAt g to_)) g.size
theorem cell_bd {g : Gr} {cell : Int} (h : GrOk g) (h0 : 0 ≤ cell) (h1 : cell < g.hs.length) : (0 ≤ cell / g.cols ∧ cell / g.cols ≤ 63) ∧ (0 ≤ cell % g.cols ∧ cell % g.cols ≤ 7) := by
  have hl := h.len64
  have hc0 := h.c0
  have hc1 := h.c1
  have e1 := Int.ediv_nonneg h0 (show 0 ≤ g.cols by omega)
  have e2 := Int.ediv_le_self g.cols h0
  have e3 := Int.emod_nonneg cell (show g.cols ≠ 0 by omega)
  have e4 := Int.emod_lt_of_pos cell (show 0 < g.cols by omega)
  omega
theorem goB_bd {g : Gr} {cell : Int} {a : Nat} (hg : GrOk g) (h : goB g cell a = true) : (0 ≤ rowT g cell a ∧ rowT g cell a ≤ 7) ∧ (0 ≤ colT g cell a ∧ colT g cell a ≤ 7) ∧ (0 ≤ rowT g cell a * g.cols ∧ rowT g cell a * g.cols ≤ 56) ∧
    0 ≤ goV g cell a ∧ goV g cell a < g.hs.length := by
  simp only [goB, Bool.and_eq_true] at h
  have h1 := inB_bd h.1
  have h2 := inB_bd h.2
  have hr1 := hg.r1
  have hc0 := hg.c0
  have hc1 := hg.c1
  have m := mul_bd (a := rowT g cell a) (b := g.cols) (A := 7) (B := 8) (by omega) (by omega) (by omega) (by omega)
  have m2 : rowT g cell a * g.cols ≤ (g.rows - 1) * g.cols := Int.mul_le_mul_of_nonneg_right h1.2 (by omega)
  have e : (g.rows - 1) * g.cols = g.rows * g.cols - g.cols := by rw [Int.sub_mul]; omega
  have hgo : goV g cell a = rowT g cell a * g.cols + colT g cell a := by rw [goV, if_pos (by simp [goB, h.1, h.2])]
  have := hg.len
  rw [hgo]
  omega
theorem goV_cases {g : Gr} {cell : Int} {a : Nat} (hg : GrOk g) : (goB g cell a = false ∧ goV g cell a = -1) ∨ (goB g cell a = true ∧ 0 ≤ goV g cell a ∧ goV g cell a < g.hs.length) := by
  cases h : goB g cell a
  · left; exact ⟨rfl, by rw [goV, h]; rfl⟩
  · right; exact ⟨rfl, (goB_bd hg h).2.2.2⟩
theorem hAt_get {g : Gr} {i : Nat} {z : Int} (h : g.hs[i]? = some z) : hAt g (i : Int) = z := by rw [hAt, Int.toNat_natCast, h]; rfl
theorem hAt_bd {g : Gr} (hg : GrOk g) (i : Int) : 0 ≤ hAt g i ∧ hAt g i ≤ 5000 := by
  unfold hAt
  cases h : g.hs[i.toNat]? with
  | none => simp
  | some z => exact inB_bd (List.all_eq_true.1 hg.hs z (List.mem_of_getElem? h))
theorem rnd_abs {a b M : Int} (h0 : -M ≤ a) (h1 : a ≤ M) (hM : 0 ≤ M) (hb : 0 < b) : -(M + 1) ≤ rnd a b ∧ rnd a b ≤ M + 1 := by
  by_cases ha : 0 ≤ a
  · have := rnd_nn ha hb; have := rnd_le ha hb; omega
  · obtain ⟨c, rfl⟩ : ∃ c, a = -c := ⟨-a, by omega⟩
    rw [rnd_neg (by omega) hb]
    have e1 := Int.ediv_nonneg (show 0 ≤ c by omega) (show 0 ≤ b by omega)
    have e2 := Int.ediv_le_self b (show 0 ≤ c by omega)
    split <;> omega
theorem fallV_bd {g : Gr} (hg : GrOk g) (cell to_ : Int) (a : Nat) : -5000000001 ≤ fallV g cell to_ a ∧ fallV g cell to_ a ≤ 5000000001 := by
  have h1 := hAt_bd hg cell
  have h2 := hAt_bd hg to_
  have hs := hg.s0
  unfold fallV
  split
  · exact rnd_abs (M := 5000000000) (by omega) (by omega) (by omega) (by omega)
  · have := rnd_abs (a := 1000 * (hAt g cell - hAt g to_)) (b := g.size) (M := 5000000) (by omega) (by omega) (by omega) (by omega); omega

/-- the height of a cell, in memory -/
theorem GS.at_ {w : World} {B : Nat} {g : Gr} {A : Option Addr} {n c : Nat} (h : GS w B g A n c) {i : Nat} (hi : i < n) : ∃ ad, A = some ad ∧ ad.block < B ∧ w.cell? (ad.add i) = some (.int .i64 (hAt g i)) := by
  obtain ⟨ad, z, h1, h2, h3, h4⟩ := h.rd.int hi
  exact ⟨ad, h1, h2, by rw [hAt_get h3]; exact h4⟩

theorem l09Rows_c (w : World) : Calls Try.prog 87 #[] w fun e w' => e = .returned (.slice (some ⟨w.heap.size, 0, none⟩) 8 8) ∧ w' = w.alloc (.cells #[.int .i64 (-1), .int .i64 (-1), .int .i64 0, .int .i64 1, .int .i64 1, .int .i64 1, .int .i64 0, .int .i64 (-1)] 2) := by
  go_enter Try.func87, Try.ntmps87
  go_wp2
  go_ret
  exact ⟨rfl, rfl⟩
theorem l09Columns_c (w : World) : Calls Try.prog 88 #[] w fun e w' => e = .returned (.slice (some ⟨w.heap.size, 0, none⟩) 8 8) ∧ w' = w.alloc (.cells #[.int .i64 0, .int .i64 1, .int .i64 1, .int .i64 1, .int .i64 0, .int .i64 (-1), .int .i64 (-1), .int .i64 (-1)] 2) := by
  go_enter Try.func88, Try.ntmps88
  go_wp2
  go_ret
  exact ⟨rfl, rfl⟩
theorem rows_cell (w : World) (a : Nat) (ha : a < 8) : (w.alloc (.cells #[.int .i64 (-1), .int .i64 (-1), .int .i64 0, .int .i64 1, .int .i64 1, .int .i64 1, .int .i64 0, .int .i64 (-1)] 2)).cell? ⟨w.heap.size, a, none⟩ = some (.int .i64 (dR a)) := by
  have h := (Blk.new w 2 #[.int .i64 (-1), .int .i64 (-1), .int .i64 0, .int .i64 1, .int .i64 1, .int .i64 1, .int .i64 0, .int .i64 (-1)]).cell a
  rw [h]
  have h8 : a = 0 ∨ a = 1 ∨ a = 2 ∨ a = 3 ∨ a = 4 ∨ a = 5 ∨ a = 6 ∨ a = 7 := by omega
  rcases h8 with rfl | rfl | rfl | rfl | rfl | rfl | rfl | rfl <;> rfl
theorem columns_cell (w : World) (a : Nat) (ha : a < 8) : (w.alloc (.cells #[.int .i64 0, .int .i64 1, .int .i64 1, .int .i64 1, .int .i64 0, .int .i64 (-1), .int .i64 (-1), .int .i64 (-1)] 2)).cell? ⟨w.heap.size, a, none⟩ = some (.int .i64 (dC a)) := by
  have h := (Blk.new w 2 #[.int .i64 0, .int .i64 1, .int .i64 1, .int .i64 1, .int .i64 0, .int .i64 (-1), .int .i64 (-1), .int .i64 (-1)]).cell a
  rw [h]
  have h8 : a = 0 ∨ a = 1 ∨ a = 2 ∨ a = 3 ∨ a = 4 ∨ a = 5 ∨ a = 6 ∨ a = 7 := by omega
  rcases h8 with rfl | rfl | rfl | rfl | rfl | rfl | rfl | rfl <;> rfl
set_option maxHeartbeats 1000000 in
theorem l09Fall_c (g : Gr) (b : Nat) (A : Option Addr) (n c B : Nat) (cell to_ a : Nat) (w : World) (hg : GP w b B g A n c) (hok : g.ok = true) (hc : cell < n) (ht : to_ < n) (ha : a < 8) :
    Calls Try.prog 57 #[.pointer (some ⟨b, 0, none⟩), .int .i64 cell, .int .i64 to_, .int .i64 a] w fun e w' => e = .returned (.int .i64 (fallV g cell to_ a)) ∧ ∃ q, w' = w.drewN q := by
  have hb := Gr.ok_bd hok
  have x2 := hg.s
  have x3 := hg.h
  obtain ⟨ad, rfl, _, c1⟩ := hg.gs.at_ hc
  obtain ⟨ad', e', _, c2⟩ := hg.gs.at_ ht
  obtain rfl : ad = ad' := by injection e'
  obtain ⟨h1, h2⟩ := hAt_bd hb cell
  obtain ⟨h3, h4⟩ := hAt_bd hb to_
  have s0 := hb.s0
  have s1 := hb.s1
  have hbig := hg.gs.big
  have hc' : (cell : Int) < (n : Int) := by omega
  have ht' : (to_ : Int) < (n : Int) := by omega
  have e1 : IntKind.i64.wrap (hAt g cell - hAt g to_) = hAt g cell - hAt g to_ := IntWalk.i64_in _ (by omega)
  have HF := Lib.hid (show fallV g cell to_ a = if a % 2 = 1 then rnd (1000000 * (hAt g cell - hAt g to_)) (1414 * g.size) else rnd (1000 * (hAt g cell - hAt g to_)) g.size from rfl)
  clear hg hok hb e'
  generalize hAt g cell = p at *
  generalize hAt g to_ = q at *
  generalize fallV g cell to_ a = f at *
  by_cases hpar : a % 2 = 1
  · rw [if_pos hpar] at HF
    have hp2 : (a : Int) % 2 = 1 := by omega
    have HP := Lib.hid hp2
    have hp3 : ((a : Int) % 2 == 1) = true := by simp; omega
    clear hpar hp2
    go_enter Try.func57, Try.ntmps57
    go_wp2
    go_quiet (fail)
    clear e1
    go_wp2_with fail
    refine (l01Div_c _ _ _ (by omega) (by omega) (by omega) (by omega)).mono ?_
    rintro e w' ⟨rfl, rfl⟩
    go_wp2
    go_ret
    exact ⟨ret_int (by rw [HF.out]; congr 1 <;> omega), _, rfl⟩
  · rw [if_neg hpar] at HF
    have hp3 : ((a : Int) % 2 == 1) = false := by simp; omega
    clear hpar
    go_enter Try.func57, Try.ntmps57
    go_wp2
    go_quiet (fail)
    clear e1
    go_wp2_with fail
    refine (l01Div_c _ _ _ (by omega) (by omega) (by omega) (by omega)).mono ?_
    rintro e w' ⟨rfl, rfl⟩
    go_wp2
    go_ret
    exact ⟨ret_int (by rw [HF.out]; congr 1 <;> omega), _, rfl⟩
end Go.Proofs.Ytaoomildopmclaa
