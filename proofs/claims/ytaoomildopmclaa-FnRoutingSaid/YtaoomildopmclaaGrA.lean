/- Grids: validity, codes, sums: the program's functions and the reference's compute the same. -/
import Derived.Test.YtaoomildopmclaaGrV
import Derived.Test.YtaoomildopmclaaNum
import Derived.Test.YtaoomildopmclaaSl
namespace Go.Proofs.Ytaoomildopmclaa
open Go.ChangeShapes Go.WideShapes Go.ChangeAt Go.RowKit
set_option linter.unusedVariables false

theorem gquiet_b {P : Program} {f : FuncId} {args : Array Value} {w : World} {v : Value} (h : Calls P f args w fun e w' => e = .returned v ∧ w = w') :
    Calls P f args w fun e w' => e = .returned v ∧ Below w.heap.size w w' := h.mono fun _ _ ⟨he, hw⟩ => ⟨he, by subst hw; exact Below.refl _ _⟩
theorem gdrew_b {P : Program} {f : FuncId} {args : Array Value} {w : World} {v : Value} (h : Calls P f args w fun e w' => e = .returned v ∧ ∃ q, w' = w.drewN q) :
    Calls P f args w fun e w' => e = .returned v ∧ Below w.heap.size w w' := h.mono fun _ _ ⟨he, q, hw⟩ => ⟨he, by subst hw; exact below_drewN (Below.refl _ _) _⟩
theorem inB_bd {n low high : Int} (h : inB n low high = true) : low ≤ n ∧ n ≤ high := by simpa [inB] using h
theorem inB_no {n low high : Int} (h : inB n low high = false) : n < low ∨ high < n := by simp [inB] at h; omega

def Gr.dims (g : Gr) : Bool := inB g.rows 1 8 && inB g.cols 1 8 && inB g.size 1 100
def Gr.ok (g : Gr) : Bool := g.dims && decide ((g.hs.length : Int) = g.rows * g.cols) && allInB 0 5000 g.hs
structure GrOk (g : Gr) : Prop where
  r0 : 1 ≤ g.rows
  r1 : g.rows ≤ 8
  c0 : 1 ≤ g.cols
  c1 : g.cols ≤ 8
  s0 : 1 ≤ g.size
  s1 : g.size ≤ 100
  len : (g.hs.length : Int) = g.rows * g.cols
  hs : allInB 0 5000 g.hs = true
theorem Gr.ok_bd {g : Gr} (h : g.ok = true) : GrOk g := by
  simp only [Gr.ok, Gr.dims, Bool.and_eq_true, decide_eq_true_eq] at h
  obtain ⟨⟨⟨⟨h1, h2⟩, h3⟩, h4⟩, h5⟩ := h
  have := inB_bd h1; have := inB_bd h2; have := inB_bd h3
  exact ⟨by omega, by omega, by omega, by omega, by omega, by omega, h4, h5⟩
theorem GrOk.len64 {g : Gr} (h : GrOk g) : g.hs.length ≤ 64 ∧ 1 ≤ g.hs.length := by
  have m := mul_bd (a := g.rows) (b := g.cols) (A := 8) (B := 8) (by have := h.r0; omega) h.r1 (by have := h.c0; omega) h.c1
  have m5 : 1 * 1 ≤ g.rows * g.cols := Int.mul_le_mul h.r0 h.c0 (by omega) (by have := h.r0; omega)
  have := h.len
  omega
/-- the grid g lies in memory: its heights as a row below block B -/
structure GS (w : World) (B : Nat) (g : Gr) (A : Option Addr) (n c : Nat) : Prop where
  rd : Reads w B 1 A n (ints g.hs)
  hB : B ≤ w.heap.size
  nc : n ≤ c
  big : n ≤ 1048576
theorem GS.below {w w' : World} {B : Nat} {g : Gr} {A : Option Addr} {n c : Nat} (h : GS w B g A n c) (hb : Below w.heap.size w w') : GS w' B g A n c := ⟨h.rd.below (hb.mono h.hB), Nat.le_trans h.hB hb.size, h.nc, h.big⟩
theorem GS.len {w : World} {B : Nat} {g : Gr} {A : Option Addr} {n c : Nat} (h : GS w B g A n c) : g.hs.length = n := h.rd.len
theorem GS.of_own {w : World} {lo hi : Nat} {T : TypeId} {g : Gr} {A : Option Addr} {n c : Nat} (h : Own w lo hi T 1 (.slice A n c) n (ints g.hs)) (hh : hi ≤ w.heap.size) (hn : n ≤ 1048576) : GS w hi g A n c := by
  obtain ⟨A', c', e, h1, _⟩ := h.slice
  injection e with e1 e2 e3
  exact ⟨h.reads, hh, by omega, hn⟩
/-- the box that a call by value makes of a grid -/
def gbox (g : Gr) (A : Option Addr) (n c : Nat) : Obj := .cells (g.cells A n c) 26

set_option maxHeartbeats 2000000 in
theorem iValidGrid_c (g : Gr) (A : Option Addr) (n c B : Nat) (w : World) (hg : GS w B g A n c) :
    Calls Try.prog 77 #[g.val A n c] w fun e w' => e = .returned (.bool g.ok) ∧ Below w.heap.size w w' := by
  have HA := Lib.hid fun W (hW : Below w.heap.size w W) => allWithin_c A n c B g.hs 0 5000 W (hg.below hW).rd (hg.below hW).hB (by have := hg.big; omega)
  have HL := Lib.hid hg.len
  have hbig := hg.big
  clear hg
  have HOK : Hid (g.ok = (g.dims && decide ((n : Int) = g.rows * g.cols) && allInB 0 5000 g.hs)) := Lib.hid (by rw [Gr.ok, HL.out])
  obtain ⟨r, co, s, hs⟩ := g
  simp only [Gr.val, Gr.cells, Gr.dims] at *
  cases h1 : inB r 1 8
  · go_enter Try.func77, Try.ntmps77
    go_wp2_with (go_at_call 65; refine (within_c _ _ _ _).mono ?_; rintro e w' ⟨rfl, rfl⟩)
    go_ret
    exact ⟨ret_bool (by rw [HOK.out, h1]; simp), by go_grown⟩
  cases h2 : inB co 1 8
  · go_enter Try.func77, Try.ntmps77
    go_wp2_with (go_at_call 65; refine (within_c _ _ _ _).mono ?_; rintro e w' ⟨rfl, rfl⟩)
    go_ret
    exact ⟨ret_bool (by rw [HOK.out, h2]; simp), by go_grown⟩
  cases h3 : inB s 1 100
  · go_enter Try.func77, Try.ntmps77
    go_wp2_with (go_at_call 65; refine (within_c _ _ _ _).mono ?_; rintro e w' ⟨rfl, rfl⟩)
    go_ret
    exact ⟨ret_bool (by rw [HOK.out, h3]; simp), by go_grown⟩
  have b1 := inB_bd h1
  have b2 := inB_bd h2
  obtain ⟨m1, m2⟩ := mul_bd (a := r) (b := co) (A := 8) (B := 8) (by omega) (by omega) (by omega) (by omega)
  by_cases hn : (n : Int) = r * co
  · have hq : ((n : Int) == r * co) = true := by simpa using hn
    have HN := Lib.hid hn; clear hn
    go_enter Try.func77, Try.ntmps77
    go_wp2_with (go_at_call 65; refine (within_c _ _ _ _).mono ?_; rintro e w' ⟨rfl, rfl⟩)
    refine (HA.out _ ((Below.refl _ _).alloc (Nat.le_refl _) _)).mono ?_
    rintro e w1 ⟨rfl, hb1⟩
    have HB := Lib.hid hb1; clear hb1
    go_wp2
    go_ret
    exact ⟨ret_bool (by rw [HOK.out, h1, h2, h3]; simp [HN.out]), ((Below.refl _ _).alloc (Nat.le_refl _) _).trans (HB.out.mono (by simp))⟩
  · have hq : ((n : Int) == r * co) = false := by simpa using hn
    have HN := Lib.hid hn; clear hn
    go_enter Try.func77, Try.ntmps77
    go_wp2_with (go_at_call 65; refine (within_c _ _ _ _).mono ?_; rintro e w' ⟨rfl, rfl⟩)
    go_ret
    exact ⟨ret_bool (by rw [HOK.out]; simp [HN.out]), by go_grown⟩
/-- a grid behind a pointer: its box and its row -/
structure GP (w : World) (b B : Nat) (g : Gr) (A : Option Addr) (n c : Nat) : Prop where
  blk : Blk w b 26 (g.cells A n c)
  gs : GS w B g A n c
theorem GP.below {w w' : World} {b B : Nat} {g : Gr} {A : Option Addr} {n c : Nat} (h : GP w b B g A n c) (hb : Below w.heap.size w w') : GP w' b B g A n c := ⟨h.blk.below hb h.blk.lt, h.gs.below hb⟩
theorem GP.new {w : World} {B : Nat} {g : Gr} {A : Option Addr} {n c : Nat} (h : GS w B g A n c) : GP (w.alloc (.cells (g.cells A n c) 26)) w.heap.size B g A n c := ⟨Blk.new _ _ _, h.below ((Below.refl _ _).alloc (Nat.le_refl _) _)⟩
theorem GP.r {w : World} {b B : Nat} {g : Gr} {A : Option Addr} {n c : Nat} (h : GP w b B g A n c) : w.cell? ⟨b, 0, none⟩ = some (.int .i64 g.rows) := h.blk.cell 0
theorem GP.c {w : World} {b B : Nat} {g : Gr} {A : Option Addr} {n c : Nat} (h : GP w b B g A n c) : w.cell? ⟨b, 1, none⟩ = some (.int .i64 g.cols) := h.blk.cell 1
theorem GP.s {w : World} {b B : Nat} {g : Gr} {A : Option Addr} {n c : Nat} (h : GP w b B g A n c) : w.cell? ⟨b, 2, none⟩ = some (.int .i64 g.size) := h.blk.cell 2
theorem GP.h {w : World} {b B : Nat} {g : Gr} {A : Option Addr} {n c : Nat} (h : GP w b B g A n c) : w.cell? ⟨b, 3, none⟩ = some (.slice A n c) := h.blk.cell 3

set_option maxHeartbeats 4000000 in
theorem l09Ok_c (g : Gr) (b : Nat) (A : Option Addr) (n c B : Nat) (w : World) (hg : GP w b B g A n c) :
    Calls Try.prog 59 #[.pointer (some ⟨b, 0, none⟩)] w fun e w' => e = .returned (.bool g.ok) ∧ ∃ q, w' = w.drewN q := by
  have HL := Lib.hid hg.gs.len
  have hbig := hg.gs.big
  have HOK : Hid (g.ok = (g.dims && decide ((n : Int) = g.rows * g.cols) && allInB 0 5000 g.hs)) := Lib.hid (by rw [Gr.ok, HL.out])
  have x0 := hg.r
  have x1 := hg.c
  have x2 := hg.s
  have x3 := hg.h
  have HG := Lib.hid hg
  clear hg
  obtain ⟨r, co, s, hs⟩ := g
  simp only [Gr.dims] at *
  cases h1 : inB r 1 8
  · go_enter Try.func59, Try.ntmps59
    go_wp2
    go_quiet ((go_at_call 81; exact quiet_left (l00In_c _ _ _ _)))
    go_wp2
    go_ret
    exact ⟨ret_bool (by rw [HOK.out, h1]; simp), _, rfl⟩
  cases h2 : inB co 1 8
  · go_enter Try.func59, Try.ntmps59
    go_wp2
    go_quiet ((go_at_call 81; exact quiet_left (l00In_c _ _ _ _)))
    go_wp2
    go_ret
    exact ⟨ret_bool (by rw [HOK.out, h2]; simp), _, rfl⟩
  cases h3 : inB s 1 100
  · go_enter Try.func59, Try.ntmps59
    go_wp2
    go_quiet ((go_at_call 81; exact quiet_left (l00In_c _ _ _ _)))
    go_wp2
    go_ret
    exact ⟨ret_bool (by rw [HOK.out, h3]; simp), _, rfl⟩
  have b1 := inB_bd h1
  have b2 := inB_bd h2
  obtain ⟨m1, m2⟩ := mul_bd (a := r) (b := co) (A := 8) (B := 8) (by omega) (by omega) (by omega) (by omega)
  have e1 : IntKind.i64.wrap (r * co) = r * co := IntWalk.i64_in _ (by omega)
  by_cases hn : (n : Int) = r * co
  · have hq : ((n : Int) != r * co) = false := by simpa using hn
    have HN := Lib.hid hn; clear hn
    go_enter Try.func59, Try.ntmps59
    go_wp2
    go_quiet ((go_at_call 81; exact quiet_left (l00In_c _ _ _ _)))
    have H1 := Lib.hid h1
    have H2 := Lib.hid h2
    have H3 := Lib.hid h3
    clear e1 h1 h2 h3
    go_wp2
    go_loopw [3] (fun i wr => ∃ k q : Nat, k ≤ n ∧ i = .int .i64 k ∧ Hid (allInB 0 5000 (hs.take k) = true) ∧ wr = w.drewN q) (fun i _ => n - (intOf i).toNat)
    case atStart => exact ⟨0, _, Nat.zero_le _, rfl, Lib.hid rfl, rfl⟩
    case round =>
      obtain ⟨k, q, hk, rfl, HA, rfl⟩ := hrel
      by_cases hlt : k < n
      · obtain ⟨ad, z, rfl, hbl, hz, hc⟩ := HG.out.gs.rd.int hlt
        have HZ := Lib.hid hz
        clear hz
        cases hi : inB z 0 5000
        · have HI := Lib.hid hi; clear hi
          go_wp2_with fail
          refine (l00In_c _ _ _ _).mono ?_
          rintro e w' ⟨rfl, rfl⟩
          rw [HI.out]
          go_wp2
          go_ret
          refine ⟨ret_bool ?_, _, rfl⟩
          have : allInB 0 5000 hs = false := List.all_eq_false.2 ⟨z, List.mem_of_getElem? HZ.out, by simp [HI.out]⟩
          rw [HOK.out, this]; simp
        · have HI := Lib.hid hi; clear hi
          go_wp2_with fail
          refine (l00In_c _ _ _ _).mono ?_
          rintro e w' ⟨rfl, rfl⟩
          rw [HI.out]
          go_wp2
          go_roundw
          case rel => exact ⟨k + 1, _, by omega, by go_num, Lib.hid (by have h := HA.out; unfold allInB at h ⊢; rw [List.take_add_one, HZ.out, List.all_append, h]; simp [HI.out]), rfl⟩
          case measure => simp [intOf]; omega
      · obtain rfl : k = n := by omega
        have hall : allInB 0 5000 hs = true := by
          have h := HA.out
          rwa [List.take_of_length_le (by have := HL.out; omega)] at h
        have HALL := Lib.hid hall
        clear hall
        go_wp2
        go_ret
        exact ⟨ret_bool (by rw [HOK.out, H1.out, H2.out, H3.out, HALL.out]; simp [HN.out]), _, rfl⟩
  · have hq : ((n : Int) != r * co) = true := by simpa using hn
    have HN := Lib.hid hn; clear hn
    go_enter Try.func59, Try.ntmps59
    go_wp2
    go_quiet ((go_at_call 81; exact quiet_left (l00In_c _ _ _ _)))
    go_wp2
    go_ret
    exact ⟨ret_bool (by rw [HOK.out]; simp [HN.out]), _, rfl⟩
/-! ### cells, codes -/
def inG (g : Gr) (cell : Int) : Bool := inB cell 0 ((g.hs.length : Int) - 1)
def askG (g : Gr) (cell : Int) : Int := if g.ok = false then 1 else if inG g cell = false then 2 else 0
def codeG (g : Gr) (cells : List Int) : Int := if g.ok = false then 1 else if allInB 0 ((g.hs.length : Int) - 1) cells = false then 2 else 0
theorem codeG_one (g : Gr) (cell : Int) : codeG g [cell] = askG g cell := by
  unfold codeG askG inG
  rw [show allInB 0 ((g.hs.length : Int) - 1) [cell] = inB cell 0 ((g.hs.length : Int) - 1) from by simp [allInB]]
theorem askG_zero {g : Gr} {cell : Int} (h : askG g cell = 0) : g.ok = true ∧ 0 ≤ cell ∧ cell < g.hs.length := by
  unfold askG at h
  cases h1 : g.ok
  · rw [h1] at h; simp at h
  · cases h2 : inG g cell
    · rw [h1, h2] at h; simp at h
    · have := inB_bd h2; exact ⟨rfl, by omega, by omega⟩
theorem l09Cell_c (g : Gr) (b : Nat) (A : Option Addr) (n c B : Nat) (cell : Int) (w : World) (hg : GP w b B g A n c) (hok : g.ok = true) :
    Calls Try.prog 55 #[.pointer (some ⟨b, 0, none⟩), .int .i64 cell] w fun e w' => e = .returned (.bool (inG g cell)) ∧ ∃ q, w' = w.drewN q := by
  have x0 := hg.r
  have x1 := hg.c
  have hb := Gr.ok_bd hok
  obtain ⟨m1, m2⟩ := mul_bd (a := g.rows) (b := g.cols) (A := 8) (B := 8) (by have := hb.r0; omega) hb.r1 (by have := hb.c0; omega) hb.c1
  have HI : Hid (inG g cell = inB cell 0 (g.rows * g.cols - 1)) := Lib.hid (by rw [inG, hb.len])
  have e1 : IntKind.i64.wrap (g.rows * g.cols) = g.rows * g.cols := IntWalk.i64_in _ (by omega)
  have e2 : IntKind.i64.wrap (g.rows * g.cols - 1) = g.rows * g.cols - 1 := IntWalk.i64_in _ (by omega)
  clear hg hok hb
  go_enter Try.func55, Try.ntmps55
  go_wp2
  go_quiet ((go_at_call 81; exact quiet_left (l00In_c _ _ _ _)))
  go_wp2
  go_ret
  exact ⟨ret_bool HI.out.symm, _, rfl⟩
theorem l09Ask_c (g : Gr) (b : Nat) (A : Option Addr) (n c B : Nat) (cell : Int) (w : World) (hg : GP w b B g A n c) :
    Calls Try.prog 53 #[.pointer (some ⟨b, 0, none⟩), .int .i64 cell] w fun e w' => e = .returned (.int .i64 (askG g cell)) ∧ ∃ q, w' = w.drewN q := by
  have HO := Lib.hid (l09Ok_c g b A n c B w hg)
  have HC := Lib.hid fun q => l09Cell_c g b A n c B cell (w.drewN q) (hg.below (below_drewN (Below.refl _ _) q))
  clear hg
  cases h1 : g.ok
  · have H1 := Lib.hid h1; clear h1
    go_enter Try.func53, Try.ntmps53
    go_wp2_with fail
    refine HO.out.mono ?_
    rintro e w' ⟨rfl, q, rfl⟩
    rw [H1.out]
    go_wp2
    go_ret
    exact ⟨ret_int (by rw [askG, if_pos H1.out]), _, rfl⟩
  · have H1 := Lib.hid h1; clear h1
    cases h2 : inG g cell
    all_goals
      have H2 := Lib.hid h2; clear h2
      go_enter Try.func53, Try.ntmps53
      go_wp2_with fail
      refine HO.out.mono ?_
      rintro e w' ⟨rfl, q, rfl⟩
      rw [H1.out]
      go_wp2_with fail
      refine (HC.out q H1.out).mono ?_
      rintro e w' ⟨rfl, q', rfl⟩
      rw [H2.out]
      go_wp2
      go_ret
      exact ⟨ret_int (by rw [askG, H1.out, H2.out]; rfl), _, rfl⟩
set_option maxHeartbeats 1000000 in
theorem gcode_c (g : Gr) (A : Option Addr) (n c B : Nat) (D : Option Addr) (m d BD : Nat) (cells : List Int) (w : World) (hg : GS w B g A n c) (hd : Reads w BD 1 D m (ints cells)) (hD : BD ≤ w.heap.size) (hm : m ≤ 1152921504606846976) :
    Calls Try.prog 64 #[g.val A n c, .slice D m d] w fun e w' => e = .returned (.int .i64 (codeG g cells)) ∧ Below w.heap.size w w' := by
  have HV := Lib.hid fun W (hW : Below w.heap.size w W) => iValidGrid_c g A n c B W (hg.below hW)
  have HA := Lib.hid fun W (hW : Below w.heap.size w W) => allWithin_c D m d BD cells 0 ((n : Int) - 1) W (hd.below (hW.mono hD)) (by have := hW.size; omega) hm
  have HL := Lib.hid hg.len
  have hbig := hg.big
  clear hg hd
  have HK := Lib.hid (Blk.new w 26 (g.cells A n c))
  have HT := Lib.hid ((Below.refl w.heap.size w).alloc (Nat.le_refl _) (.cells (g.cells A n c) 26))
  have HS : Hid ((w.alloc (.cells (g.cells A n c) 26)).heap.size = w.heap.size + 1) := Lib.hid (by simp)
  cases h1 : g.ok
  · have H1 := Lib.hid h1; clear h1
    have HR := Lib.hid (show codeG g cells = 1 from by rw [codeG, if_pos H1.out])
    obtain ⟨r, co, s, hs⟩ := g
    simp only [Gr.val, Gr.cells] at *
    go_enter Try.func64, Try.ntmps64
    go_wp2_with fail
    refine (HV.out _ HT.out).mono ?_
    rintro e w1 ⟨rfl, hb1⟩
    rw [H1.out]
    have HB := Lib.hid hb1; clear hb1
    go_wp2
    go_ret
    exact ⟨ret_int HR.out.symm, HT.out.trans (HB.out.mono (by rw [HS.out]; omega))⟩
  · have H1 := Lib.hid h1; clear h1
    cases h2 : allInB 0 ((g.hs.length : Int) - 1) cells
    all_goals
      first
        | have HR := Lib.hid (show codeG g cells = 2 from by rw [codeG, H1.out, h2]; rfl)
        | have HR := Lib.hid (show codeG g cells = 0 from by rw [codeG, H1.out, h2]; rfl)
      rw [HL.out] at h2
      have H2 := Lib.hid h2; clear h2
      obtain ⟨r, co, s, hs⟩ := g
      simp only [Gr.val, Gr.cells] at *
      go_enter Try.func64, Try.ntmps64
      go_wp2_with fail
      refine (HV.out _ HT.out).mono ?_
      rintro e w1 ⟨rfl, hb1⟩
      rw [H1.out]
      have x3 : w1.cell? ⟨w.heap.size, 3, none⟩ = some (.slice A n c) := (HK.out.below hb1 (by rw [HS.out]; omega)).cell 3
      have HB := Lib.hid (HT.out.trans (hb1.mono (by rw [HS.out]; omega))); clear hb1
      go_wp2_with fail
      refine (HA.out w1 HB.out).mono ?_
      rintro e w2 ⟨rfl, hb2⟩
      rw [H2.out]
      have HB2 := Lib.hid hb2; clear hb2 x3
      go_wp2
      go_ret
      exact ⟨ret_int HR.out.symm, HB.out.trans (HB2.out.mono HB.out.size)⟩
end Go.Proofs.Ytaoomildopmclaa
