/- Fields: validity, codes, the cell behind the wind: the program's functions and the reference's compute the same. -/
import Derived.Test.YtndnjabalofcnaaFiV
import Derived.Test.YtndnjabalofcnaaNum
import Derived.Test.YtndnjabalofcnaaSl
namespace Go.Proofs.Ytndnjabalofcnaa
open Go.ChangeShapes Go.WideShapes Go.ChangeAt Go.RowKit
set_option linter.unusedVariables false

theorem gquiet_b {P : Program} {f : FuncId} {args : Array Value} {w : World} {v : Value} (h : Calls P f args w fun e w' => e = .returned v ∧ w = w') :
    Calls P f args w fun e w' => e = .returned v ∧ Below w.heap.size w w' := h.mono fun _ _ ⟨he, hw⟩ => ⟨he, by subst hw; exact Below.refl _ _⟩
theorem gdrew_b {P : Program} {f : FuncId} {args : Array Value} {w : World} {v : Value} (h : Calls P f args w fun e w' => e = .returned v ∧ ∃ q, w' = w.drewN q) :
    Calls P f args w fun e w' => e = .returned v ∧ Below w.heap.size w w' := h.mono fun _ _ ⟨he, q, hw⟩ => ⟨he, by subst hw; exact below_drewN (Below.refl _ _) _⟩
theorem inB_bd {n low high : Int} (h : inB n low high = true) : low ≤ n ∧ n ≤ high := by simpa [inB] using h
theorem inB_no {n low high : Int} (h : inB n low high = false) : n < low ∨ high < n := by simp [inB] at h; omega

def Fi.dims (g : Fi) : Bool := inB g.rows 1 8 && inB g.cols 1 8
def Fi.ok (g : Fi) : Bool := g.dims && decide ((g.hs.length : Int) = g.rows * g.cols) && allInB 0 1000000 g.hs
structure FiOk (g : Fi) : Prop where
  r0 : 1 ≤ g.rows
  r1 : g.rows ≤ 8
  c0 : 1 ≤ g.cols
  c1 : g.cols ≤ 8
  len : (g.hs.length : Int) = g.rows * g.cols
  hs : allInB 0 1000000 g.hs = true
theorem Fi.ok_bd {g : Fi} (h : g.ok = true) : FiOk g := by
  simp only [Fi.ok, Fi.dims, Bool.and_eq_true, decide_eq_true_eq] at h
  obtain ⟨⟨⟨h1, h2⟩, h4⟩, h5⟩ := h
  have := inB_bd h1; have := inB_bd h2
  exact ⟨by omega, by omega, by omega, by omega, h4, h5⟩
theorem FiOk.len64 {g : Fi} (h : FiOk g) : g.hs.length ≤ 64 ∧ 1 ≤ g.hs.length := by
  have m := mul_bd (a := g.rows) (b := g.cols) (A := 8) (B := 8) (by have := h.r0; omega) h.r1 (by have := h.c0; omega) h.c1
  have m5 : 1 * 1 ≤ g.rows * g.cols := Int.mul_le_mul h.r0 h.c0 (by omega) (by have := h.r0; omega)
  have := h.len
  omega
/-- the grid g lies in memory: its heights as a row below block B -/
structure GS (w : World) (B : Nat) (g : Fi) (A : Option Addr) (n c : Nat) : Prop where
  rd : Reads w B 1 A n (ints g.hs)
  hB : B ≤ w.heap.size
  nc : n ≤ c
  big : n ≤ 1048576
theorem GS.below {w w' : World} {B : Nat} {g : Fi} {A : Option Addr} {n c : Nat} (h : GS w B g A n c) (hb : Below w.heap.size w w') : GS w' B g A n c := ⟨h.rd.below (hb.mono h.hB), Nat.le_trans h.hB hb.size, h.nc, h.big⟩
theorem GS.len {w : World} {B : Nat} {g : Fi} {A : Option Addr} {n c : Nat} (h : GS w B g A n c) : g.hs.length = n := h.rd.len
theorem GS.of_own {w : World} {lo hi : Nat} {T : TypeId} {g : Fi} {A : Option Addr} {n c : Nat} (h : Own w lo hi T 1 (.slice A n c) n (ints g.hs)) (hh : hi ≤ w.heap.size) (hn : n ≤ 1048576) : GS w hi g A n c := by
  obtain ⟨A', c', e, h1, _⟩ := h.slice
  injection e with e1 e2 e3
  exact ⟨h.reads, hh, by omega, hn⟩
/-- the box that a call by value makes of a grid -/
def gbox (g : Fi) (A : Option Addr) (n c : Nat) : Obj := .cells (g.cells A n c) 26

set_option maxHeartbeats 2000000 in
theorem iValidField_c (g : Fi) (A : Option Addr) (n c B : Nat) (w : World) (hg : GS w B g A n c) :
    Calls Try.prog 57 #[g.val A n c] w fun e w' => e = .returned (.bool g.ok) ∧ Below w.heap.size w w' := by
  have HA := Lib.hid fun W (hW : Below w.heap.size w W) => allWithin_c A n c B g.hs 0 1000000 W (hg.below hW).rd (hg.below hW).hB (by have := hg.big; omega)
  have HL := Lib.hid hg.len
  have hbig := hg.big
  clear hg
  have HOK : Hid (g.ok = (g.dims && decide ((n : Int) = g.rows * g.cols) && allInB 0 1000000 g.hs)) := Lib.hid (by rw [Fi.ok, HL.out])
  obtain ⟨r, co, hs⟩ := g
  simp only [Fi.val, Fi.cells, Fi.dims] at *
  cases h1 : inB r 1 8
  · go_enter Try.func57, Try.ntmps57
    go_wp2_with (go_at_call 52; refine (within_c _ _ _ _).mono ?_; rintro e w' ⟨rfl, rfl⟩)
    go_ret
    exact ⟨ret_bool (by rw [HOK.out, h1]; simp), by go_grown⟩
  cases h2 : inB co 1 8
  · go_enter Try.func57, Try.ntmps57
    go_wp2_with (go_at_call 52; refine (within_c _ _ _ _).mono ?_; rintro e w' ⟨rfl, rfl⟩)
    go_ret
    exact ⟨ret_bool (by rw [HOK.out, h2]; simp), by go_grown⟩
  have b1 := inB_bd h1
  have b2 := inB_bd h2
  obtain ⟨m1, m2⟩ := mul_bd (a := r) (b := co) (A := 8) (B := 8) (by omega) (by omega) (by omega) (by omega)
  by_cases hn : (n : Int) = r * co
  · have hq : ((n : Int) == r * co) = true := by simpa using hn
    have HN := Lib.hid hn; clear hn
    go_enter Try.func57, Try.ntmps57
    go_wp2_with (go_at_call 52; refine (within_c _ _ _ _).mono ?_; rintro e w' ⟨rfl, rfl⟩)
    refine (HA.out _ ((Below.refl _ _).alloc (Nat.le_refl _) _)).mono ?_
    rintro e w1 ⟨rfl, hb1⟩
    have HB := Lib.hid hb1; clear hb1
    go_wp2
    go_ret
    exact ⟨ret_bool (by rw [HOK.out, h1, h2]; simp [HN.out]), ((Below.refl _ _).alloc (Nat.le_refl _) _).trans (HB.out.mono (by simp))⟩
  · have hq : ((n : Int) == r * co) = false := by simpa using hn
    have HN := Lib.hid hn; clear hn
    go_enter Try.func57, Try.ntmps57
    go_wp2_with (go_at_call 52; refine (within_c _ _ _ _).mono ?_; rintro e w' ⟨rfl, rfl⟩)
    go_ret
    exact ⟨ret_bool (by rw [HOK.out]; simp [HN.out]), by go_grown⟩
/-- a grid behind a pointer: its box and its row -/
structure GP (w : World) (b B : Nat) (g : Fi) (A : Option Addr) (n c : Nat) : Prop where
  blk : Blk w b 26 (g.cells A n c)
  gs : GS w B g A n c
theorem GP.below {w w' : World} {b B : Nat} {g : Fi} {A : Option Addr} {n c : Nat} (h : GP w b B g A n c) (hb : Below w.heap.size w w') : GP w' b B g A n c := ⟨h.blk.below hb h.blk.lt, h.gs.below hb⟩
theorem GP.new {w : World} {B : Nat} {g : Fi} {A : Option Addr} {n c : Nat} (h : GS w B g A n c) : GP (w.alloc (.cells (g.cells A n c) 26)) w.heap.size B g A n c := ⟨Blk.new _ _ _, h.below ((Below.refl _ _).alloc (Nat.le_refl _) _)⟩
theorem GP.r {w : World} {b B : Nat} {g : Fi} {A : Option Addr} {n c : Nat} (h : GP w b B g A n c) : w.cell? ⟨b, 0, none⟩ = some (.int .i64 g.rows) := h.blk.cell 0
theorem GP.c {w : World} {b B : Nat} {g : Fi} {A : Option Addr} {n c : Nat} (h : GP w b B g A n c) : w.cell? ⟨b, 1, none⟩ = some (.int .i64 g.cols) := h.blk.cell 1
theorem GP.h {w : World} {b B : Nat} {g : Fi} {A : Option Addr} {n c : Nat} (h : GP w b B g A n c) : w.cell? ⟨b, 2, none⟩ = some (.slice A n c) := h.blk.cell 2


theorem l06Mass_c (z : Int) (w : World) : Calls Try.prog 49 #[.int .i64 z] w fun e w' => e = .returned (.bool (inB z 0 1000000)) ∧ w = w' := by
  go_enter Try.func49, Try.ntmps49
  go_wp2_with (go_at_call 44; refine (l00In_c _ _ _ _).mono ?_; rintro e w' ⟨rfl, rfl⟩)
  go_ret
  exact ⟨rfl, rfl⟩
set_option maxHeartbeats 2000000 in
theorem l06Masses_c (g : Fi) (b : Nat) (A : Option Addr) (n c B : Nat) (w : World) (hg : GP w b B g A n c) :
    Calls Try.prog 43 #[.pointer (some ⟨b, 0, none⟩)] w fun e w' => e = .returned (.bool (allInB 0 1000000 g.hs)) ∧ w = w' := by
  have HL := Lib.hid hg.gs.len
  have hbig := hg.gs.big
  have x3 := hg.h
  have HG := Lib.hid hg
  clear hg
  obtain ⟨r, co, hs⟩ := g
  simp only at *
  go_enter Try.func43, Try.ntmps43
  go_wp2
  go_loop [3] (fun i => ∃ k : Nat, k ≤ n ∧ i = .int .i64 k ∧ Hid (allInB 0 1000000 (hs.take k) = true)) (fun i => n - (intOf i).toNat)
  case atStart => exact ⟨0, Nat.zero_le _, rfl, Lib.hid rfl⟩
  case round =>
    obtain ⟨k, hk, rfl, HA⟩ := hrel
    by_cases hlt : k < n
    · obtain ⟨ad, z, rfl, hbl, hz, hc⟩ := HG.out.gs.rd.int hlt
      have HZ := Lib.hid hz
      clear hz
      cases hi : inB z 0 1000000
      · have HI := Lib.hid hi; clear hi
        go_wp2_with fail
        refine (l06Mass_c _ _).mono ?_
        rintro e w' ⟨rfl, rfl⟩
        rw [HI.out]
        go_wp2
        go_ret
        refine ⟨ret_bool ?_, rfl⟩
        exact (List.all_eq_false.2 ⟨z, List.mem_of_getElem? HZ.out, by simp [HI.out]⟩ : allInB 0 1000000 hs = false).symm
      · have HI := Lib.hid hi; clear hi
        go_wp2_with fail
        refine (l06Mass_c _ _).mono ?_
        rintro e w' ⟨rfl, rfl⟩
        rw [HI.out]
        go_wp2
        go_round
        case rel => exact ⟨k + 1, by omega, by go_num, Lib.hid (by have h := HA.out; unfold allInB at h ⊢; rw [List.take_add_one, HZ.out, List.all_append, h]; simp [HI.out])⟩
        case measure => simp [intOf]; omega
    · obtain rfl : k = n := by omega
      have hall : allInB 0 1000000 hs = true := by
        have h := HA.out
        rwa [List.take_of_length_le (by have := HL.out; omega)] at h
      have HALL := Lib.hid hall
      clear hall
      go_wp2
      go_ret
      exact ⟨ret_bool (by rw [HALL.out]), rfl⟩
set_option maxHeartbeats 4000000 in
theorem l06Ok_c (g : Fi) (b : Nat) (A : Option Addr) (n c B : Nat) (w : World) (hg : GP w b B g A n c) :
    Calls Try.prog 39 #[.pointer (some ⟨b, 0, none⟩)] w fun e w' => e = .returned (.bool g.ok) ∧ ∃ q, w' = w.drewN q := by
  have HL := Lib.hid hg.gs.len
  have hbig := hg.gs.big
  have HOK : Hid (g.ok = (g.dims && decide ((n : Int) = g.rows * g.cols) && allInB 0 1000000 g.hs)) := Lib.hid (by rw [Fi.ok, HL.out])
  have x0 := hg.r
  have x1 := hg.c
  have x3 := hg.h
  have HM := Lib.hid fun q => l06Masses_c g b A n c B (w.drewN q) (hg.below (below_drewN (Below.refl _ _) q))
  clear hg
  obtain ⟨r, co, hs⟩ := g
  simp only [Fi.dims] at *
  cases h1 : inB r 1 8
  · go_enter Try.func39, Try.ntmps39
    go_wp2
    go_quiet ((go_at_call 44; exact quiet_left (l00In_c _ _ _ _)))
    go_wp2
    go_ret
    exact ⟨ret_bool (by rw [HOK.out, h1]; simp), _, rfl⟩
  cases h2 : inB co 1 8
  · go_enter Try.func39, Try.ntmps39
    go_wp2
    go_quiet ((go_at_call 44; exact quiet_left (l00In_c _ _ _ _)))
    go_wp2
    go_ret
    exact ⟨ret_bool (by rw [HOK.out, h2]; simp), _, rfl⟩
  have b1 := inB_bd h1
  have b2 := inB_bd h2
  obtain ⟨m1, m2⟩ := mul_bd (a := r) (b := co) (A := 8) (B := 8) (by omega) (by omega) (by omega) (by omega)
  have e1 : IntKind.i64.wrap (r * co) = r * co := IntWalk.i64_in _ (by omega)
  by_cases hn : (n : Int) = r * co
  · have hq : ((n : Int) != r * co) = false := by simpa using hn
    have HN := Lib.hid hn; clear hn
    go_enter Try.func39, Try.ntmps39
    go_wp2
    go_quiet ((go_at_call 44; exact quiet_left (l00In_c _ _ _ _)))
    go_wp2_with fail
    refine (HM.out _).mono ?_
    rintro e w' ⟨rfl, rfl⟩
    go_wp2
    go_ret
    exact ⟨ret_bool (by rw [HOK.out, h1, h2]; simp [HN.out]), _, rfl⟩
  · have hq : ((n : Int) != r * co) = true := by simpa using hn
    have HN := Lib.hid hn; clear hn
    go_enter Try.func39, Try.ntmps39
    go_wp2
    go_quiet ((go_at_call 44; exact quiet_left (l00In_c _ _ _ _)))
    go_wp2
    go_ret
    exact ⟨ret_bool (by rw [HOK.out]; simp [HN.out]), _, rfl⟩
/-! ### the code of a field, directions and a share -/
def gustB (ds : List Int) (share : Int) : Bool := !(decide (24 < ds.length)) && allInB 0 3 ds && inB share 0 1000
def fieldV (g : Fi) (ds : List Int) (share : Int) : Int := if g.ok = false then 1 else if gustB ds share = false then 2 else 0
theorem fieldV_zero {g : Fi} {ds : List Int} {share : Int} (h : fieldV g ds share = 0) : g.ok = true ∧ ds.length ≤ 24 ∧ allInB 0 3 ds = true ∧ 0 ≤ share ∧ share ≤ 1000 := by
  unfold fieldV at h
  cases h1 : g.ok
  · rw [h1] at h; simp at h
  · cases h2 : gustB ds share
    · rw [h1, h2] at h; simp at h
    · simp only [gustB, Bool.and_eq_true, Bool.not_eq_true', decide_eq_false_iff_not] at h2
      have := inB_bd h2.2
      exact ⟨rfl, by omega, h2.1.2, this.1, this.2⟩
set_option maxHeartbeats 2000000 in
theorem fieldCode_c (g : Fi) (A : Option Addr) (n c B : Nat) (D : Option Addr) (m d BD : Nat) (ds : List Int) (share : Int) (w : World)
    (hg : GS w B g A n c) (hd : Reads w BD 1 D m (ints ds)) (hD : BD ≤ w.heap.size) (hm : m ≤ 1048576) :
    Calls Try.prog 45 #[g.val A n c, .slice D m d, .int .i64 share] w fun e w' => e = .returned (.int .i64 (fieldV g ds share)) ∧ Below w.heap.size w w' := by
  have HV := Lib.hid fun W (hW : Below w.heap.size w W) => iValidField_c g A n c B W (hg.below hW)
  have HM := Lib.hid fun W (hW : Below w.heap.size w W) => allWithin_c D m d BD ds 0 3 W (hd.below (hW.mono hD)) (by have := hW.size; omega) (by omega)
  have HLD := hd.len
  clear hg hd
  have HT := Lib.hid ((Below.refl w.heap.size w).alloc (Nat.le_refl _) (.cells (g.cells A n c) 26))
  have HS : Hid ((w.alloc (.cells (g.cells A n c) 26)).heap.size = w.heap.size + 1) := Lib.hid (by simp)
  have HR := Lib.hid (show fieldV g ds share = if g.ok = false then 1 else if (!(decide (24 < m)) && allInB 0 3 ds && inB share 0 1000) = false then 2 else 0 from by rw [fieldV, gustB, HLD])
  clear HLD
  generalize g.ok = ok at *
  generalize fieldV g ds share = rv at *
  generalize allInB 0 3 ds = al at *
  obtain ⟨r, co, hs⟩ := g
  simp only [Fi.val, Fi.cells] at *
  cases ok
  · go_enter Try.func45, Try.ntmps45
    go_wp2_with fail
    refine (HV.out _ HT.out).mono ?_
    rintro e w1 ⟨rfl, hb1⟩
    have HB := Lib.hid hb1; clear hb1
    go_wp2
    go_ret
    exact ⟨ret_int (by rw [HR.out]; rfl), HT.out.trans (HB.out.mono (by rw [HS.out]; omega))⟩
  · by_cases hm24 : 24 < m
    · go_enter Try.func45, Try.ntmps45
      go_wp2_with fail
      refine (HV.out _ HT.out).mono ?_
      rintro e w1 ⟨rfl, hb1⟩
      have HB := Lib.hid (HT.out.trans (hb1.mono (by rw [HS.out]; omega))); clear hb1
      go_wp2
      go_ret
      exact ⟨ret_int (by rw [HR.out]; simp [hm24]), HB.out⟩
    · cases al
      · go_enter Try.func45, Try.ntmps45
        go_wp2_with fail
        refine (HV.out _ HT.out).mono ?_
        rintro e w1 ⟨rfl, hb1⟩
        have HB := Lib.hid (HT.out.trans (hb1.mono (by rw [HS.out]; omega))); clear hb1
        go_wp2_with fail
        refine (HM.out _ HB.out).mono ?_
        rintro e w2 ⟨rfl, hb2⟩
        have HB2 := Lib.hid (HB.out.trans (hb2.mono HB.out.size)); clear hb2
        go_wp2
        go_ret
        exact ⟨ret_int (by rw [HR.out]; simp), HB2.out⟩
      · cases hi : inB share 0 1000
        all_goals
          have HI := Lib.hid hi; clear hi
          go_enter Try.func45, Try.ntmps45
          go_wp2_with fail
          refine (HV.out _ HT.out).mono ?_
          rintro e w1 ⟨rfl, hb1⟩
          have HB := Lib.hid (HT.out.trans (hb1.mono (by rw [HS.out]; omega))); clear hb1
          go_wp2_with fail
          refine (HM.out _ HB.out).mono ?_
          rintro e w2 ⟨rfl, hb2⟩
          have HB2 := Lib.hid (HB.out.trans (hb2.mono HB.out.size)); clear hb2
          go_wp2_with fail
          refine (within_c _ _ _ _).mono ?_
          rintro e w3 ⟨rfl, rfl⟩
          rw [HI.out]
          go_wp2
          go_ret
          exact ⟨ret_int (by rw [HR.out, HI.out]; simp [hm24]), HB2.out⟩
end Go.Proofs.Ytndnjabalofcnaa
