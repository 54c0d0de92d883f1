/- SteepestOf, AspectOf by the program and by the reference. -/
import Derived.Test.YtaoomildopmclaaGrS
namespace Go.Proofs.Ytaoomildopmclaa
open Go.ChangeShapes Go.WideShapes Go.ChangeAt Go.RowKit
set_option linter.unusedVariables false

def steepestOfV (g : Gr) (a : Int) : Int × Int × Int :=
  if askG g a ≠ 0 then (0, 0, askG g a) else match bestL g a (nextTo g a 8) with
    | some x => (x.slope, x.cell, 0)
    | none => (0, 0, 3)
def aspectOfV (g : Gr) (a : Int) : Int × Int :=
  if askG g a ≠ 0 then (0, askG g a) else match bestL g a (nextTo g a 8) with
    | some x => (x.dir, 0)
    | none => (0, 3)
set_option maxHeartbeats 2000000 in
theorem iSteepestOf_c (g : Gr) (A : Option Addr) (n c B : Nat) (a : Int) (w : World) (hg : GS w B g A n c) :
    Calls Try.prog 37 #[g.val A n c, .int .i64 a] w fun e w' => e = .returned (.tuple #[.int .i64 (steepestOfV g a).1, .int .i64 (steepestOfV g a).2.1, .int .i64 (steepestOfV g a).2.2]) ∧ Below w.heap.size w w' := by
  have HT0 := Lib.hid ((Below.refl w.heap.size w).alloc (Nat.le_refl _) (.cells (g.cells A n c) 26))
  have HS0 : Hid ((w.alloc (.cells (g.cells A n c) 26)).heap.size = w.heap.size + 1) := Lib.hid (by simp)
  have HK0 := Lib.hid (Blk.new w 26 (g.cells A n c))
  obtain ⟨X0, hX0⟩ : ∃ X, X = w.alloc (.cells (g.cells A n c) 26) := ⟨_, rfl⟩
  rw [← hX0] at HT0 HS0 HK0
  obtain ⟨X1, hX1⟩ : ∃ X, X = X0.alloc (.cells #[.int .i64 a] 2) := ⟨_, rfl⟩
  have HR1 : Hid (Reads X1 (X0.heap.size + 1) 1 (some ⟨X0.heap.size, 0, none⟩) 1 (ints [a])) := Lib.hid (by rw [hX1]; exact greads_lit1 _ _)
  have HT1 : Hid (Below w.heap.size w X1) := Lib.hid (by rw [hX1]; exact HT0.out.alloc HT0.out.size _)
  have HS1 : Hid (X1.heap.size = w.heap.size + 1 + 1) := Lib.hid (by rw [hX1]; simp [HS0.out])
  have HK1 : Hid (Blk X1 w.heap.size 26 (g.cells A n c)) := Lib.hid (by rw [hX1]; exact HK0.out.alloc _)
  rw [HS0.out] at HR1
  have HC := Lib.hid (gcode_c g A n c B _ 1 1 _ [a] X1 (hg.below HT1.out) HR1.out (by rw [HS1.out]; omega) (by omega))
  rw [codeG_one] at HC
  have HX1 := Lib.hid (show X1 = (w.alloc (.cells (g.cells A n c) 26)).alloc (.cells #[.int .i64 a] 2) from by rw [hX1, hX0])
  have HN := Lib.hid fun (hok : g.ok = true) (k : Nat) (hk : k < n) W (hW : Below w.heap.size w W) => steepest_c g A n c B k W (hg.below hW) hok hk
  have HL := Lib.hid hg.len
  have HG := Lib.hid hg
  clear hg hX0 hX1 HR1
  simp only [Gr.val, Gr.cells] at *
  by_cases h0 : askG g a = 0
  · obtain ⟨hok, ha0, ha1⟩ := askG_zero h0
    obtain ⟨k, rfl⟩ : ∃ k : Nat, a = k := ⟨a.toNat, by omega⟩
    have hkn : k < n := by rw [← HL.out]; omega
    have HV : Hid (steepestOfV g k = match bestL g k (nextTo g k 8) with | some x => (x.slope, x.cell, 0) | none => (0, 0, 3)) := Lib.hid (by rw [steepestOfV, if_neg (by simp [h0])])
    rw [h0] at HC
    have HN1 := Lib.hid (HN.out hok k hkn)
    clear h0 hok ha0 ha1 HN
    go_enter Try.func37, Try.ntmps37
    go_wp2_with fail
    rw [← HX1.out]
    refine HC.out.mono ?_
    rintro e w1 ⟨rfl, hb1⟩
    have HK2 := Lib.hid (HK1.out.below hb1 (by rw [HS1.out]; omega))
    have HT2 := Lib.hid (HT1.out.trans (hb1.mono HT1.out.size))
    clear hb1
    have x0 : w1.cell? ⟨w.heap.size, 0, none⟩ = some (.int .i64 g.rows) := HK2.out.cell 0
    have x1 : w1.cell? ⟨w.heap.size, 1, none⟩ = some (.int .i64 g.cols) := HK2.out.cell 1
    have x2 : w1.cell? ⟨w.heap.size, 2, none⟩ = some (.int .i64 g.size) := HK2.out.cell 2
    have x3 : w1.cell? ⟨w.heap.size, 3, none⟩ = some (.slice A n c) := HK2.out.cell 3
    go_wp2_with fail
    refine (HN1.out w1 HT2.out).mono ?_
    rintro e w2 ⟨rfl, B2⟩
    have HT3 := Lib.hid (HT2.out.trans (B2.mono HT2.out.size))
    clear x0 x1 x2 x3 B2
    generalize bestL g k (nextTo g k 8) = bb at *
    cases bb with
    | none =>
      have hS0 : (none : Option Stp).isSome = false := rfl
      rw [hS0]
      simp only [bestV, Stp.val] at *
      go_wp2
      go_ret3
      exact ⟨ret3 (by rw [HV.out]) (by rw [HV.out]) (by rw [HV.out]), by first | exact HT3.out | exact HT3.out.alloc HT3.out.size _⟩
    | some y =>
      have hS0 : (some y : Option Stp).isSome = true := rfl
      rw [hS0]
      simp only [bestV, Stp.val] at *
      go_upto_region 7 with (fail)
      obtain ⟨W3, hW3⟩ : ∃ W, W = w2.alloc (.cells #[.int .i64 y.cell, .int .i64 y.dir, .int .i64 y.slope] 85) := ⟨_, rfl⟩
      rw [← hW3]
      have y0 : W3.cell? ⟨w2.heap.size, 0, none⟩ = some (.int .i64 y.cell) := by rw [hW3]; exact (Blk.new _ _ _).cell 0
      have y2 : W3.cell? ⟨w2.heap.size, 2, none⟩ = some (.int .i64 y.slope) := by rw [hW3]; exact (Blk.new _ _ _).cell 2
      have HT4 : Hid (Below w.heap.size w W3) := Lib.hid (by rw [hW3]; exact HT3.out.alloc HT3.out.size _)
      clear hW3
      go_quiet (fail)
      go_wp2
      go_ret3
      exact ⟨ret3 (by rw [HV.out]) (by rw [HV.out]) (by rw [HV.out]), by first | exact below_drewN HT4.out _ | exact HT4.out⟩
  · have hne : (askG g a != 0) = true := by simpa using h0
    have HV : Hid (steepestOfV g a = (0, 0, askG g a)) := Lib.hid (by rw [steepestOfV, if_pos h0])
    clear h0
    go_enter Try.func37, Try.ntmps37
    go_wp2_with fail
    rw [← HX1.out]
    refine HC.out.mono ?_
    rintro e w1 ⟨rfl, hb1⟩
    have HT2 := Lib.hid (HT1.out.trans (hb1.mono HT1.out.size))
    clear hb1
    go_wp2
    go_ret3
    exact ⟨ret3 (by rw [HV.out]) (by rw [HV.out]) (by rw [HV.out]), HT2.out⟩
theorem orNotFound_c (n : Int) (b : Bool) (w : World) : Calls Try.prog 71 #[.int .i64 n, .bool b] w fun e w' => e = .returned (.tuple #[.int .i64 (if b then n else 0), .int .i64 (if b then 0 else 3)]) ∧ w = w' := by
  cases b
  all_goals
    go_enter Try.func71, Try.ntmps71
    go_wp2
    go_ret2
    exact ⟨rfl, rfl⟩
set_option maxHeartbeats 2000000 in
theorem iAspectOf_c (g : Gr) (A : Option Addr) (n c B : Nat) (a : Int) (w : World) (hg : GS w B g A n c) :
    Calls Try.prog 39 #[g.val A n c, .int .i64 a] w fun e w' => e = .returned (.tuple #[.int .i64 (aspectOfV g a).1, .int .i64 (aspectOfV g a).2]) ∧ Below w.heap.size w w' := by
  have HT0 := Lib.hid ((Below.refl w.heap.size w).alloc (Nat.le_refl _) (.cells (g.cells A n c) 26))
  have HS0 : Hid ((w.alloc (.cells (g.cells A n c) 26)).heap.size = w.heap.size + 1) := Lib.hid (by simp)
  have HK0 := Lib.hid (Blk.new w 26 (g.cells A n c))
  obtain ⟨X0, hX0⟩ : ∃ X, X = w.alloc (.cells (g.cells A n c) 26) := ⟨_, rfl⟩
  rw [← hX0] at HT0 HS0 HK0
  obtain ⟨X1, hX1⟩ : ∃ X, X = X0.alloc (.cells #[.int .i64 a] 2) := ⟨_, rfl⟩
  have HR1 : Hid (Reads X1 (X0.heap.size + 1) 1 (some ⟨X0.heap.size, 0, none⟩) 1 (ints [a])) := Lib.hid (by rw [hX1]; exact greads_lit1 _ _)
  have HT1 : Hid (Below w.heap.size w X1) := Lib.hid (by rw [hX1]; exact HT0.out.alloc HT0.out.size _)
  have HS1 : Hid (X1.heap.size = w.heap.size + 1 + 1) := Lib.hid (by rw [hX1]; simp [HS0.out])
  have HK1 : Hid (Blk X1 w.heap.size 26 (g.cells A n c)) := Lib.hid (by rw [hX1]; exact HK0.out.alloc _)
  rw [HS0.out] at HR1
  have HC := Lib.hid (gcode_c g A n c B _ 1 1 _ [a] X1 (hg.below HT1.out) HR1.out (by rw [HS1.out]; omega) (by omega))
  rw [codeG_one] at HC
  have HX1 := Lib.hid (show X1 = (w.alloc (.cells (g.cells A n c) 26)).alloc (.cells #[.int .i64 a] 2) from by rw [hX1, hX0])
  have HN := Lib.hid fun (hok : g.ok = true) (k : Nat) (hk : k < n) W (hW : Below w.heap.size w W) => steepest_c g A n c B k W (hg.below hW) hok hk
  have HL := Lib.hid hg.len
  have HG := Lib.hid hg
  clear hg hX0 hX1 HR1
  simp only [Gr.val, Gr.cells] at *
  by_cases h0 : askG g a = 0
  · obtain ⟨hok, ha0, ha1⟩ := askG_zero h0
    obtain ⟨k, rfl⟩ : ∃ k : Nat, a = k := ⟨a.toNat, by omega⟩
    have hkn : k < n := by rw [← HL.out]; omega
    have HV : Hid (aspectOfV g k = match bestL g k (nextTo g k 8) with | some x => (x.dir, 0) | none => (0, 3)) := Lib.hid (by rw [aspectOfV, if_neg (by simp [h0])])
    rw [h0] at HC
    have HN1 := Lib.hid (HN.out hok k hkn)
    clear h0 hok ha0 ha1 HN
    go_enter Try.func39, Try.ntmps39
    go_wp2_with fail
    rw [← HX1.out]
    refine HC.out.mono ?_
    rintro e w1 ⟨rfl, hb1⟩
    have HK2 := Lib.hid (HK1.out.below hb1 (by rw [HS1.out]; omega))
    have HT2 := Lib.hid (HT1.out.trans (hb1.mono HT1.out.size))
    clear hb1
    have x0 : w1.cell? ⟨w.heap.size, 0, none⟩ = some (.int .i64 g.rows) := HK2.out.cell 0
    have x1 : w1.cell? ⟨w.heap.size, 1, none⟩ = some (.int .i64 g.cols) := HK2.out.cell 1
    have x2 : w1.cell? ⟨w.heap.size, 2, none⟩ = some (.int .i64 g.size) := HK2.out.cell 2
    have x3 : w1.cell? ⟨w.heap.size, 3, none⟩ = some (.slice A n c) := HK2.out.cell 3
    go_wp2_with fail
    refine (HN1.out w1 HT2.out).mono ?_
    rintro e w2 ⟨rfl, B2⟩
    have HT3 := Lib.hid (HT2.out.trans (B2.mono HT2.out.size))
    clear x0 x1 x2 x3 B2
    generalize bestL g k (nextTo g k 8) = bb at *
    cases bb
    all_goals
      have hS0 : (none : Option Stp).isSome = false := rfl
      have hS1 : ∀ y : Stp, (some y : Option Stp).isSome = true := fun _ => rfl
      simp only [bestV, Stp.val] at *
      first
        | rw [hS0]
        | rw [hS1]
      clear hS0 hS1
      go_wp2_with fail
      refine (orNotFound_c _ _ _).mono ?_
      rintro e w' ⟨rfl, rfl⟩
      go_wp2
      go_ret2
      exact ⟨ret2 (by rw [HV.out]) (by rw [HV.out]), by first | exact HT3.out | exact HT3.out.alloc HT3.out.size _⟩
  · have hne : (askG g a != 0) = true := by simpa using h0
    have HV : Hid (aspectOfV g a = (0, askG g a)) := Lib.hid (by rw [aspectOfV, if_pos h0])
    clear h0
    go_enter Try.func39, Try.ntmps39
    go_wp2_with fail
    rw [← HX1.out]
    refine HC.out.mono ?_
    rintro e w1 ⟨rfl, hb1⟩
    have HT2 := Lib.hid (HT1.out.trans (hb1.mono HT1.out.size))
    clear hb1
    go_wp2
    go_ret2
    exact ⟨ret2 (by rw [HV.out]) (by rw [HV.out]), HT2.out⟩
set_option maxHeartbeats 2000000 in
theorem sSteepestOf_c (g : Gr) (A : Option Addr) (n c B : Nat) (a : Int) (w : World) (hg : GS w B g A n c) :
    Calls Try.prog 36 #[g.val A n c, .int .i64 a] w fun e w' => e = .returned (.tuple #[.int .i64 (steepestOfV g a).1, .int .i64 (steepestOfV g a).2.1, .int .i64 (steepestOfV g a).2.2]) ∧ Below w.heap.size w w' := by
  have HP := Lib.hid (GP.new hg)
  have HT := Lib.hid ((Below.refl w.heap.size w).alloc (Nat.le_refl _) (.cells (g.cells A n c) 26))
  have HS : Hid ((w.alloc (.cells (g.cells A n c) 26)).heap.size = w.heap.size + 1) := Lib.hid (by simp)
  obtain ⟨X, hX⟩ : ∃ X, X = w.alloc (.cells (g.cells A n c) 26) := ⟨_, rfl⟩
  rw [← hX] at HP HT HS
  have HASK := Lib.hid (l09Ask_c g w.heap.size A n c B a X HP.out)
  have HL := Lib.hid hg.len
  have HX := Lib.hid hX
  clear hg hX
  simp only [Gr.val, Gr.cells] at *
  by_cases h0 : askG g a = 0
  · obtain ⟨hok, ha0, ha1⟩ := askG_zero h0
    rw [h0] at HASK
    obtain ⟨k, rfl⟩ : ∃ k : Nat, a = k := ⟨a.toNat, by omega⟩
    have hkn : k < n := by rw [← HL.out]; omega
    have HV : Hid (steepestOfV g k = match bestL g k (nextTo g k 8) with | some x => (x.slope, x.cell, 0) | none => (0, 0, 3)) := Lib.hid (by rw [steepestOfV, if_neg (by simp [h0])])
    have HST := Lib.hid fun W (hW : Below X.heap.size X W) => l09Steepest_c g w.heap.size A n c B k W (HP.out.below hW) hok hkn
    have HGO := Lib.hid fun W (hW : Below X.heap.size X W) (d : Nat) (hd : d < 8) => l09Go_c g w.heap.size A n c B k d W (HP.out.below hW) hok hkn hd
    clear h0 hok ha0 ha1
    go_enter Try.func36, Try.ntmps36
    go_wp2_with fail
    rw [← HX.out]
    refine HASK.out.mono ?_
    rintro e w' ⟨rfl, q, rfl⟩
    go_wp2_with fail
    refine (HST.out _ (below_drewN (Below.refl _ _) q)).mono ?_
    rintro e w2 ⟨rfl, B2⟩
    have HB2 : Hid (Below X.heap.size X w2) := Lib.hid ((below_drewN (Below.refl X.heap.size X) _).trans (B2.mono (by simp)))
    clear B2
    cases hbb : bestL g k (nextTo g k 8) with
    | none =>
      rw [hbb] at HV
      simp only [encD, encS]
      clear hbb
      go_wp2
      go_ret3
      exact ⟨ret3 (by rw [HV.out]) (by rw [HV.out]) (by rw [HV.out]), HT.out.trans (HB2.out.mono HT.out.size)⟩
    | some y =>
      obtain ⟨d, hd, hgb, hy⟩ := nextTo_mem (bestL_mem hbb).1
      rw [hbb] at HV
      have HY1 : Hid (y.cell = goV g k d) := Lib.hid (by rw [hy]; rfl)
      have hyd : y.dir = d := by rw [hy]; rfl
      simp only [encD, encS, hyd]
      have hdn : ¬ (d : Int) < 0 := by omega
      clear hbb hy hgb hyd
      go_wp2_with fail
      refine (HGO.out w2 HB2.out d hd).mono ?_
      rintro e w3 ⟨rfl, B3⟩
      go_wp2
      go_ret3
      exact ⟨ret3 (by rw [HV.out]) (by rw [HV.out]; exact HY1.out.symm) (by rw [HV.out]), HT.out.trans ((HB2.out.trans (B3.mono HB2.out.size)).mono HT.out.size)⟩
  · have hne : (askG g a != 0) = true := by simpa using h0
    have HV : Hid (steepestOfV g a = (0, 0, askG g a)) := Lib.hid (by rw [steepestOfV, if_pos h0])
    clear h0
    go_enter Try.func36, Try.ntmps36
    go_wp2_with fail
    rw [← HX.out]
    refine HASK.out.mono ?_
    rintro e w' ⟨rfl, q, rfl⟩
    go_wp2
    go_ret3
    exact ⟨ret3 (by rw [HV.out]) (by rw [HV.out]) (by rw [HV.out]), below_drewN HT.out _⟩
set_option maxHeartbeats 2000000 in
theorem sAspectOf_c (g : Gr) (A : Option Addr) (n c B : Nat) (a : Int) (w : World) (hg : GS w B g A n c) :
    Calls Try.prog 38 #[g.val A n c, .int .i64 a] w fun e w' => e = .returned (.tuple #[.int .i64 (aspectOfV g a).1, .int .i64 (aspectOfV g a).2]) ∧ Below w.heap.size w w' := by
  have HP := Lib.hid (GP.new hg)
  have HT := Lib.hid ((Below.refl w.heap.size w).alloc (Nat.le_refl _) (.cells (g.cells A n c) 26))
  have HS : Hid ((w.alloc (.cells (g.cells A n c) 26)).heap.size = w.heap.size + 1) := Lib.hid (by simp)
  obtain ⟨X, hX⟩ : ∃ X, X = w.alloc (.cells (g.cells A n c) 26) := ⟨_, rfl⟩
  rw [← hX] at HP HT HS
  have HASK := Lib.hid (l09Ask_c g w.heap.size A n c B a X HP.out)
  have HL := Lib.hid hg.len
  have HX := Lib.hid hX
  clear hg hX
  simp only [Gr.val, Gr.cells] at *
  by_cases h0 : askG g a = 0
  · obtain ⟨hok, ha0, ha1⟩ := askG_zero h0
    rw [h0] at HASK
    obtain ⟨k, rfl⟩ : ∃ k : Nat, a = k := ⟨a.toNat, by omega⟩
    have hkn : k < n := by rw [← HL.out]; omega
    have HV : Hid (aspectOfV g k = match bestL g k (nextTo g k 8) with | some x => (x.dir, 0) | none => (0, 3)) := Lib.hid (by rw [aspectOfV, if_neg (by simp [h0])])
    have HST := Lib.hid fun W (hW : Below X.heap.size X W) => l09Steepest_c g w.heap.size A n c B k W (HP.out.below hW) hok hkn
    clear h0 hok ha0 ha1
    go_enter Try.func38, Try.ntmps38
    go_wp2_with fail
    rw [← HX.out]
    refine HASK.out.mono ?_
    rintro e w' ⟨rfl, q, rfl⟩
    go_wp2_with fail
    refine (HST.out _ (below_drewN (Below.refl _ _) q)).mono ?_
    rintro e w2 ⟨rfl, B2⟩
    have HB2 : Hid (Below X.heap.size X w2) := Lib.hid ((below_drewN (Below.refl X.heap.size X) _).trans (B2.mono (by simp)))
    clear B2
    cases hbb : bestL g k (nextTo g k 8) with
    | none =>
      rw [hbb] at HV
      simp only [encD, encS]
      clear hbb
      go_wp2
      go_ret2
      exact ⟨ret2 (by rw [HV.out]) (by rw [HV.out]), HT.out.trans (HB2.out.mono HT.out.size)⟩
    | some y =>
      obtain ⟨d, hd, hgb, hy⟩ := nextTo_mem (bestL_mem hbb).1
      rw [hbb] at HV
      have hyd : y.dir = d := by rw [hy]; rfl
      simp only [encD, encS, hyd]
      have HYD := Lib.hid hyd
      have hdn : ¬ (d : Int) < 0 := by omega
      clear hbb hy hgb hyd
      go_wp2
      go_ret2
      exact ⟨ret2 (by rw [HV.out]; exact HYD.out.symm) (by rw [HV.out]), HT.out.trans (HB2.out.mono HT.out.size)⟩
  · have hne : (askG g a != 0) = true := by simpa using h0
    have HV : Hid (aspectOfV g a = (0, askG g a)) := Lib.hid (by rw [aspectOfV, if_pos h0])
    clear h0
    go_enter Try.func38, Try.ntmps38
    go_wp2_with fail
    rw [← HX.out]
    refine HASK.out.mono ?_
    rintro e w' ⟨rfl, q, rfl⟩
    go_wp2
    go_ret2
    exact ⟨ret2 (by rw [HV.out]) (by rw [HV.out]), below_drewN HT.out _⟩
end Go.Proofs.Ytaoomildopmclaa
