/- RaiseCell by the program and by the reference. -/
import Derived.Test.YtaoomildopmclaaGrX
namespace Go.Proofs.Ytaoomildopmclaa
open Go.ChangeShapes Go.WideShapes Go.ChangeAt Go.RowKit
set_option linter.unusedVariables false

def zeroG : Gr := ⟨0, 0, 0, []⟩
def raiseV (g : Gr) (a v : Int) : Gr × Int :=
  if askG g a ≠ 0 then (zeroG, askG g a) else if inB v 0 100 = false then (zeroG, 2) else if 5000 < hAt g a + v then (zeroG, 6) else (raisedG g a.toNat v, 0)
def RaisePost (g : Gr) (a v : Int) (w : World) (e : Ending) (w' : World) : Prop :=
  ∃ D n d, e = .returned (.tuple #[(raiseV g a v).1.val D n d, .int .i64 (raiseV g a v).2]) ∧ Own w' w.heap.size w'.heap.size 2 1 (.slice D n d) n (ints (raiseV g a v).1.hs) ∧ n ≤ 1048576 ∧ Below w.heap.size w w'
theorem raise_err {g : Gr} {a v k : Int} {w w' : World} (h : raiseV g a v = (zeroG, k)) (hb : Below w.heap.size w w') : RaisePost g a v w (.returned (.tuple #[.agg #[.int .i64 0, .int .i64 0, .int .i64 0, .slice none 0 0], .int .i64 k])) w' :=
  ⟨none, 0, 0, by rw [h]; rfl, by rw [h]; exact Own.nil, by omega, hb⟩
theorem l15By_c (v : Int) (w : World) : Calls Try.prog 62 #[.int .i64 v] w fun e w' => e = .returned (.bool (inB v 0 100)) ∧ w = w' := by
  go_enter Try.func62, Try.ntmps62
  go_wp2_with (go_at_call 81; refine (l00In_c _ _ _ _).mono ?_; rintro e w' ⟨rfl, rfl⟩)
  go_ret
  exact ⟨rfl, rfl⟩
set_option maxHeartbeats 4000000 in
theorem sRaiseCell_c (g : Gr) (A : Option Addr) (n c B : Nat) (a v : Int) (w : World) (hg : GS w B g A n c) :
    Calls Try.prog 29 #[g.val A n c, .int .i64 a, .int .i64 v] w (RaisePost g a v w) := by
  have HT0 := Lib.hid ((Below.refl w.heap.size w).alloc (Nat.le_refl _) (.cells (g.cells A n c) 26))
  obtain ⟨X, hX⟩ : ∃ X, X = (w.alloc (.cells (g.cells A n c) 26)).alloc (.cells #[.int .i64 0, .int .i64 0, .int .i64 0, .slice none 0 0] 26) := ⟨_, rfl⟩
  have HP : Hid (GP X w.heap.size B g A n c) := Lib.hid (by rw [hX]; exact (GP.new hg).below ((Below.refl _ _).alloc (Nat.le_refl _) _))
  have HT : Hid (Below w.heap.size w X) := Lib.hid (by rw [hX]; exact HT0.out.alloc HT0.out.size _)
  have hs : X.heap.size = w.heap.size + 1 + 1 := by rw [hX]; simp
  have K1 : Hid (Blk X (w.heap.size + 1) 26 #[.int .i64 0, .int .i64 0, .int .i64 0, .slice none 0 0]) := Lib.hid (by
    have h := Blk.new (w.alloc (.cells (g.cells A n c) 26)) 26 #[.int .i64 0, .int .i64 0, .int .i64 0, .slice none 0 0]
    rw [hX]; simpa using h)
  have HASK := Lib.hid (l09Ask_c g w.heap.size A n c B a X HP.out)
  have HL := Lib.hid hg.len
  have HG := Lib.hid hg
  have hbig := hg.big
  have HX := Lib.hid hX
  clear hg hX HT0
  simp only [Gr.val, Gr.cells] at *
  have FA := Lib.hid fun q => show ((X.drewN q).cell? ⟨w.heap.size + 1, 0, none⟩ = some (.int .i64 0) ∧ (X.drewN q).cell? ⟨w.heap.size + 1, 1, none⟩ = some (.int .i64 0) ∧ (X.drewN q).cell? ⟨w.heap.size + 1, 2, none⟩ = some (.int .i64 0) ∧ (X.drewN q).cell? ⟨w.heap.size + 1, 3, none⟩ = some (.slice none 0 0) ∧ (X.drewN q).frozen? ⟨w.heap.size + 1, 0, none⟩ = false ∧ (X.drewN q).frozen? ⟨w.heap.size + 1, 1, none⟩ = false ∧ (X.drewN q).frozen? ⟨w.heap.size + 1, 2, none⟩ = false ∧ (X.drewN q).frozen? ⟨w.heap.size + 1, 3, none⟩ = false) from
    ⟨(K1.out.drewN q).cell 0, (K1.out.drewN q).cell 1, (K1.out.drewN q).cell 2, (K1.out.drewN q).cell 3, (K1.out.drewN q).frozen 0, (K1.out.drewN q).frozen 1, (K1.out.drewN q).frozen 2, (K1.out.drewN q).frozen 3⟩
  by_cases h0 : askG g a = 0
  · obtain ⟨hok, ha0, ha1⟩ := askG_zero h0
    rw [h0] at HASK
    obtain ⟨k, rfl⟩ : ∃ k : Nat, a = k := ⟨a.toNat, by omega⟩
    have hkn : k < n := by rw [← HL.out]; omega
    have HE := Lib.hid (show raiseV g k v = if inB v 0 100 = false then (zeroG, 2) else if 5000 < hAt g k + v then (zeroG, 6) else (raisedG g k v, 0) from by rw [raiseV, if_neg (by simp [h0])]; simp)
    have hb2 := hAt_bd (Gr.ok_bd hok) k
    have HRS := Lib.hid fun W (hW : Below X.heap.size X W) h1 h2 => l15Raise_c g w.heap.size A n c B k v W (HP.out.below hW) hok hkn h1 h2
    have HBY := Lib.hid fun W => l15By_c v W
    cases hib : inB v 0 100
    · have HV : Hid (raiseV g k v = (zeroG, 2)) := Lib.hid (by rw [HE.out, if_pos hib])
      have HIB := Lib.hid hib
      clear h0 hok ha0 ha1 hib
      go_enter Try.func29, Try.ntmps29
      go_wp2_with fail
      rw [← HX.out]
      refine HASK.out.mono ?_
      rintro e w' ⟨rfl, q, rfl⟩
      obtain ⟨r0, r1, r2, r3, f0, f1, f2, f3⟩ := FA.out q
      go_wp2_with fail
      refine (HBY.out _).mono ?_
      rintro e w' ⟨rfl, rfl⟩
      rw [HIB.out]
      go_wp2
      refine bodyPost_ret (v := .tuple #[.agg #[.int .i64 0, .int .i64 0, .int .i64 0, .slice none 0 0], .int .i64 2]) (by simp [results, Try.results29, go_sem, r0, r1, r2, r3]) rfl ?_
      exact raise_err HV.out (set4_below (below_drewN HT.out q) (by omega) _ _ _ _)
    · have hvb := inB_bd hib
      have HIB := Lib.hid hib
      by_cases hov : 5000 < hAt g k + v
      all_goals
        first
          | have HV : Hid (raiseV g k v = (zeroG, 6)) := Lib.hid (by rw [HE.out, if_neg (by simp [hib]), if_pos hov])
          | have HV : Hid (raiseV g k v = (raisedG g k v, 0)) := Lib.hid (by rw [HE.out, if_neg (by simp [hib]), if_neg hov])
        clear h0 hok ha0 ha1 hib
        go_enter Try.func29, Try.ntmps29
        go_wp2_with fail
        rw [← HX.out]
        refine HASK.out.mono ?_
        rintro e w' ⟨rfl, q, rfl⟩
        obtain ⟨r0, r1, r2, r3, f0, f1, f2, f3⟩ := FA.out q
        obtain ⟨ad, rfl, _, c1⟩ := (HP.out.below (below_drewN (Below.refl _ _) q)).gs.at_ hkn
        have x3 := (HP.out.below (below_drewN (Below.refl _ _) q)).h
        have hk' : (k : Int) < (n : Int) := by omega
        go_wp2_with fail
        refine (HBY.out _).mono ?_
        rintro e w' ⟨rfl, rfl⟩
        rw [HIB.out]
      · have hd : decide (5000 < hAt g k + v) = true := by simpa using hov
        go_wp2
        refine bodyPost_ret (v := .tuple #[.agg #[.int .i64 0, .int .i64 0, .int .i64 0, .slice none 0 0], .int .i64 6]) (by simp [results, Try.results29, go_sem, r0, r1, r2, r3]) rfl ?_
        exact raise_err HV.out (set4_below (below_drewN HT.out q) (by omega) _ _ _ _)
      · have hd : decide (5000 < hAt g k + v) = false := by simpa using hov
        go_wp2_with fail
        refine (HRS.out _ (below_drewN (Below.refl _ _) q) hvb.1 hvb.2).mono ?_
        rintro e w2 ⟨D, d, rfl, O2, B2⟩
        have HT2 : Hid (Below w.heap.size w w2) := Lib.hid ((below_drewN HT.out q).trans (B2.mono HT.out.size))
        have KN := Lib.hid ((K1.out.drewN q).below B2 (by show w.heap.size + 1 < X.heap.size; omega))
        have HO := Lib.hid O2
        clear O2 B2 r0 r1 r2 r3 f0 f1 f2 f3 c1 x3
        simp only [Gr.val, Gr.cells, raisedG] at *
        have r0 : w2.cell? ⟨w.heap.size + 1, 0, none⟩ = some (.int .i64 0) := KN.out.cell 0
        have r1 : w2.cell? ⟨w.heap.size + 1, 1, none⟩ = some (.int .i64 0) := KN.out.cell 1
        have r2 : w2.cell? ⟨w.heap.size + 1, 2, none⟩ = some (.int .i64 0) := KN.out.cell 2
        have r3 : w2.cell? ⟨w.heap.size + 1, 3, none⟩ = some (.slice none 0 0) := KN.out.cell 3
        have f0 := KN.out.frozen 0
        have f1 := KN.out.frozen 1
        have f2 := KN.out.frozen 2
        have f3 := KN.out.frozen 3
        go_wp2
        refine bodyPost_ret (v := .tuple #[.agg #[.int .i64 g.rows, .int .i64 g.cols, .int .i64 g.size, .slice D n d], .int .i64 0]) (by simp [results, Try.results29, go_sem, r0, r1, r2, r3]) rfl ?_
        exact ⟨D, n, d, by rw [HV.out]; rfl, by rw [HV.out]; exact ((set4_own (b := w.heap.size + 1) HO.out (by show w.heap.size + 1 < X.heap.size; omega) _ _ _ _).widen (by show w.heap.size ≤ X.heap.size; omega) (by show w2.heap.size ≤ (set4 w2 (w.heap.size + 1) _ _ _ _).heap.size; rw [set4_size]; omega)), hbig, set4_below HT2.out (by omega) _ _ _ _⟩
  · have hne : (askG g a != 0) = true := by simpa using h0
    have HV : Hid (raiseV g a v = (zeroG, askG g a)) := Lib.hid (by rw [raiseV, if_pos h0])
    clear h0
    go_enter Try.func29, Try.ntmps29
    go_wp2_with fail
    rw [← HX.out]
    refine HASK.out.mono ?_
    rintro e w' ⟨rfl, q, rfl⟩
    obtain ⟨r0, r1, r2, r3, f0, f1, f2, f3⟩ := FA.out q
    go_wp2
    refine bodyPost_ret (v := .tuple #[.agg #[.int .i64 0, .int .i64 0, .int .i64 0, .slice none 0 0], .int .i64 (askG g a)]) (by simp [results, Try.results29, go_sem, r0, r1, r2, r3]) rfl ?_
    exact raise_err HV.out (set4_below (below_drewN HT.out q) (by omega) _ _ _ _)
set_option maxHeartbeats 4000000 in
theorem iRaiseCell_c (g : Gr) (A : Option Addr) (n c B : Nat) (a v : Int) (w : World) (hg : GS w B g A n c) :
    Calls Try.prog 30 #[g.val A n c, .int .i64 a, .int .i64 v] w (RaisePost g a v w) := by
  have HT0 := Lib.hid ((Below.refl w.heap.size w).alloc (Nat.le_refl _) (.cells (g.cells A n c) 26))
  obtain ⟨X, hX⟩ : ∃ X, X = (w.alloc (.cells (g.cells A n c) 26)).alloc (.cells #[.int .i64 0, .int .i64 0, .int .i64 0, .slice none 0 0] 26) := ⟨_, rfl⟩
  have HT : Hid (Below w.heap.size w X) := Lib.hid (by rw [hX]; exact HT0.out.alloc HT0.out.size _)
  have hs : X.heap.size = w.heap.size + 1 + 1 := by rw [hX]; simp
  have k0 : Blk X w.heap.size 26 (g.cells A n c) := by rw [hX]; exact (Blk.new _ _ _).alloc _
  have k1 : Blk X (w.heap.size + 1) 26 #[.int .i64 0, .int .i64 0, .int .i64 0, .slice none 0 0] := by
    have h := Blk.new (w.alloc (.cells (g.cells A n c) 26)) 26 #[.int .i64 0, .int .i64 0, .int .i64 0, .slice none 0 0]
    rw [hX]; simpa using h
  obtain ⟨X1, hX1⟩ : ∃ Y, Y = X.alloc (.cells #[.int .i64 a] 2) := ⟨_, rfl⟩
  have HR1 : Hid (Reads X1 (X.heap.size + 1) 1 (some ⟨X.heap.size, 0, none⟩) 1 (ints [a])) := Lib.hid (by rw [hX1]; exact greads_lit1 _ _)
  rw [hs] at HR1
  have HT1 : Hid (Below w.heap.size w X1) := Lib.hid (by rw [hX1]; exact HT.out.alloc HT.out.size _)
  have hs1 : X1.heap.size = w.heap.size + 1 + 1 + 1 := by rw [hX1]; simp [hs]
  have K0 : Hid (Blk X1 w.heap.size 26 (g.cells A n c)) := Lib.hid (by rw [hX1]; exact k0.alloc _)
  have K1 : Hid (Blk X1 (w.heap.size + 1) 26 #[.int .i64 0, .int .i64 0, .int .i64 0, .slice none 0 0]) := Lib.hid (by rw [hX1]; exact k1.alloc _)
  have HC := Lib.hid (gcode_c g A n c B _ 1 1 _ [a] X1 (hg.below HT1.out) HR1.out (by omega) (by omega))
  rw [codeG_one] at HC
  have HX := Lib.hid (show X1 = ((w.alloc (.cells (g.cells A n c) 26)).alloc (.cells #[.int .i64 0, .int .i64 0, .int .i64 0, .slice none 0 0] 26)).alloc (.cells #[.int .i64 a] 2) from by rw [hX1, hX])
  have HL := Lib.hid hg.len
  have HG := Lib.hid hg
  have hbig := hg.big
  clear hg hX hX1 HT0 k0 k1 HR1
  simp only [Gr.val, Gr.cells] at *
  by_cases h0 : askG g a = 0
  · obtain ⟨hok, ha0, ha1⟩ := askG_zero h0
    rw [h0] at HC
    obtain ⟨k, rfl⟩ : ∃ k : Nat, a = k := ⟨a.toNat, by omega⟩
    have hkn : k < n := by rw [← HL.out]; omega
    have HE := Lib.hid (show raiseV g k v = if inB v 0 100 = false then (zeroG, 2) else if 5000 < hAt g k + v then (zeroG, 6) else (raisedG g k v, 0) from by rw [raiseV, if_neg (by simp [h0])]; simp)
    have hb2 := hAt_bd (Gr.ok_bd hok) k
    have HRS := Lib.hid fun W (hW : Below w.heap.size w W) h1 h2 => raised_c g A n c B k v W (HG.out.below hW) hok hkn h1 h2
    cases hib : inB v 0 100
    · have HV : Hid (raiseV g k v = (zeroG, 2)) := Lib.hid (by rw [HE.out, if_pos hib])
      have HIB := Lib.hid hib
      clear h0 hok ha0 ha1 hib
      go_enter Try.func30, Try.ntmps30
      go_wp2_with fail
      rw [← HX.out]
      refine HC.out.mono ?_
      rintro e w1 ⟨rfl, hb1⟩
      have HT2 := Lib.hid (HT1.out.trans (hb1.mono HT1.out.size))
      have hs2 := hb1.size
      have K1' := Lib.hid (K1.out.below hb1 (by omega))
      have K0' := Lib.hid (K0.out.below hb1 (by omega))
      clear hb1
      have r0 : w1.cell? ⟨w.heap.size + 1, 0, none⟩ = some (.int .i64 0) := K1'.out.cell 0
      have r1 : w1.cell? ⟨w.heap.size + 1, 1, none⟩ = some (.int .i64 0) := K1'.out.cell 1
      have r2 : w1.cell? ⟨w.heap.size + 1, 2, none⟩ = some (.int .i64 0) := K1'.out.cell 2
      have r3 : w1.cell? ⟨w.heap.size + 1, 3, none⟩ = some (.slice none 0 0) := K1'.out.cell 3
      have f0 := K1'.out.frozen 0
      have f1 := K1'.out.frozen 1
      have f2 := K1'.out.frozen 2
      have f3 := K1'.out.frozen 3
      go_wp2_with fail
      refine (within_c _ _ _ _).mono ?_
      rintro e w' ⟨rfl, rfl⟩
      rw [HIB.out]
      go_wp2
      refine bodyPost_ret (v := .tuple #[.agg #[.int .i64 0, .int .i64 0, .int .i64 0, .slice none 0 0], .int .i64 2]) (by simp [results, Try.results30, go_sem, r0, r1, r2, r3]) rfl ?_
      exact raise_err HV.out (set4_below HT2.out (by omega) _ _ _ _)
    · have hvb := inB_bd hib
      have HIB := Lib.hid hib
      by_cases hov : 5000 < hAt g k + v
      all_goals
        first
          | have HV : Hid (raiseV g k v = (zeroG, 6)) := Lib.hid (by rw [HE.out, if_neg (by simp [hib]), if_pos hov])
          | have HV : Hid (raiseV g k v = (raisedG g k v, 0)) := Lib.hid (by rw [HE.out, if_neg (by simp [hib]), if_neg hov])
        clear h0 hok ha0 ha1 hib
        go_enter Try.func30, Try.ntmps30
        go_wp2_with fail
        rw [← HX.out]
        refine HC.out.mono ?_
        rintro e w1 ⟨rfl, hb1⟩
        have HT2 := Lib.hid (HT1.out.trans (hb1.mono HT1.out.size))
        have hs2 := hb1.size
        have K1' := Lib.hid (K1.out.below hb1 (by omega))
        have K0' := Lib.hid (K0.out.below hb1 (by omega))
        clear hb1
        have r0 : w1.cell? ⟨w.heap.size + 1, 0, none⟩ = some (.int .i64 0) := K1'.out.cell 0
        have r1 : w1.cell? ⟨w.heap.size + 1, 1, none⟩ = some (.int .i64 0) := K1'.out.cell 1
        have r2 : w1.cell? ⟨w.heap.size + 1, 2, none⟩ = some (.int .i64 0) := K1'.out.cell 2
        have r3 : w1.cell? ⟨w.heap.size + 1, 3, none⟩ = some (.slice none 0 0) := K1'.out.cell 3
        have f0 := K1'.out.frozen 0
        have f1 := K1'.out.frozen 1
        have f2 := K1'.out.frozen 2
        have f3 := K1'.out.frozen 3
        obtain ⟨ad, rfl, _, c1⟩ := (HG.out.below HT2.out).at_ hkn
        have x0 : w1.cell? ⟨w.heap.size, 0, none⟩ = some (.int .i64 g.rows) := K0'.out.cell 0
        have x1 : w1.cell? ⟨w.heap.size, 1, none⟩ = some (.int .i64 g.cols) := K0'.out.cell 1
        have x2 : w1.cell? ⟨w.heap.size, 2, none⟩ = some (.int .i64 g.size) := K0'.out.cell 2
        have x3 : w1.cell? ⟨w.heap.size, 3, none⟩ = some (.slice (some ad) n c) := K0'.out.cell 3
        have hk' : (k : Int) < (n : Int) := by omega
        go_wp2_with fail
        refine (within_c _ _ _ _).mono ?_
        rintro e w' ⟨rfl, rfl⟩
        rw [HIB.out]
      · have hd : decide (5000 < hAt g k + v) = true := by simpa using hov
        go_wp2
        refine bodyPost_ret (v := .tuple #[.agg #[.int .i64 0, .int .i64 0, .int .i64 0, .slice none 0 0], .int .i64 6]) (by simp [results, Try.results30, go_sem, r0, r1, r2, r3]) rfl ?_
        exact raise_err HV.out (set4_below HT2.out (by omega) _ _ _ _)
      · have hd : decide (5000 < hAt g k + v) = false := by simpa using hov
        go_wp2_with fail
        refine (HRS.out _ HT2.out hvb.1 hvb.2).mono ?_
        rintro e w2 ⟨D, d, rfl, O2, B2⟩
        have HT3 : Hid (Below w.heap.size w w2) := Lib.hid (HT2.out.trans (B2.mono HT2.out.size))
        have KN := Lib.hid (K1'.out.below B2 (by omega))
        have HO := Lib.hid O2
        have hs3 := B2.size
        clear O2 B2 r0 r1 r2 r3 f0 f1 f2 f3 c1 x0 x1 x2 x3
        simp only [Gr.val, Gr.cells, raisedG] at *
        have r0 : w2.cell? ⟨w.heap.size + 1, 0, none⟩ = some (.int .i64 0) := KN.out.cell 0
        have r1 : w2.cell? ⟨w.heap.size + 1, 1, none⟩ = some (.int .i64 0) := KN.out.cell 1
        have r2 : w2.cell? ⟨w.heap.size + 1, 2, none⟩ = some (.int .i64 0) := KN.out.cell 2
        have r3 : w2.cell? ⟨w.heap.size + 1, 3, none⟩ = some (.slice none 0 0) := KN.out.cell 3
        have f0 := KN.out.frozen 0
        have f1 := KN.out.frozen 1
        have f2 := KN.out.frozen 2
        have f3 := KN.out.frozen 3
        go_wp2
        refine bodyPost_ret (v := .tuple #[.agg #[.int .i64 g.rows, .int .i64 g.cols, .int .i64 g.size, .slice D n d], .int .i64 0]) (by simp [results, Try.results30, go_sem, r0, r1, r2, r3]) rfl ?_
        exact ⟨D, n, d, by rw [HV.out]; rfl, by rw [HV.out]; exact ((set4_own (b := w.heap.size + 1) HO.out (by omega) _ _ _ _).widen (by omega) (by show w2.heap.size ≤ (set4 w2 (w.heap.size + 1) _ _ _ _).heap.size; rw [set4_size]; omega)), hbig, set4_below HT3.out (by omega) _ _ _ _⟩
  · have hne : (askG g a != 0) = true := by simpa using h0
    have HV : Hid (raiseV g a v = (zeroG, askG g a)) := Lib.hid (by rw [raiseV, if_pos h0])
    clear h0
    go_enter Try.func30, Try.ntmps30
    go_wp2_with fail
    rw [← HX.out]
    refine HC.out.mono ?_
    rintro e w1 ⟨rfl, hb1⟩
    have HT2 := Lib.hid (HT1.out.trans (hb1.mono HT1.out.size))
    have hs2 := hb1.size
    have K1' := Lib.hid (K1.out.below hb1 (by omega))
    have K0' := Lib.hid (K0.out.below hb1 (by omega))
    clear hb1
    have r0 : w1.cell? ⟨w.heap.size + 1, 0, none⟩ = some (.int .i64 0) := K1'.out.cell 0
    have r1 : w1.cell? ⟨w.heap.size + 1, 1, none⟩ = some (.int .i64 0) := K1'.out.cell 1
    have r2 : w1.cell? ⟨w.heap.size + 1, 2, none⟩ = some (.int .i64 0) := K1'.out.cell 2
    have r3 : w1.cell? ⟨w.heap.size + 1, 3, none⟩ = some (.slice none 0 0) := K1'.out.cell 3
    have f0 := K1'.out.frozen 0
    have f1 := K1'.out.frozen 1
    have f2 := K1'.out.frozen 2
    have f3 := K1'.out.frozen 3
    go_wp2
    refine bodyPost_ret (v := .tuple #[.agg #[.int .i64 0, .int .i64 0, .int .i64 0, .slice none 0 0], .int .i64 (askG g a)]) (by simp [results, Try.results30, go_sem, r0, r1, r2, r3]) rfl ?_
    exact raise_err HV.out (set4_below HT2.out (by omega) _ _ _ _)
end Go.Proofs.Ytaoomildopmclaa
