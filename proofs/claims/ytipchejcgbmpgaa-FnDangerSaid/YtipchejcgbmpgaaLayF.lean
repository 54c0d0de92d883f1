/- Stability: IsStable, WeakestLayer, SteepestFor, SlabOf by the program and by the reference. -/
import Derived.Test.YtipchejcgbmpgaaLayE
namespace Go.Proofs.Ytipchejcgbmpgaa
open Go.ChangeShapes Go.WideShapes Go.ChangeAt Go.RowKit
set_option linter.unusedVariables false

theorem codeV_ask (ls : List Lay) (rise run d limit : Int) : codeV ls rise run d limit = if askV ls rise run d = 0 then (if inB limit 0 1000000 = false then 2 else 0) else askV ls rise run d := by
  unfold codeV askV
  cases proB ls <;> cases slopeB rise run <;> cases doubtB d <;> cases inB limit 0 1000000 <;> rfl
theorem codeV_zero_lim (ls : List Lay) (rise run d : Int) : codeV ls rise run d 0 = askV ls rise run d := by
  rw [codeV_ask, show inB 0 0 1000000 = true from rfl]
  by_cases h : askV ls rise run d = 0
  · rw [if_pos h, h]; rfl
  · rw [if_neg h]
def isStabV (ls : List Lay) (rise run d limit : Int) : Bool := decide (codeV ls rise run d limit = 0) && stabV ls 0 rise run d limit
set_option maxHeartbeats 1000000 in
theorem iIsStable_c (A : Option Addr) (n c BA : Nat) (ls : List Lay) (rise run d limit : Int) (w : World) (ha : Reads w BA 7 A n (lays ls)) (hB : BA ≤ w.heap.size) (hn : n ≤ 1048576) (hnc : n ≤ c) :
    Calls Try.prog 13 #[.slice A n c, .int .i64 rise, .int .i64 run, .int .i64 d, .int .i64 limit] w fun e w' => e = .returned (.bool (isStabV ls rise run d limit)) ∧ Below w.heap.size w w' := by
  have HO := Lib.hid fun W (hW : Below w.heap.size w W) => code_c A n c BA ls rise run d 0 limit W (ha.below (hW.mono hB)) (by have := hW.size; omega) (by omega)
  have HR := Lib.hid ha
  clear ha
  simp only [slabV] at *
  by_cases h0 : codeV ls rise run d limit = 0
  · obtain ⟨hp, h1, h2, h3, h4⟩ := codeV_zero h0
    have HS := Lib.hid fun W (hW : Below w.heap.size w W) => stable_c A n c BA ls 0 rise run d limit W (HR.out.below (hW.mono hB)) (by have := hW.size; omega) hnc hp (args_of (by omega) (by omega) h1 h2)
    have H0 := Lib.hid h0
    clear h0 hp h1 h2 h3 h4
    simp only [slabV] at *
    go_enter Try.func13, Try.ntmps13
    go_wp2_with fail
    refine (HO.out _ ((Below.refl _ _).alloc (Nat.le_refl _) _)).mono ?_
    rintro e w1 ⟨rfl, hb1⟩
    rw [H0.out]
    have K1 := (Blk.new w 56 #[.slice A n c, .int .i64 rise, .int .i64 run, .int .i64 d, .int .i64 0]).below hb1 (by simp)
    have x0 : w1.cell? ⟨w.heap.size, 0, none⟩ = some (.slice A n c) := K1.cell 0
    have x1 : w1.cell? ⟨w.heap.size, 1, none⟩ = some (.int .i64 rise) := K1.cell 1
    have x2 : w1.cell? ⟨w.heap.size, 2, none⟩ = some (.int .i64 run) := K1.cell 2
    have x3 : w1.cell? ⟨w.heap.size, 3, none⟩ = some (.int .i64 d) := K1.cell 3
    have x4 : w1.cell? ⟨w.heap.size, 4, none⟩ = some (.int .i64 0) := K1.cell 4
    have HB := Lib.hid (((Below.refl _ _).alloc (Nat.le_refl _) _).trans (hb1.mono (by simp)))
    clear hb1 K1
    go_wp2_with fail
    refine (HS.out _ HB.out).mono ?_
    rintro e w2 ⟨rfl, hb2⟩
    have HB2 := Lib.hid hb2
    clear hb2 x0 x1 x2 x3 x4
    go_wp2
    go_ret
    exact ⟨ret_bool (by simp [isStabV, H0.out]), HB.out.trans (HB2.out.mono HB.out.size)⟩
  · have hne : (codeV ls rise run d limit == 0) = false := by simpa using h0
    have H0 := Lib.hid h0; clear h0
    go_enter Try.func13, Try.ntmps13
    go_wp2_with fail
    refine (HO.out _ ((Below.refl _ _).alloc (Nat.le_refl _) _)).mono ?_
    rintro e w1 ⟨rfl, hb1⟩
    have HB := Lib.hid (((Below.refl _ _).alloc (Nat.le_refl _) _).trans (hb1.mono (by simp)))
    clear hb1
    go_wp2
    go_ret
    exact ⟨ret_bool (by simp [isStabV, H0.out]), HB.out⟩
theorem sIsStable_c (A : Option Addr) (n c BA : Nat) (ls : List Lay) (rise run d limit : Int) (w : World) (ha : Reads w BA 7 A n (lays ls)) (hB : BA ≤ w.heap.size) (hn : n ≤ 1048576) (hnc : n ≤ c) :
    Calls Try.prog 11 #[.slice A n c, .int .i64 rise, .int .i64 run, .int .i64 d, .int .i64 limit] w fun e w' => e = .returned (.bool (isStabV ls rise run d limit)) ∧ Below w.heap.size w w' := by
  have HO := Lib.hid (l07Ask_c A n c BA ls rise run d w ha (by omega))
  have HC := Lib.hid (codeV_ask ls rise run d limit)
  by_cases h0 : askV ls rise run d = 0
  · obtain ⟨hp, h1, h2⟩ := askV_zero h0
    have HS := Lib.hid fun (hl : limit ≤ 1000000) => l07Stable_c A n c BA ls 0 rise run d limit w ha hB hnc hp (args_of (by omega) (by omega) h1 h2) hl
    have H0 := Lib.hid h0
    clear h0 hp h1 h2 ha
    cases hl : inB limit 0 1000000
    · go_enter Try.func11, Try.ntmps11
      go_wp2_with fail
      refine HO.out.mono ?_
      rintro e w' ⟨rfl, rfl⟩
      rw [H0.out]
      go_wp2_with (go_at_call 38; refine (l07Limit_c _ _).mono ?_; rintro e w' ⟨rfl, rfl⟩)
      go_ret
      exact ⟨ret_bool (by rw [isStabV, HC.out, H0.out, hl]; rfl), Below.refl _ _⟩
    · have hl2 : limit ≤ 1000000 := by simp only [inB, decide_eq_true_eq] at hl; omega
      have HL := Lib.hid hl; clear hl
      go_enter Try.func11, Try.ntmps11
      go_wp2_with fail
      refine HO.out.mono ?_
      rintro e w' ⟨rfl, rfl⟩
      rw [H0.out]
      go_wp2_with fail
      refine (l07Limit_c _ _).mono ?_
      rintro e w' ⟨rfl, rfl⟩
      rw [HL.out]
      go_wp2_with fail
      refine (HS.out hl2).mono ?_
      rintro e w1 ⟨rfl, hb1⟩
      have HB := Lib.hid hb1; clear hb1
      go_wp2
      go_ret
      exact ⟨ret_bool (by rw [isStabV, HC.out, H0.out, HL.out]; simp), HB.out⟩
  · have hne : (askV ls rise run d == 0) = false := by simpa using h0
    have H0 := Lib.hid h0
    clear ha h0
    go_enter Try.func11, Try.ntmps11
    go_wp2_with fail
    refine HO.out.mono ?_
    rintro e w' ⟨rfl, rfl⟩
    go_wp2
    go_ret
    exact ⟨ret_bool (by rw [isStabV, HC.out, if_neg H0.out]; simp [H0.out]), Below.refl _ _⟩
theorem weakV_bd {ls : List Lay} {more rise run d : Int} : -1 ≤ (weakV ls more rise run d).1 ∧ (weakV ls more rise run d).1 < ls.length := by
  unfold weakV
  rcases weakF_bd (idxLo ls more rise run d) 1000000 ls.length with ⟨h, h0⟩ | ⟨j, hj, h0⟩ <;> rw [h0] <;> simp <;> omega
def weakLV (ls : List Lay) (rise run d : Int) : Int × Int × Int :=
  if askV ls rise run d ≠ 0 then (0, 0, askV ls rise run d) else if (weakV ls 0 rise run d).1 < 0 then (0, 0, 3) else ((weakV ls 0 rise run d).1, (weakV ls 0 rise run d).2, 0)
set_option maxHeartbeats 1000000 in
theorem iWeakestLayer_c (A : Option Addr) (n c BA : Nat) (ls : List Lay) (rise run d : Int) (w : World) (ha : Reads w BA 7 A n (lays ls)) (hB : BA ≤ w.heap.size) (hn : n ≤ 1048576) (hnc : n ≤ c) :
    Calls Try.prog 16 #[.slice A n c, .int .i64 rise, .int .i64 run, .int .i64 d] w fun e w' => e = .returned (.tuple #[.int .i64 (weakLV ls rise run d).1, .int .i64 (weakLV ls rise run d).2.1, .int .i64 (weakLV ls rise run d).2.2]) ∧ Below w.heap.size w w' := by
  have HO := Lib.hid fun W (hW : Below w.heap.size w W) => code_c A n c BA ls rise run d 0 0 W (ha.below (hW.mono hB)) (by have := hW.size; omega) (by omega)
  rw [codeV_zero_lim] at HO
  have HR := Lib.hid ha
  clear ha
  simp only [slabV] at *
  by_cases h0 : askV ls rise run d = 0
  · obtain ⟨hp, h1, h2⟩ := askV_zero h0
    have HS := Lib.hid fun W (hW : Below w.heap.size w W) => weakest_c A n c BA ls 0 rise run d W (HR.out.below (hW.mono hB)) (by have := hW.size; omega) hnc hp (args_of (by omega) (by omega) h1 h2)
    have H0 := Lib.hid h0
    clear h0 hp h1 h2
    simp only [slabV] at *
    by_cases hneg : (weakV ls 0 rise run d).1 < 0
    all_goals
      first
        | have HW := Lib.hid (show weakLV ls rise run d = (0, 0, 3) from by rw [weakLV, if_neg (by simp [H0.out]), if_pos (by omega)])
        | have HW := Lib.hid (show weakLV ls rise run d = ((weakV ls 0 rise run d).1, (weakV ls 0 rise run d).2, 0) from by rw [weakLV, if_neg (by simp [H0.out]), if_neg (by omega)])
      go_enter Try.func16, Try.ntmps16
      go_wp2_with fail
      refine (HO.out _ ((Below.refl _ _).alloc (Nat.le_refl _) _)).mono ?_
      rintro e w1 ⟨rfl, hb1⟩
      rw [H0.out]
      have K1 := (Blk.new w 56 #[.slice A n c, .int .i64 rise, .int .i64 run, .int .i64 d, .int .i64 0]).below hb1 (by simp)
      have x0 : w1.cell? ⟨w.heap.size, 0, none⟩ = some (.slice A n c) := K1.cell 0
      have x1 : w1.cell? ⟨w.heap.size, 1, none⟩ = some (.int .i64 rise) := K1.cell 1
      have x2 : w1.cell? ⟨w.heap.size, 2, none⟩ = some (.int .i64 run) := K1.cell 2
      have x3 : w1.cell? ⟨w.heap.size, 3, none⟩ = some (.int .i64 d) := K1.cell 3
      have x4 : w1.cell? ⟨w.heap.size, 4, none⟩ = some (.int .i64 0) := K1.cell 4
      have HB := Lib.hid (((Below.refl _ _).alloc (Nat.le_refl _) _).trans (hb1.mono (by simp)))
      clear hb1 K1
      go_wp2_with fail
      refine (HS.out _ HB.out).mono ?_
      rintro e w2 ⟨rfl, hb2⟩
      have HB2 := Lib.hid hb2
      clear hb2 x0 x1 x2 x3 x4
      go_wp2
      go_ret3
      exact ⟨ret3 (by rw [HW.out]) (by rw [HW.out]) (by rw [HW.out]), HB.out.trans (HB2.out.mono HB.out.size)⟩
  · have hne : (askV ls rise run d != 0) = true := by simpa using h0
    have H0 := Lib.hid h0; clear h0
    go_enter Try.func16, Try.ntmps16
    go_wp2_with fail
    refine (HO.out _ ((Below.refl _ _).alloc (Nat.le_refl _) _)).mono ?_
    rintro e w1 ⟨rfl, hb1⟩
    have HB := Lib.hid (((Below.refl _ _).alloc (Nat.le_refl _) _).trans (hb1.mono (by simp)))
    clear hb1
    go_wp2
    go_ret3
    exact ⟨ret3 (by simp [weakLV, H0.out]) (by simp [weakLV, H0.out]) (by simp [weakLV, H0.out]), HB.out⟩
set_option maxHeartbeats 1000000 in
theorem sWeakestLayer_c (A : Option Addr) (n c BA : Nat) (ls : List Lay) (rise run d : Int) (w : World) (ha : Reads w BA 7 A n (lays ls)) (hB : BA ≤ w.heap.size) (hn : n ≤ 1048576) (hnc : n ≤ c) :
    Calls Try.prog 15 #[.slice A n c, .int .i64 rise, .int .i64 run, .int .i64 d] w fun e w' => e = .returned (.tuple #[.int .i64 (weakLV ls rise run d).1, .int .i64 (weakLV ls rise run d).2.1, .int .i64 (weakLV ls rise run d).2.2]) ∧ Below w.heap.size w w' := by
  have HO := Lib.hid (l07Ask_c A n c BA ls rise run d w ha (by omega))
  by_cases h0 : askV ls rise run d = 0
  · obtain ⟨hp, h1, h2⟩ := askV_zero h0
    have HS := Lib.hid (l07Weakest_c A n c BA ls 0 rise run d w ha hB hnc hp (args_of (by omega) (by omega) h1 h2))
    have HV : Hid (((weakV ls 0 rise run d).1 < 0 ∧ (weakF (idxLo ls 0 rise run d) 0 n).1 < 0) ∨ (¬ (weakV ls 0 rise run d).1 < 0 ∧ weakF (idxLo ls 0 rise run d) 0 n = weakV ls 0 rise run d)) := Lib.hid (by
      unfold weakV
      rw [ha.layLen]
      by_cases hn0 : n = 0
      · subst hn0; left; simp [weakF]
      · right
        rw [weakF_init _ 0 1000000 n (by omega)]
        refine ⟨?_, rfl⟩
        rcases weakF_bd (idxLo ls 0 rise run d) 1000000 n with ⟨h, _⟩ | ⟨j, hj, h⟩
        · omega
        · rw [h]; simp)
    have H0 := Lib.hid h0
    clear h0 hp h1 h2 ha
    rcases HV.out with ⟨ha, hb⟩ | ⟨ha, hb⟩
    · have HW := Lib.hid (show weakLV ls rise run d = (0, 0, 3) from by rw [weakLV, if_neg (by simp [H0.out]), if_pos ha])
      go_enter Try.func15, Try.ntmps15
      go_wp2_with fail
      refine HO.out.mono ?_
      rintro e w' ⟨rfl, rfl⟩
      rw [H0.out]
      go_wp2_with fail
      refine HS.out.mono ?_
      rintro e w2 ⟨rfl, hb2⟩
      have HB2 := Lib.hid hb2
      clear hb2
      go_wp2
      go_ret3
      exact ⟨ret3 (by rw [HW.out]) (by rw [HW.out]) (by rw [HW.out]), HB2.out⟩
    · rw [hb] at HS
      have HW := Lib.hid (show weakLV ls rise run d = ((weakV ls 0 rise run d).1, (weakV ls 0 rise run d).2, 0) from by rw [weakLV, if_neg (by simp [H0.out]), if_neg ha])
      clear hb
      go_enter Try.func15, Try.ntmps15
      go_wp2_with fail
      refine HO.out.mono ?_
      rintro e w' ⟨rfl, rfl⟩
      rw [H0.out]
      go_wp2_with fail
      refine HS.out.mono ?_
      rintro e w2 ⟨rfl, hb2⟩
      have HB2 := Lib.hid hb2
      clear hb2
      go_wp2
      go_ret3
      exact ⟨ret3 (by rw [HW.out]) (by rw [HW.out]) (by rw [HW.out]), HB2.out⟩
  · have hne : (askV ls rise run d != 0) = true := by simpa using h0
    have H0 := Lib.hid h0
    clear ha h0
    go_enter Try.func15, Try.ntmps15
    go_wp2_with fail
    refine HO.out.mono ?_
    rintro e w' ⟨rfl, rfl⟩
    go_wp2
    go_ret3
    exact ⟨ret3 (by simp [weakLV, H0.out]) (by simp [weakLV, H0.out]) (by simp [weakLV, H0.out]), Below.refl _ _⟩
def slabOfV (ls : List Lay) (rise run d : Int) : Int × Int :=
  if (weakLV ls rise run d).2.2 ≠ 0 then (0, (weakLV ls rise run d).2.2) else (sumI Lay.thick (ls.drop ((weakLV ls rise run d).1.toNat + 1)), 0)
theorem weakLV_ok {ls : List Lay} {rise run d : Int} (h : (weakLV ls rise run d).2.2 = 0) : askV ls rise run d = 0 ∧ (weakLV ls rise run d).1 = (weakV ls 0 rise run d).1 ∧ 0 ≤ (weakV ls 0 rise run d).1 ∧ (weakV ls 0 rise run d).1 < ls.length := by
  unfold weakLV at h ⊢
  by_cases h0 : askV ls rise run d = 0
  · rw [if_neg (by simp [h0])] at h ⊢
    by_cases h1 : (weakV ls 0 rise run d).1 < 0
    · rw [if_pos h1] at h; simp at h
    · rw [if_neg h1]; exact ⟨h0, rfl, by omega, weakV_bd.2⟩
  · rw [if_pos h0] at h; exact absurd h h0
set_option maxHeartbeats 1000000 in
theorem iSlabOf_c (A : Option Addr) (n c BA : Nat) (ls : List Lay) (rise run d : Int) (w : World) (ha : Reads w BA 7 A n (lays ls)) (hB : BA ≤ w.heap.size) (hn : n ≤ 1048576) (hnc : n ≤ c) :
    Calls Try.prog 20 #[.slice A n c, .int .i64 rise, .int .i64 run, .int .i64 d] w fun e w' => e = .returned (.tuple #[.int .i64 (slabOfV ls rise run d).1, .int .i64 (slabOfV ls rise run d).2]) ∧ Below w.heap.size w w' := by
  have HO := Lib.hid (iWeakestLayer_c A n c BA ls rise run d w ha hB hn hnc)
  by_cases h0 : (weakLV ls rise run d).2.2 = 0
  · obtain ⟨k1, k2, k3, k4⟩ := weakLV_ok h0
    have HV : Hid (slabOfV ls rise run d = (sumI Lay.thick (ls.drop ((weakLV ls rise run d).1.toNat + 1)), 0)) := Lib.hid (by rw [slabOfV, if_neg (by simp [h0])])
    obtain ⟨k, hk⟩ : ∃ k : Nat, (weakV ls 0 rise run d).1 = k := ⟨(weakV ls 0 rise run d).1.toNat, by omega⟩
    rw [hk] at k2 k4
    have hkn : k < n := by rw [← ha.layLen]; omega
    have hp := (askV_zero k1).1
    have HH := Lib.hid fun (W : World) (hW : Below w.heap.size w W) c' => heightOf_c _ _ c' BA (k + 1) ls W ((ha.below (hW.mono hB)).layCut (k := k + 1) (cap := c) (by omega) hnc) (by have := hW.size; omega) (by omega) hp
    rw [k2] at HO HV
    rw [h0] at HO
    rw [Int.toNat_natCast] at HV
    clear ha k1 k3 hk k2 h0 hp
    generalize (weakLV ls rise run d).2.1 = p at *
    go_enter Try.func20, Try.ntmps20
    go_wp2_with fail
    refine HO.out.mono ?_
    rintro e w1 ⟨rfl, hb1⟩
    have HB := Lib.hid hb1; clear hb1
    go_wp2_with ((with_reducible refine (HH.out _ HB.out _).mono ?_); rintro e w2 ⟨rfl, hb2⟩)
    all_goals go_ret2
    all_goals exact ⟨ret2 (by rw [HV.out]) (by rw [HV.out]), HB.out.trans (hb2.mono HB.out.size)⟩
  · have hne : ((weakLV ls rise run d).2.2 != 0) = true := by simpa using h0
    have HV : Hid (slabOfV ls rise run d = (0, (weakLV ls rise run d).2.2)) := Lib.hid (by rw [slabOfV, if_pos h0])
    clear ha h0
    generalize weakLV ls rise run d = p at *
    go_enter Try.func20, Try.ntmps20
    go_wp2_with fail
    refine HO.out.mono ?_
    rintro e w1 ⟨rfl, hb1⟩
    go_wp2
    go_ret2
    exact ⟨ret2 (by rw [HV.out]) (by rw [HV.out]), hb1⟩
set_option maxHeartbeats 1000000 in
theorem sSlabOf_c (A : Option Addr) (n c BA : Nat) (ls : List Lay) (rise run d : Int) (w : World) (ha : Reads w BA 7 A n (lays ls)) (hB : BA ≤ w.heap.size) (hn : n ≤ 1048576) (hnc : n ≤ c) :
    Calls Try.prog 19 #[.slice A n c, .int .i64 rise, .int .i64 run, .int .i64 d] w fun e w' => e = .returned (.tuple #[.int .i64 (slabOfV ls rise run d).1, .int .i64 (slabOfV ls rise run d).2]) ∧ Below w.heap.size w w' := by
  have HO := Lib.hid (l07Ask_c A n c BA ls rise run d w ha (by omega))
  by_cases h0 : askV ls rise run d = 0
  · obtain ⟨hp, h1, h2⟩ := askV_zero h0
    have HS := Lib.hid (l07Weakest_c A n c BA ls 0 rise run d w ha hB hnc hp (args_of (by omega) (by omega) h1 h2))
    have H0 := Lib.hid h0
    have HL := Lib.hid ha.layLen
    by_cases hn0 : n = 0
    · have HV : Hid (slabOfV ls rise run d = (0, 3)) := Lib.hid (by
        have e2 : weakLV ls rise run d = (0, 0, 3) := by rw [weakLV, if_neg (by simp [h0]), if_pos (by unfold weakV; rw [ha.layLen, hn0]; simp [weakF])]
        rw [slabOfV, e2, if_pos (by simp)])
      rw [show (weakF (idxLo ls 0 rise run d) 0 n) = (-1, 0) from by rw [hn0]; rfl] at HS
      clear ha hp h0 hn0
      go_enter Try.func19, Try.ntmps19
      go_wp2_with fail
      refine HO.out.mono ?_
      rintro e w' ⟨rfl, rfl⟩
      rw [H0.out]
      go_wp2_with fail
      refine HS.out.mono ?_
      rintro e w2 ⟨rfl, hb2⟩
      have HB2 := Lib.hid hb2
      clear hb2
      go_wp2
      go_ret2
      exact ⟨ret2 (by rw [HV.out]) (by rw [HV.out]), HB2.out⟩
    · obtain ⟨k, hkn, hw⟩ : ∃ k : Nat, k < n ∧ weakF (idxLo ls 0 rise run d) 0 n = ((k : Int), idxLo ls 0 rise run d k) := by
        rcases weakF_bd (idxLo ls 0 rise run d) 0 n with ⟨h, _⟩ | h
        · omega
        · exact h
      have HV : Hid (slabOfV ls rise run d = (sumI Lay.thick (ls.drop (k + 1)), 0)) := Lib.hid (by
        have e : weakV ls 0 rise run d = ((k : Int), idxLo ls 0 rise run d k) := by rw [weakV, ha.layLen, ← hw]; exact weakF_init _ _ _ n (by omega)
        have e2 : weakLV ls rise run d = ((k : Int), idxLo ls 0 rise run d k, 0) := by rw [weakLV, if_neg (by simp [h0]), e, if_neg (by simp)]
        rw [slabOfV, e2, if_neg (by simp)]; simp)
      rw [hw] at HS
      have HH := Lib.hid fun (W : World) (hW : Below w.heap.size w W) c' => l03Height_c _ _ c' BA (k + 1) ls W ((ha.below (hW.mono hB)).layCut (k := k + 1) (cap := c) (by omega) hnc) (by omega) hp
      clear ha hp h0 hw
      generalize idxLo ls 0 rise run d k = q at *
      go_enter Try.func19, Try.ntmps19
      go_wp2_with fail
      refine HO.out.mono ?_
      rintro e w' ⟨rfl, rfl⟩
      rw [H0.out]
      go_wp2_with fail
      refine HS.out.mono ?_
      rintro e w2 ⟨rfl, hb2⟩
      have HB2 := Lib.hid hb2
      clear hb2
      go_wp2_with ((with_reducible refine (HH.out _ HB2.out _).mono ?_); rintro e w3 ⟨rfl, q3, rfl⟩)
      all_goals go_ret2
      all_goals exact ⟨ret2 (by rw [HV.out]) (by rw [HV.out]), below_drewN HB2.out _⟩
  · have hne : (askV ls rise run d != 0) = true := by simpa using h0
    have HV : Hid (slabOfV ls rise run d = (0, askV ls rise run d)) := Lib.hid (by rw [slabOfV, weakLV, if_pos h0, if_pos h0])
    have H0 := Lib.hid h0
    clear ha h0
    go_enter Try.func19, Try.ntmps19
    go_wp2_with fail
    refine HO.out.mono ?_
    rintro e w' ⟨rfl, rfl⟩
    go_wp2
    go_ret2
    exact ⟨ret2 (by rw [HV.out]) (by rw [HV.out]), Below.refl _ _⟩
end Go.Proofs.Ytipchejcgbmpgaa
