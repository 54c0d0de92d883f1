/- MoreLoad by the program. -/
import Derived.Test.YtipchejcgbmpgaaLayK
namespace Go.Proofs.Ytipchejcgbmpgaa
open Go.ChangeShapes Go.WideShapes Go.ChangeAt Go.RowKit
set_option linter.unusedVariables false

theorem more_of {ls : List Lay} {rise run d limit : Int} {k : Nat} (h0 : codeV ls rise run d limit = 0) (hs : stabV ls 0 rise run d limit = true) (hk : k ≤ 1000000)
    (h1 : k = 0 ∨ (!stabV ls k rise run d limit) = false) (h2 : k = 1000000 ∨ (!stabV ls (1 + k) rise run d limit) = true) :
    MoreOk ls rise run d limit (if decide (k < 1000000) then 1 + k else 0) (if decide (k < 1000000) then 0 else 3) := by
  obtain ⟨hp, b1, b2, _, _⟩ := codeV_zero h0
  simp only [slopeB, doubtB, inB, Bool.and_eq_true, decide_eq_true_eq] at b1 b2
  rw [MoreOk, if_neg (by simp [h0]), if_neg (by simp [hs])]
  by_cases hkN : k < 1000000
  · have h2' : stabV ls (1 + k) rise run d limit = false := by
      rcases h2 with h | h
      · omega
      · simpa using h
    have hne : ¬ stabV ls 1000000 rise run d limit = true := fun h => by
      have := stabV_anti (m := 1 + (k : Int)) (m' := 1000000) hp (by omega) (by omega) (by omega) b1.1.1 b1.1.2 b1.2.1 b1.2.2 b2.1 b2.2 h
      rw [h2'] at this; cases this
    rw [if_neg hne, if_pos (by simpa using hkN), if_pos (by simpa using hkN)]
    refine ⟨rfl, by omega, by omega, h2', ?_⟩
    rcases h1 with h | h
    · left; omega
    · right; rw [show (1 : Int) + k - 1 = k from by omega]; simpa using h
  · obtain rfl : k = 1000000 := by omega
    have : stabV ls 1000000 rise run d limit = true := by
      rcases h1 with h | h
      · omega
      · simpa using h
    rw [if_pos this]
    simp
set_option maxHeartbeats 2000000 in
theorem iMoreLoad_c (A : Option Addr) (n c BA : Nat) (ls : List Lay) (rise run d limit : Int) (w : World) (ha : Reads w BA 7 A n (lays ls)) (hB : BA ≤ w.heap.size) (hn : n ≤ 1048576) (hnc : n ≤ c) :
    Calls Try.prog 22 #[.slice A n c, .int .i64 rise, .int .i64 run, .int .i64 d, .int .i64 limit] w (MorePost ls rise run d limit w) := by
  have HO := Lib.hid fun W (hW : Below w.heap.size w W) => code_c A n c BA ls rise run d 0 limit W (ha.below (hW.mono hB)) (by have := hW.size; omega) (by omega)
  have HR := Lib.hid ha
  clear ha
  simp only [slabV] at *
  have hb5 : Blk ((w.alloc (.cells #[.int .i64 limit] 2)).alloc (.cells #[.slice A n c, .int .i64 rise, .int .i64 run, .int .i64 d, .int .i64 0] 56)) (w.heap.size + 1) 56 #[.slice A n c, .int .i64 rise, .int .i64 run, .int .i64 d, .int .i64 0] := by
    have h := Blk.new (w.alloc (.cells #[.int .i64 limit] 2)) 56 #[.slice A n c, .int .i64 rise, .int .i64 run, .int .i64 d, .int .i64 0]
    simpa using h
  have hb6 : Blk ((w.alloc (.cells #[.int .i64 limit] 2)).alloc (.cells #[.slice A n c, .int .i64 rise, .int .i64 run, .int .i64 d, .int .i64 0] 56)) w.heap.size 2 #[.int .i64 limit] := (Blk.new _ _ _).alloc _
  have hbt : Below w.heap.size w ((w.alloc (.cells #[.int .i64 limit] 2)).alloc (.cells #[.slice A n c, .int .i64 rise, .int .i64 run, .int .i64 d, .int .i64 0] 56)) := ((Below.refl _ _).alloc (Nat.le_refl _) _).alloc (by simp) _
  have hsz : ((w.alloc (.cells #[.int .i64 limit] 2)).alloc (.cells #[.slice A n c, .int .i64 rise, .int .i64 run, .int .i64 d, .int .i64 0] 56)).heap.size = w.heap.size + 2 := by simp
  have HB5 := Lib.hid hb5
  have HB6 := Lib.hid hb6
  have HBT := Lib.hid hbt
  have HSZ := Lib.hid hsz
  clear hb5 hb6 hbt hsz
  by_cases h0 : codeV ls rise run d limit = 0
  · obtain ⟨hp, h1, h2, h3, h4⟩ := codeV_zero h0
    have HS := Lib.hid fun W (hW : Below w.heap.size w W) => stable_c A n c BA ls 0 rise run d limit W (HR.out.below (hW.mono hB)) (by have := hW.size; omega) hnc hp (args_of (by omega) (by omega) h1 h2)
    have HF := Lib.hid (moreLoad1_c A n c BA ls rise run d limit w.heap.size (w.heap.size + 1) hnc hp h1 h2)
    have H0 := Lib.hid h0
    clear h0 hp h1 h2 h3 h4
    simp only [slabV] at *
    cases hs0 : stabV ls 0 rise run d limit
    all_goals
      have HS0 := Lib.hid hs0
      clear hs0
      go_enter Try.func22, Try.ntmps22
      go_wp2_with fail
      refine (HO.out _ HBT.out).mono ?_
      rintro e w1 ⟨rfl, hb1⟩
      rw [H0.out]
      have hs1 : w.heap.size + 2 ≤ w1.heap.size := by have := hb1.size; rw [HSZ.out] at this; exact this
      have K1 := Lib.hid (HB5.out.below hb1 (by rw [HSZ.out]; omega))
      have K0 := Lib.hid (HB6.out.below hb1 (by rw [HSZ.out]; omega))
      have HB := Lib.hid (HBT.out.trans (hb1.mono (by rw [HSZ.out]; omega)))
      clear hb1 HB5 HB6 HBT HSZ
      have x0 : w1.cell? ⟨w.heap.size + 1, 0, none⟩ = some (.slice A n c) := K1.out.cell 0
      have x1 : w1.cell? ⟨w.heap.size + 1, 1, none⟩ = some (.int .i64 rise) := K1.out.cell 1
      have x2 : w1.cell? ⟨w.heap.size + 1, 2, none⟩ = some (.int .i64 run) := K1.out.cell 2
      have x3 : w1.cell? ⟨w.heap.size + 1, 3, none⟩ = some (.int .i64 d) := K1.out.cell 3
      have x4 : w1.cell? ⟨w.heap.size + 1, 4, none⟩ = some (.int .i64 0) := K1.out.cell 4
      have y0 : w1.cell? ⟨w.heap.size, 0, none⟩ = some (.int .i64 limit) := K0.out.cell 0
      go_wp2_with fail
      refine (HS.out w1 HB.out).mono ?_
      rintro e w2 ⟨rfl, hb2⟩
      rw [HS0.out]
      have hs2 : w.heap.size + 2 ≤ w2.heap.size := by have := hb2.size; omega
      have K12 := Lib.hid (K1.out.below hb2 (by omega))
      have K02 := Lib.hid (K0.out.below hb2 (by omega))
      have HB2 := Lib.hid (HB.out.trans (hb2.mono (by omega)))
      clear hb2 x0 x1 x2 x3 x4 y0 K1 K0 HB hs1
    · go_wp2
      go_ret2
      exact ⟨0, 6, rfl, by rw [MoreOk, if_neg (by simp [H0.out]), if_pos HS0.out]; exact ⟨rfl, rfl⟩, HB2.out⟩
    · have HFI := Lib.hid (firstIn_c 50 #[.pointer (some ⟨w.heap.size + 1, 0, none⟩), .pointer (some ⟨w.heap.size, 0, none⟩)] (fun z => !stabV ls z rise run d limit) 1000000 (w.heap.size + 1) (w.heap.size + 1 + 1)
        (fun W => MInv A n c BA ls rise run d limit w.heap.size (w.heap.size + 1) W ∧ Below w.heap.size w W) w2 ⟨⟨0, K12.out, K02.out, HR.out.below (HB2.out.mono hB), hB, by omega⟩, HB2.out⟩
        (fun W o ⟨hI, hb⟩ => ⟨hI.alloc o, hb.alloc (by have := hb.size; omega) o⟩)
        ⟨HF.out.1, fun z W z1 z2 ⟨hI, hb⟩ => (HF.out.2 z W z1 z2 hI).mono fun e W' ⟨he, hI', ho⟩ => ⟨he, ⟨hI', hb.trans (ho.below (by omega) hb.size)⟩, ho⟩⟩ (by omega) (by omega))
      clear K12 K02 HF
      go_wp2_with fail
      refine HFI.out.mono ?_
      rintro e w3 ⟨k, rfl, hk, h1, h2, -, hb3⟩
      have HV := Lib.hid (more_of H0.out HS0.out hk h1 h2)
      have HB3 := Lib.hid hb3
      clear h1 h2 hb3 HFI
      generalize decide (k < 1000000) = b at *
      cases b
      all_goals
        go_wp2_with fail
        refine (orNotFound_c _ _ _).mono ?_
        rintro e w' ⟨rfl, rfl⟩
        go_wp2
        go_ret2
        exact ⟨_, _, rfl, HV.out, HB3.out⟩
  · have hne : (codeV ls rise run d limit != 0) = true := by simpa using h0
    have HV : Hid (MoreOk ls rise run d limit 0 (codeV ls rise run d limit)) := Lib.hid (by rw [MoreOk, if_pos h0]; exact ⟨rfl, rfl⟩)
    clear h0
    go_enter Try.func22, Try.ntmps22
    go_wp2_with fail
    refine (HO.out _ HBT.out).mono ?_
    rintro e w1 ⟨rfl, hb1⟩
    have HB := Lib.hid (HBT.out.trans (hb1.mono (by rw [HSZ.out]; omega)))
    clear hb1
    go_wp2
    go_ret2
    exact ⟨0, _, rfl, HV.out, HB.out⟩
end Go.Proofs.Ytipchejcgbmpgaa
