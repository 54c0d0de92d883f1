/- Stability: SteepestFor by the program and by the reference. -/
import Derived.Test.YtipchejcgbmpgaaLayF
namespace Go.Proofs.Ytipchejcgbmpgaa
open Go.ChangeShapes Go.WideShapes Go.ChangeAt Go.RowKit
set_option linter.unusedVariables false

/-- the greatest number from k down with a property, and code 0; or 0 and code 3 -/
def downF (p : Nat → Bool) : Nat → Int × Int
  | 0 => if p 0 then (0, 0) else (0, 3)
  | k + 1 => if p (k + 1) then (((k + 1 : Nat) : Int), 0) else downF p k
theorem downF_t {p : Nat → Bool} {k : Nat} (h : p k = true) : downF p k = ((k : Int), 0) := by
  cases k with
  | zero => rw [downF, if_pos h]; rfl
  | succ k => rw [downF, if_pos h]
theorem downF_f {p : Nat → Bool} {k : Nat} (h : p (k + 1) = false) : downF p (k + 1) = downF p k := by rw [downF, if_neg (by simp [h])]
def steepV (ls : List Lay) (run d limit : Int) : Int × Int :=
  if codeV ls 0 run d limit ≠ 0 then (0, codeV ls 0 run d limit) else downF (fun r => stabV ls 0 r run d limit) run.toNat
theorem codeV_run (ls : List Lay) (run d limit : Int) : codeV ls run run d limit = codeV ls 0 run d limit := by
  have : slopeB run run = slopeB 0 run := by
    unfold slopeB inB
    rw [Bool.eq_iff_iff]
    simp
    omega
  unfold codeV
  rw [this]
def cellNat (w : World) (p : Addr) : Nat := match w.cell? p with
  | some v => (intOf v).toNat
  | none => 0
theorem cellNat_eq {w : World} {p : Addr} {z : Int} (h : w.cell? p = some (.int .i64 z)) : cellNat w p = z.toNat := by simp [cellNat, h, intOf]
theorem orNotFound_c (n : Int) (b : Bool) (w : World) : Calls Try.prog 46 #[.int .i64 n, .bool b] w fun e w' => e = .returned (.tuple #[.int .i64 (if b then n else 0), .int .i64 (if b then 0 else 3)]) ∧ w = w' := by
  cases b
  all_goals
    go_enter Try.func46, Try.ntmps46
    go_wp2
    go_ret2
    exact ⟨rfl, rfl⟩
set_option maxHeartbeats 2000000 in
theorem iSteepestFor_c (A : Option Addr) (n c BA : Nat) (ls : List Lay) (run d limit : Int) (w : World) (ha : Reads w BA 7 A n (lays ls)) (hB : BA ≤ w.heap.size) (hn : n ≤ 1048576) (hnc : n ≤ c) :
    Calls Try.prog 18 #[.slice A n c, .int .i64 run, .int .i64 d, .int .i64 limit] w fun e w' => e = .returned (.tuple #[.int .i64 (steepV ls run d limit).1, .int .i64 (steepV ls run d limit).2]) ∧ Below w.heap.size w w' := by
  have HO := Lib.hid fun W (hW : Below w.heap.size w W) => code_c A n c BA ls run run d 0 limit W (ha.below (hW.mono hB)) (by have := hW.size; omega) (by omega)
  rw [codeV_run] at HO
  have HR := Lib.hid ha
  clear ha
  simp only [slabV] at *
  by_cases h0 : codeV ls 0 run d limit = 0
  · obtain ⟨hp, h1, h2, h3, h4⟩ := codeV_zero h0
    have hrun : 1 ≤ run ∧ run ≤ 1000 := by simp only [slopeB, inB, Bool.and_eq_true, decide_eq_true_eq] at h1; exact h1.2
    obtain ⟨r0, r1⟩ := hrun
    have HS := Lib.hid fun W (hW : Below w.heap.size w W) (r : Nat) (hr : (r : Int) ≤ run) => stable_c A n c BA ls 0 r run d limit W (HR.out.below (hW.mono hB)) (by have := hW.size; omega) hnc hp (args_of (by omega) (by omega) (by simp only [slopeB, inB, Bool.and_eq_true, decide_eq_true_eq]; omega) h2)
    have HV : Hid (steepV ls run d limit = downF (fun r : Nat => stabV ls 0 r run d limit) run.toNat) := Lib.hid (by rw [steepV, if_neg (by simp [h0])])
    have H0 := Lib.hid h0
    clear h0 hp h1 h2 h3 h4
    obtain ⟨p, hpp⟩ : ∃ p : Nat → Bool, p = fun r : Nat => stabV ls 0 r run d limit := ⟨_, rfl⟩
    rw [← hpp] at HV
    have HS2 : Hid (∀ W, Below w.heap.size w W → ∀ r : Nat, (r : Int) ≤ run → Calls Try.prog 42 #[slabV A n c r run d 0, .int .i64 limit] W fun e w' => e = .returned (.bool (p r)) ∧ Below W.heap.size W w') := Lib.hid (by rw [hpp]; exact HS.out)
    clear HS hpp
    simp only [slabV] at *
    obtain ⟨m, rfl⟩ : ∃ m : Nat, run = m := ⟨run.toNat, by omega⟩
    rw [Int.toNat_natCast] at HV
    go_enter Try.func18, Try.ntmps18
    go_wp2_with fail
    refine (HO.out _ ((Below.refl _ _).alloc (Nat.le_refl _) _)).mono ?_
    rintro e w1 ⟨rfl, hb1⟩
    rw [H0.out]
    have K1 := Lib.hid ((Blk.new w 56 #[.slice A n c, .int .i64 m, .int .i64 m, .int .i64 d, .int .i64 0]).below hb1 (by simp))
    have HB := Lib.hid (((Below.refl _ _).alloc (Nat.le_refl _) _).trans (hb1.mono (by simp)))
    clear hb1
    go_wp2
    go_loopw [23] (fun _ wr => ∃ j : Nat, j ≤ m ∧ Hid (downF p m = downF p j) ∧ Hid (Blk wr w.heap.size 56 #[.slice A n c, .int .i64 j, .int .i64 m, .int .i64 d, .int .i64 0]) ∧ Hid (Below w.heap.size w wr)) (fun _ wr => cellNat wr ⟨w.heap.size, 1, none⟩)
    case atStart => exact ⟨m, Nat.le_refl _, Lib.hid rfl, K1, HB⟩
    case round =>
      clear K1 HB w1
      obtain ⟨j, hj, HD, HK, HT⟩ := hrel
      have x0 : wr.cell? ⟨w.heap.size, 0, none⟩ = some (.slice A n c) := HK.out.cell 0
      have x1 : wr.cell? ⟨w.heap.size, 1, none⟩ = some (.int .i64 j) := HK.out.cell 1
      have x2 : wr.cell? ⟨w.heap.size, 2, none⟩ = some (.int .i64 m) := HK.out.cell 2
      have x3 : wr.cell? ⟨w.heap.size, 3, none⟩ = some (.int .i64 d) := HK.out.cell 3
      have x4 : wr.cell? ⟨w.heap.size, 4, none⟩ = some (.int .i64 0) := HK.out.cell 4
      have HKL := Lib.hid HK.out.lt
      by_cases hj0 : j = 0
      · subst hj0
        have HS3 := Lib.hid fun W (hW : Below wr.heap.size wr W) => HS2.out W (HT.out.trans (hW.mono HT.out.size)) 0 (by omega)
        have HP0 : Hid ((if p 0 then ((0 : Int), (0 : Int)) else (0, 3)) = downF p 0) := Lib.hid rfl
        cases hp0 : p 0
        all_goals
          rw [hp0] at HS3 HP0
          clear hp0
          go_wp2
          have qx0 := cell_regrown x0
          have qx1 := cell_regrown x1
          have qx2 := cell_regrown x2
          have qx3 := cell_regrown x3
          have qx4 := cell_regrown x4
          refine wp_region_quiet_below (by kernel_rfl) (by kernel_rfl) ?_
          repeat (first | go_big_quiet_step ((first | (go_at_call 42; exact Calls.regrown_of (HS3.out _ (below_regrown _ _ _))) | (go_at_call 46; exact Calls.regrown_of (quiet_b (orNotFound_c _ _ _))))) | quiet_step ((first | (go_at_call 42; exact Calls.regrown_of (HS3.out _ (below_regrown _ _ _))) | (go_at_call 46; exact Calls.regrown_of (quiet_b (orNotFound_c _ _ _))))))
          refine wpQuiet_nil ?_
          intro W2 B2
          replace B2 := Lib.hid (show Below (wr).heap.size (wr) W2 from by obtain ⟨pq, rfl⟩ := B2; exact below_regrown _ _ _)
          clear qx0 qx1 qx2 qx3 qx4
          go_wp2
          go_ret2
          refine ⟨ret2 ?_ ?_, HT.out.trans (B2.out.mono HT.out.size)⟩
          · rw [HV.out, HD.out, ← HP0.out]; rfl
          · rw [HV.out, HD.out, ← HP0.out]; rfl
      · obtain ⟨i, rfl⟩ : ∃ i, j = i + 1 := ⟨j - 1, by omega⟩
        cases hst : p (i + 1)
        · have HST := Lib.hid hst; clear hst
          go_wp2_with fail
          refine (HS2.out wr HT.out (i + 1) (by omega)).mono ?_
          rintro e w2 ⟨rfl, hb2⟩
          rw [HST.out]
          have HK2 := Lib.hid (HK.out.below hb2 HKL.out)
          have HT2 := Lib.hid (HT.out.trans (hb2.mono HT.out.size))
          have HM := Lib.hid (cellNat_eq x1)
          clear x0 x1 x2 x3 x4 hb2
          have y1 : w2.cell? ⟨w.heap.size, 1, none⟩ = some (.int .i64 ((i + 1 : Nat) : Int)) := HK2.out.cell 1
          have f1 := HK2.out.frozen 1
          go_wp2
          go_roundw
          case rel =>
            refine ⟨i, by omega, Lib.hid (by rw [HD.out, downF_f HST.out]), ?_, Lib.hid (HT2.out.setCell (Nat.le_refl _) _)⟩
            have h := HK2.out.set_ 1 (.int .i64 (i : Int))
            refine Lib.hid ?_
            have e : (((i + 1 : Nat) : Int) - 1) = (i : Int) := by omega
            first | exact h | (rw [e]; exact h) | (simp only [Int.natCast_add, Int.natCast_one, Int.add_sub_cancel]; exact h)
          case measure =>
            rw [HM.out]
            have h := (HK2.out.set_ 1 (.int .i64 (i : Int))).cell 1
            have h' := cellNat_eq (w := w2.setCell ⟨w.heap.size, 1, none⟩ (.int .i64 (i : Int))) (p := ⟨w.heap.size, 1, none⟩) (z := (i : Int)) (by rw [h]; rfl)
            first | (rw [h']; omega) | (simp at h' ⊢; omega)
        · have HST := Lib.hid hst; clear hst
          have HS3 := Lib.hid fun W (hW : Below wr.heap.size wr W) => HS2.out W (HT.out.trans (hW.mono HT.out.size)) (i + 1) (by omega)
          go_wp2_with fail
          refine (HS3.out wr (Below.refl _ _)).mono ?_
          rintro e w2 ⟨rfl, hb2⟩
          rw [HST.out]
          have HK2 := Lib.hid (HK.out.below hb2 HKL.out)
          have HS4 := Lib.hid fun W (hW : Below w2.heap.size w2 W) => HS3.out W (hb2.trans (hW.mono hb2.size))
          rw [HST.out] at HS4
          have HT2 := Lib.hid (HT.out.trans (hb2.mono HT.out.size))
          clear x0 x1 x2 x3 x4 hb2 HS3
          have x0 : w2.cell? ⟨w.heap.size, 0, none⟩ = some (.slice A n c) := HK2.out.cell 0
          have x1 : w2.cell? ⟨w.heap.size, 1, none⟩ = some (.int .i64 ((i + 1 : Nat) : Int)) := HK2.out.cell 1
          have x2 : w2.cell? ⟨w.heap.size, 2, none⟩ = some (.int .i64 m) := HK2.out.cell 2
          have x3 : w2.cell? ⟨w.heap.size, 3, none⟩ = some (.int .i64 d) := HK2.out.cell 3
          have x4 : w2.cell? ⟨w.heap.size, 4, none⟩ = some (.int .i64 0) := HK2.out.cell 4
          go_wp2
          have qx0 := cell_regrown x0
          have qx1 := cell_regrown x1
          have qx2 := cell_regrown x2
          have qx3 := cell_regrown x3
          have qx4 := cell_regrown x4
          refine wp_region_quiet_below (by kernel_rfl) (by kernel_rfl) ?_
          repeat (first | go_big_quiet_step ((first | (go_at_call 42; exact Calls.regrown_of (HS4.out _ (below_regrown _ _ _))) | (go_at_call 46; exact Calls.regrown_of (quiet_b (orNotFound_c _ _ _))))) | quiet_step ((first | (go_at_call 42; exact Calls.regrown_of (HS4.out _ (below_regrown _ _ _))) | (go_at_call 46; exact Calls.regrown_of (quiet_b (orNotFound_c _ _ _))))))
          refine wpQuiet_nil ?_
          intro W3 B3
          replace B3 := Lib.hid (show Below (w2).heap.size (w2) W3 from by obtain ⟨pq, rfl⟩ := B3; exact below_regrown _ _ _)
          clear qx0 qx1 qx2 qx3 qx4
          go_wp2
          go_ret2
          refine ⟨ret2 ?_ ?_, HT2.out.trans (B3.out.mono HT2.out.size)⟩
          · rw [HV.out, HD.out, downF_t HST.out] <;> rfl
          · rw [HV.out, HD.out, downF_t HST.out] <;> rfl
  · have hne : (codeV ls 0 run d limit != 0) = true := by simpa using h0
    have HV : Hid (steepV ls run d limit = (0, codeV ls 0 run d limit)) := Lib.hid (by rw [steepV, if_pos h0])
    clear h0
    go_enter Try.func18, Try.ntmps18
    go_wp2_with fail
    refine (HO.out _ ((Below.refl _ _).alloc (Nat.le_refl _) _)).mono ?_
    rintro e w1 ⟨rfl, hb1⟩
    have HB := Lib.hid (((Below.refl _ _).alloc (Nat.le_refl _) _).trans (hb1.mono (by simp)))
    clear hb1
    go_wp2
    go_ret2
    exact ⟨ret2 (by rw [HV.out]) (by rw [HV.out]), HB.out⟩
def DownRel (p : Nat → Bool) (m : Nat) (z : Int) : Prop := (∃ j : Nat, j ≤ m ∧ z = j ∧ downF p m = downF p j) ∨ (z = -1 ∧ downF p m = (0, 3))
set_option maxHeartbeats 2000000 in
theorem sSteepestFor_c (A : Option Addr) (n c BA : Nat) (ls : List Lay) (run d limit : Int) (w : World) (ha : Reads w BA 7 A n (lays ls)) (hB : BA ≤ w.heap.size) (hn : n ≤ 1048576) (hnc : n ≤ c) :
    Calls Try.prog 17 #[.slice A n c, .int .i64 run, .int .i64 d, .int .i64 limit] w fun e w' => e = .returned (.tuple #[.int .i64 (steepV ls run d limit).1, .int .i64 (steepV ls run d limit).2]) ∧ Below w.heap.size w w' := by
  have HO := Lib.hid (l07Ask_c A n c BA ls 0 run d w ha (by omega))
  have HC := Lib.hid (codeV_ask ls 0 run d limit)
  by_cases h0 : askV ls 0 run d = 0
  · obtain ⟨hp, h1, h2⟩ := askV_zero h0
    have hrun : 1 ≤ run ∧ run ≤ 1000 := by simp only [slopeB, inB, Bool.and_eq_true, decide_eq_true_eq] at h1; exact h1.2
    obtain ⟨r0, r1⟩ := hrun
    have HS := Lib.hid fun (hl : limit ≤ 1000000) W (hW : Below w.heap.size w W) (r : Nat) (hr : (r : Int) ≤ run) => l07Stable_c A n c BA ls 0 r run d limit W (ha.below (hW.mono hB)) (by have := hW.size; omega) hnc hp (args_of (by omega) (by omega) (by simp only [slopeB, inB, Bool.and_eq_true, decide_eq_true_eq]; omega) h2) hl
    have H0 := Lib.hid h0
    clear h0 hp h1 h2 ha
    cases hl : inB limit 0 1000000
    · have HV : Hid (steepV ls run d limit = (0, 2)) := Lib.hid (by rw [steepV, HC.out, if_pos H0.out, hl]; rfl)
      go_enter Try.func17, Try.ntmps17
      go_wp2_with fail
      refine HO.out.mono ?_
      rintro e w' ⟨rfl, rfl⟩
      rw [H0.out]
      go_wp2_with (go_at_call 38; refine (l07Limit_c _ _).mono ?_; rintro e w' ⟨rfl, rfl⟩)
      go_ret2
      exact ⟨ret2 (by rw [HV.out]) (by rw [HV.out]), Below.refl _ _⟩
    · have hl2 : limit ≤ 1000000 := by simp only [inB, decide_eq_true_eq] at hl; omega
      have HV : Hid (steepV ls run d limit = downF (fun r : Nat => stabV ls 0 r run d limit) run.toNat) := Lib.hid (by rw [steepV, HC.out, if_pos H0.out, hl]; rfl)
      have HL := Lib.hid hl; clear hl
      obtain ⟨p, hpp⟩ : ∃ p : Nat → Bool, p = fun r : Nat => stabV ls 0 r run d limit := ⟨_, rfl⟩
      rw [← hpp] at HV
      have HS2 : Hid (∀ W, Below w.heap.size w W → ∀ r : Nat, (r : Int) ≤ run → Calls Try.prog 39 #[.slice A n c, .int .i64 0, .int .i64 r, .int .i64 run, .int .i64 d, .int .i64 limit] W fun e w' => e = .returned (.bool (p r)) ∧ Below W.heap.size W w') := Lib.hid (by rw [hpp]; exact HS.out hl2)
      clear HS hpp hl2
      obtain ⟨m, rfl⟩ : ∃ m : Nat, run = m := ⟨run.toNat, by omega⟩
      rw [Int.toNat_natCast] at HV
      go_enter Try.func17, Try.ntmps17
      go_wp2_with fail
      refine HO.out.mono ?_
      rintro e w' ⟨rfl, rfl⟩
      rw [H0.out]
      go_wp2_with fail
      refine (l07Limit_c _ _).mono ?_
      rintro e w' ⟨rfl, rfl⟩
      rw [HL.out]
      go_wp2
      go_loopw [11] (fun s wr => ∃ z : Int, s = .int .i64 z ∧ Hid (DownRel p m z) ∧ Hid (Below w.heap.size w wr)) (fun s _ => (intOf s + 1).toNat)
      case atStart => exact ⟨m, rfl, Lib.hid (.inl ⟨m, Nat.le_refl _, rfl, rfl⟩), Lib.hid (Below.refl _ _)⟩
      case round =>
        obtain ⟨z, rfl, HD, HT⟩ := hrel
        rcases HD.out with ⟨j, hj, rfl, hd⟩ | ⟨rfl, hd⟩
        · have HDD := Lib.hid hd
          clear hd
          go_wp2_with fail
          refine (HS2.out wr HT.out j (by omega)).mono ?_
          rintro e w2 ⟨rfl, hb2⟩
          have HT2 := Lib.hid (HT.out.trans (hb2.mono HT.out.size))
          clear hb2
          cases hst : p j
          · have HST := Lib.hid hst; clear hst
            go_wp2
            go_roundw
            case rel =>
              refine ⟨(j : Int) - 1, rfl, Lib.hid ?_, HT2⟩
              cases j with
              | zero => right; refine ⟨by omega, ?_⟩; rw [HDD.out, downF, HST.out]; rfl
              | succ i => left; exact ⟨i, by omega, by omega, by rw [HDD.out, downF_f HST.out]⟩
            case measure => simp [intOf] <;> omega
          · have HST := Lib.hid hst; clear hst
            go_wp2
            go_ret2
            exact ⟨ret2 (by rw [HV.out, HDD.out, downF_t HST.out]) (by rw [HV.out, HDD.out, downF_t HST.out]), HT2.out⟩
        · have HDD := Lib.hid hd
          clear hd
          go_wp2
          go_ret2
          exact ⟨ret2 (by rw [HV.out, HDD.out]) (by rw [HV.out, HDD.out]), HT.out⟩
  · have hne : (askV ls 0 run d != 0) = true := by simpa using h0
    have HV : Hid (steepV ls run d limit = (0, askV ls 0 run d)) := Lib.hid (by rw [steepV, HC.out, if_neg h0, if_pos h0])
    clear ha h0
    go_enter Try.func17, Try.ntmps17
    go_wp2_with fail
    refine HO.out.mono ?_
    rintro e w' ⟨rfl, rfl⟩
    go_wp2
    go_ret2
    exact ⟨ret2 (by rw [HV.out]) (by rw [HV.out]), Below.refl _ _⟩
end Go.Proofs.Ytipchejcgbmpgaa
