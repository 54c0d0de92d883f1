/- Names: IsName and l01Name. -/
import Derived.Test.YteklfeeamjgplaaDoorRgG
namespace Go.Proofs.YteklfeeamjgplaaDoor
open Go.ChangeShapes Go.WideShapes Go.ChangeAt Go.RowKit
set_option linter.unusedVariables false

theorem toList_len (s : ByteArray) : s.toList.length = s.size := by rw [ByteArray.toList_eq]; rfl
def byteAt (s : ByteArray) (i : Nat) : Int := ((s[i]?).getD 0).toNat
theorem byteAt_bd (s : ByteArray) (i : Nat) : 0 ≤ byteAt s i ∧ byteAt s i ≤ 255 := by
  unfold byteAt; have := ((s[i]?).getD 0).toNat_lt; omega
theorem byteAt_eq {s : ByteArray} {k : Nat} (h : k < s.size) : (((s[k]'h).toNat : Nat) : Int) = byteAt s k := by rw [byteAt, getElem?_pos s k h]; rfl
def smallU (b : Int) : Bool := decide (97 ≤ b ∧ b ≤ 122)
def digitU (b : Int) : Bool := decide (48 ≤ b ∧ b ≤ 57)
def okU (b : Int) : Bool := smallU b || digitU b
def okN (s : ByteArray) (k : Nat) : Bool := (List.range k).all fun i => okU (byteAt s i)
theorem okN_succ (s : ByteArray) (k : Nat) : okN s (k + 1) = (okN s k && okU (byteAt s k)) := by simp [okN, List.range_succ]
theorem okN_no {s : ByteArray} {k n : Nat} (hk : k < n) (h : okU (byteAt s k) = false) : okN s n = false := by
  unfold okN
  exact List.all_eq_false.2 ⟨k, List.mem_range.2 hk, by simp [h]⟩
def nameV (s : ByteArray) : Bool := decide (1 ≤ s.size ∧ s.size ≤ 10) && smallU (byteAt s 0) && okN s s.size
set_option maxHeartbeats 1000000 in
theorem onlyNameBytes_c (s : ByteArray) (w : World) (hs : s.size ≤ 1152921504606846976) :
    Calls Tryd.prog 53 #[.string s] w fun e w' => e = .returned (.bool (okN s s.size)) ∧ w = w' := by
  go_enter Tryd.func53, Tryd.ntmps53
  go_wp2
  go_loop [7] (fun i => ∃ k : Nat, k ≤ s.size ∧ i = .int .i64 k ∧ Hid (okN s k = true)) (fun i => s.size - (intOf i).toNat)
  case atStart => exact ⟨0, Nat.zero_le _, rfl, Lib.hid rfl⟩
  case round =>
    obtain ⟨k, hk, rfl, HT⟩ := hrel
    by_cases hlt : k < s.size
    · have hkn : (k : Int) < (s.size : Int) := by omega
      have HBE := Lib.hid (byteAt_eq hlt)
      go_wp2
      all_goals have hbe := HBE.out
      all_goals first
        | (exfalso; omega)
        | (go_ret; exact ⟨ret_bool (okN_no hlt (by simp only [okU, smallU, digitU, Bool.or_eq_false_iff, decide_eq_false_iff_not]; omega)).symm, rfl⟩)
        | (go_round
           case rel => exact ⟨k + 1, by omega, by go_num, Lib.hid (by rw [okN_succ, HT.out]; simp only [okU, smallU, digitU, Bool.true_and, Bool.or_eq_true, decide_eq_true_eq]; omega)⟩
           case measure => simp [intOf]; omega)
    · obtain rfl : k = s.size := by omega
      go_wp2
      go_ret
      exact ⟨ret_bool HT.out.symm, rfl⟩
set_option maxHeartbeats 1000000 in
theorem iIsName_c (s : ByteArray) (w : World) :
    Calls Tryd.prog 37 #[.string s] w fun e w' => e = .returned (.bool (nameV s)) ∧ w = w' := by
  have HN := Lib.hid (show nameV s = (decide (1 ≤ s.size ∧ s.size ≤ 10) && smallU (byteAt s 0) && okN s s.size) from rfl)
  by_cases h1 : 1 ≤ s.size ∧ s.size ≤ 10
  · have h0 : 0 < s.size := by omega
    have HBE := Lib.hid (byteAt_eq h0)
    have HL := Lib.hid (onlyNameBytes_c s w (by omega))
    by_cases hsm : 97 ≤ byteAt s 0 ∧ byteAt s 0 ≤ 122
    · have HV : Hid (nameV s = okN s s.size) := Lib.hid (by rw [HN.out, decide_eq_true h1, smallU, decide_eq_true hsm]; simp)
      clear HN
      go_enter Tryd.func37, Tryd.ntmps37
      go_wp2_with fail
      all_goals have hbe := HBE.out
      all_goals first
        | (exfalso; omega)
        | skip
      all_goals
        refine HL.out.mono ?_
        rintro e w' ⟨rfl, rfl⟩
        clear hbe
        go_wp2
        go_ret
        exact ⟨ret_bool HV.out.symm, rfl⟩
    · have HV : Hid (nameV s = false) := Lib.hid (by rw [HN.out, smallU, decide_eq_false hsm]; simp)
      clear HN
      go_enter Tryd.func37, Tryd.ntmps37
      go_wp2_with fail
      all_goals have hbe := HBE.out
      all_goals first
        | (exfalso; omega)
        | (go_ret; exact ⟨ret_bool HV.out.symm, rfl⟩)
  · have HV : Hid (nameV s = false) := Lib.hid (by rw [HN.out, decide_eq_false h1]; simp)
    clear HN
    go_enter Tryd.func37, Tryd.ntmps37
    go_wp2
    all_goals first
      | (exfalso; omega)
      | (go_ret; exact ⟨ret_bool HV.out.symm, rfl⟩)
theorem l01Small_c (z : Int) (w : World) : Calls Tryd.prog 50 #[.int .u8 z] w fun e w' => e = .returned (.bool (smallU z)) ∧ w = w' := by
  go_enter Tryd.func50, Tryd.ntmps50
  go_wp2
  all_goals (go_ret; exact ⟨ret_bool (by simp [smallU]; omega), rfl⟩)
theorem l01Digit_c (z : Int) (w : World) : Calls Tryd.prog 51 #[.int .u8 z] w fun e w' => e = .returned (.bool (digitU z)) ∧ w = w' := by
  go_enter Tryd.func51, Tryd.ntmps51
  go_wp2
  all_goals (go_ret; exact ⟨ret_bool (by simp [digitU]; omega), rfl⟩)
set_option maxHeartbeats 1000000 in
theorem l01Name_c (s : ByteArray) (w : World) :
    Calls Tryd.prog 31 #[.string s] w fun e w' => e = .returned (.bool (nameV s)) ∧ w = w' := by
  have HN := Lib.hid (show nameV s = (decide (1 ≤ s.size ∧ s.size ≤ 10) && smallU (byteAt s 0) && okN s s.size) from rfl)
  have hemp : (s.toList == []) = decide (s.size = 0) := by
    have e : s.toList.length = s.size := toList_len s
    rw [Bool.eq_iff_iff, beq_iff_eq, decide_eq_true_iff]
    constructor
    · intro h; rw [h] at e; simpa using e.symm
    · intro h; rw [h] at e; exact List.eq_nil_of_length_eq_zero e
  by_cases h1 : 1 ≤ s.size ∧ s.size ≤ 10
  · have h0 : 0 < s.size := by omega
    have h0' : (0 : Int) < (s.size : Int) := by omega
    rw [decide_eq_false (by omega)] at hemp
    have HBE := Lib.hid fun k (h : k < s.size) => byteAt_eq h
    cases hsm : smallU (byteAt s 0)
    · have HV : Hid (nameV s = false) := Lib.hid (by rw [HN.out, hsm]; simp)
      have HSM := Lib.hid hsm
      clear HN
      go_enter Tryd.func31, Tryd.ntmps31
      go_wp2_with fail
      refine (l01Small_c _ _).mono ?_
      rintro e w' ⟨rfl, rfl⟩
      rw [HBE.out 0 h0, HSM.out]
      go_wp2
      go_ret
      exact ⟨ret_bool HV.out.symm, rfl⟩
    · have HV : Hid (nameV s = okN s s.size) := Lib.hid (by rw [HN.out, decide_eq_true h1, hsm]; simp)
      have HSM := Lib.hid hsm
      clear HN
      go_enter Tryd.func31, Tryd.ntmps31
      go_wp2_with fail
      refine (l01Small_c _ _).mono ?_
      rintro e w' ⟨rfl, rfl⟩
      rw [HBE.out 0 h0, HSM.out]
      clear hemp
      go_wp2
      go_loop [3] (fun i => ∃ k : Nat, k ≤ s.size ∧ i = .int .i64 k ∧ Hid (okN s k = true)) (fun i => s.size - (intOf i).toNat)
      case atStart => exact ⟨0, Nat.zero_le _, rfl, Lib.hid rfl⟩
      case round =>
        obtain ⟨k, hk, rfl, HT⟩ := hrel
        by_cases hlt : k < s.size
        · have hkn : (k : Int) < (s.size : Int) := by omega
          go_wp2_with fail
          refine (l01Small_c _ _).mono ?_
          rintro e w' ⟨rfl, rfl⟩
          rw [HBE.out k hlt]
          cases h2 : smallU (byteAt s k)
          · go_wp2_with fail
            refine (l01Digit_c _ _).mono ?_
            rintro e w' ⟨rfl, rfl⟩
            rw [HBE.out k hlt]
            cases h3 : digitU (byteAt s k)
            · have HNO := Lib.hid (okN_no hlt (show okU (byteAt s k) = false by rw [okU, h2, h3]; rfl))
              clear h2 h3
              go_wp2
              go_ret
              exact ⟨ret_bool (by rw [HV.out, HNO.out]), rfl⟩
            · have HYES : Hid (okN s (k + 1) = true) := Lib.hid (by rw [okN_succ, HT.out, okU, h2, h3]; rfl)
              clear h2 h3
              go_wp2
              go_round
              case rel => exact ⟨k + 1, by omega, by go_num, HYES⟩
              case measure => simp [intOf]; omega
          · have HYES : Hid (okN s (k + 1) = true) := Lib.hid (by rw [okN_succ, HT.out, okU, h2]; rfl)
            clear h2
            go_wp2
            go_round
            case rel => exact ⟨k + 1, by omega, by go_num, HYES⟩
            case measure => simp [intOf]; omega
        · obtain rfl : k = s.size := by omega
          go_wp2
          go_ret
          exact ⟨ret_bool (by rw [HV.out, HT.out]), rfl⟩
  · have HV : Hid (nameV s = false) := Lib.hid (by rw [HN.out, decide_eq_false h1]; simp)
    clear HN
    by_cases h2 : s.size = 0
    · rw [decide_eq_true h2] at hemp
      go_enter Tryd.func31, Tryd.ntmps31
      go_wp2
      go_ret
      exact ⟨ret_bool HV.out.symm, rfl⟩
    · rw [decide_eq_false h2] at hemp
      have h3 : (10 : Int) < (s.size : Int) := by omega
      go_enter Tryd.func31, Tryd.ntmps31
      go_wp2
      go_ret
      exact ⟨ret_bool HV.out.symm, rfl⟩
end Go.Proofs.YteklfeeamjgplaaDoor
