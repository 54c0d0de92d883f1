/- The levels of chapter 17: codes, counts, the worst one, the longest series. -/
import Derived.Test.YtbienjiinokhoaaSl
namespace Go.Proofs.Ytbienjiinokhoaa
open Go.ChangeShapes Go.WideShapes Go.ChangeAt Go.RowKit
set_option linter.unusedVariables false

def levelsCodeV (zs : List Int) : Int := if allInB 1 5 zs then (if 64 < zs.length then 7 else 0) else 2

theorem all_take_snoc {p : Int → Bool} {zs : List Int} {k : Nat} {z : Int} (hz : zs[k]? = some z) (h : (zs.take k).all p = true) (hp : p z = true) : (zs.take (k + 1)).all p = true := by
  rw [take_snoc' hz]; simp [h, hp]
theorem not_all_of {p : Int → Bool} {zs : List Int} {k : Nat} {z : Int} (hz : zs[k]? = some z) (hp : p z = false) : zs.all p = false := by
  rw [List.all_eq_false]
  exact ⟨z, List.mem_of_getElem? hz, by simp [hp]⟩

set_option maxHeartbeats 400000 in
theorem l17Levels_c (A : Option Addr) (n c BA : Nat) (zs : List Int) (w : World) (ha : Reads w BA 1 A n (ints zs)) (hn : n ≤ 1152921504606846976) :
    Calls Try.prog 30 #[.slice A n c] w fun e w' => e = .returned (.int .i64 (levelsCodeV zs)) ∧ Below w.heap.size w w' := by
  have HL := Lib.hid ha.len
  go_enter Try.func30, Try.ntmps30
  go_wp2
  go_loop [3] (fun i => ∃ k : Nat, k ≤ n ∧ i = .int .i64 k ∧ Hid (allInB 1 5 (zs.take k) = true)) (fun i => n - (intOf i).toNat)
  case atStart => exact ⟨0, Nat.zero_le _, rfl, Lib.hid (by simp [allInB])⟩
  case round =>
    obtain ⟨k, hk, rfl, HA⟩ := hrel
    by_cases hlt : k < n
    · obtain ⟨ad, z, rfl, _, hzk, hc⟩ := ha.int hlt
      have HZ := Lib.hid hzk
      clear hzk ha
      cases hp : inB z 1 5
      · go_wp2_with (go_at_call 34; refine (l17Is_c _ _).mono ?_; rintro e w' ⟨rfl, rfl⟩)
        go_ret
        refine ⟨ret_int ?_, Below.refl _ _⟩
        unfold levelsCodeV
        rw [show allInB 1 5 zs = false from not_all_of (p := fun z => inB z 1 5) HZ.out hp]
        rfl
      · go_wp2_with (go_at_call 34; refine (l17Is_c _ _).mono ?_; rintro e w' ⟨rfl, rfl⟩)
        go_round
        case rel => exact ⟨k + 1, by omega, by go_num, Lib.hid (all_take_snoc HZ.out HA.out hp)⟩
        case measure => simp [intOf]; omega
    · obtain rfl : k = n := by omega
      clear ha
      have HV : Hid (levelsCodeV zs = if 64 < k then 7 else 0) := by
        have h := HA.out
        rw [List.take_of_length_le (by have := HL.out; omega)] at h
        unfold levelsCodeV
        rw [h, HL.out]
        exact Lib.hid rfl
      by_cases h64 : 64 < k
      · go_wp2
        go_ret
        exact ⟨ret_int (by rw [HV.out, if_pos h64]), Below.refl _ _⟩
      · go_wp2
        go_ret
        exact ⟨ret_int (by rw [HV.out, if_neg h64]), Below.refl _ _⟩

theorem levelsCode_c (A : Option Addr) (n c BA : Nat) (zs : List Int) (w : World) (ha : Reads w BA 1 A n (ints zs)) (hB : BA ≤ w.heap.size) (hn : n ≤ 1152921504606846976) :
    Calls Try.prog 31 #[.slice A n c] w fun e w' => e = .returned (.int .i64 (levelsCodeV zs)) ∧ Below w.heap.size w w' := by
  have hc := allWithin_c A n c BA zs 1 5 w ha hB hn
  have HL := Lib.hid ha.len
  have HV : Hid (levelsCodeV zs = if allInB 1 5 zs then (if 64 < n then 7 else 0) else 2) := by rw [← HL.out]; exact Lib.hid rfl
  clear ha
  cases hb : allInB 1 5 zs
  · rw [hb] at hc HV
    go_enter Try.func31, Try.ntmps31
    go_wp2_with fail
    refine hc.mono ?_
    rintro e w1 ⟨rfl, hb1⟩
    clear hc
    go_wp2
    go_ret
    exact ⟨ret_int HV.out.symm, hb1⟩
  · rw [hb] at hc HV
    go_enter Try.func31, Try.ntmps31
    go_wp2_with fail
    refine hc.mono ?_
    rintro e w1 ⟨rfl, hb1⟩
    clear hc
    by_cases h64 : 64 < n
    · go_wp2
      go_ret
      exact ⟨ret_int (by rw [HV.out]; simp [h64]), hb1⟩
    · go_wp2
      go_ret
      exact ⟨ret_int (by rw [HV.out]; simp [h64]), hb1⟩

end Go.Proofs.Ytbienjiinokhoaa
