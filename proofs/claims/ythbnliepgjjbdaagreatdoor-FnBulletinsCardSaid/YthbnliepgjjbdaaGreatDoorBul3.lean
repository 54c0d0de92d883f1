/- MeaningOf: both functions answer the same; the exact law. -/
import Derived.Test.YthbnliepgjjbdaaGreatDoorBul2
namespace Go.Proofs.YthbnliepgjjbdaaGreatDoor
open Go.ChangeShapes Go.WideShapes Go.ChangeAt Go.RowKit
set_option linter.unusedVariables false

def meanV (ss : List Sen) (kind : Int) : Int × Int × Int :=
  match bulB ss, inB kind 1 7, ss.find? (fun s => s.k == kind) with
  | false, _, _ => (0, 0, 1)
  | true, false, _ => (0, 0, 2)
  | true, true, none => (0, 0, 3)
  | true, true, some s => (s.a, s.b, 0)
def MeanPost (ss : List Sen) (kind : Int) (w : World) (e : Ending) (w' : World) : Prop :=
  e = .returned (.tuple #[.int .i64 (meanV ss kind).1, .int .i64 (meanV ss kind).2.1, .int .i64 (meanV ss kind).2.2]) ∧ Below w.heap.size w w'
theorem find_at {p : Sen → Bool} {ss : List Sen} {k : Nat} {s : Sen} (h : (ss.take k).find? p = none) (hs : ss[k]? = some s) (hp : p s = true) : ss.find? p = some s := by
  rw [drop_cons_get' hs, List.find?_append, h]
  simp [hp]
theorem find_next {p : Sen → Bool} {ss : List Sen} {k : Nat} {s : Sen} (h : (ss.take k).find? p = none) (hs : ss[k]? = some s) (hp : p s = false) : (ss.take (k + 1)).find? p = none := by
  rw [List.take_add_one, hs, List.find?_append, h]
  simp [hp]
set_option maxHeartbeats 1000000 in
theorem iMeaningOf_c (A : Option Addr) (n c BA : Nat) (ss : List Sen) (kind : Int) (w : World) (ha : Reads w BA 3 A n (sens ss)) (hA : BA ≤ w.heap.size) (hn : n ≤ 1152921504606846976) :
    Calls Tryz.prog 10 #[.slice A n c, .int .i64 kind] w (MeanPost ss kind w) := by
  have hc := iValidBulletin_c A n c BA ss w ha hA hn
  cases hb : bulB ss
  · rw [hb] at hc
    have HB := Lib.hid hb; clear hb ha
    go_enter Tryz.func10, Tryz.ntmps10
    go_wp2_with fail
    refine hc.mono ?_
    rintro e w1 ⟨rfl, B1⟩
    clear hc
    go_wp2
    go_ret3
    exact ⟨by rw [meanV, HB.out]; rfl, B1⟩
  · rw [hb] at hc
    have HB := Lib.hid hb; clear hb
    cases hr : inB kind 1 7
    · clear ha
      go_enter Tryz.func10, Tryz.ntmps10
      go_wp2_with fail
      refine hc.mono ?_
      rintro e w1 ⟨rfl, B1⟩
      clear hc
      go_wp2_with (first | (go_at_call 17; refine (within_c _ _ _ _).mono ?_; rintro e w' ⟨rfl, rfl⟩))
      go_ret3
      exact ⟨by rw [meanV, HB.out, hr]; rfl, B1⟩
    · have HL := Lib.hid ha.senLen
      go_enter Tryz.func10, Tryz.ntmps10
      go_wp2_with fail
      refine hc.mono ?_
      rintro e w1 ⟨rfl, B1⟩
      clear hc
      have ha1 := ha.below (B1.mono hA)
      have T1 := Lib.hid B1
      have hs1 := B1.size
      clear ha B1
      go_wp2_with (first | (go_at_call 17; refine (within_c _ _ _ _).mono ?_; rintro e w' ⟨rfl, rfl⟩))
      have HR := Lib.hid hr; clear hr
      go_loopw [19] (fun i wr => ∃ k : Nat, k ≤ n ∧ i = .int .i64 k ∧ Hid ((ss.take k).find? (fun s => s.k == kind) = none) ∧ Hid (Below w1.heap.size w1 wr)) (fun i _ => n - (intOf i).toNat)
      case atStart => exact ⟨0, Nat.zero_le _, rfl, Lib.hid rfl, Lib.hid (Below.refl _ _)⟩
      case round =>
        obtain ⟨k, hk, rfl, HF, HT⟩ := hrel
        by_cases hlt : k < n
        · obtain ⟨ad, s, rfl, hbl, hs, c0, c1, c2⟩ := (ha1.below (HT.out.mono (by omega))).sen hlt
          have HS := Lib.hid hs
          have hk' : (k : Int) < (n : Int) := by omega
          have hsT := HT.out.size
          clear hs ha1
          by_cases hkk : s.k = kind
          · have hkt : (s.k == kind) = true := by simp [hkk]
            have HKT := Lib.hid hkt
            clear hkk
            go_wp2
            go_quiet (fail)
            go_wp2
            go_ret3
            exact ⟨by rw [meanV, HB.out, HR.out, find_at HF.out HS.out HKT.out]; rfl, T1.out.trans ((below_drewN (HT.out.alloc hsT _) _).mono T1.out.size)⟩
          · have hkt : (s.k == kind) = false := by simp [hkk]
            have HKT := Lib.hid hkt
            clear hkk
            go_wp2
            go_roundw
            case rel => exact ⟨k + 1, by omega, by go_num, Lib.hid (find_next HF.out HS.out HKT.out), Lib.hid (HT.out.alloc hsT _)⟩
            case measure => simp [intOf]; omega
        · obtain rfl : k = n := by omega
          clear ha1
          go_wp2
          go_ret3
          exact ⟨by rw [meanV, HB.out, HR.out]; have h := HF.out; rw [List.take_of_length_le (by have := HL.out; omega)] at h; rw [h]; rfl, T1.out.trans (HT.out.mono T1.out.size)⟩

end Go.Proofs.YthbnliepgjjbdaaGreatDoor
