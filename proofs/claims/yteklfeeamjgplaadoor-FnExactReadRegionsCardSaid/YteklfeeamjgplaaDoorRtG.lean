/- A number read from a text, by the reference, as far as levels go. -/
import Derived.Test.YteklfeeamjgplaaDoorRtC
import Derived.Test.YteklfeeamjgplaaDoorRgH
namespace Go.Proofs.YteklfeeamjgplaaDoor
open Go.ChangeShapes Go.WideShapes Go.ChangeAt Go.RowKit
set_option linter.unusedVariables false
def numK (s : ByteArray) (a : Nat) : Nat → Int
  | 0 => 0
  | k + 1 => if k < a then 0 else 10 * numK s a k + (byteAt s k - 48)
theorem numK_at {s : ByteArray} {a k : Nat} (h : a ≤ k) : numK s a (k + 1) = 10 * numK s a k + (byteAt s k - 48) := by rw [numK, if_neg (by omega)]
theorem numK_a (s : ByteArray) (a : Nat) : numK s a a = 0 := by
  cases a with
  | zero => rfl
  | succ a => rw [numK, if_pos (by omega)]
def digs (s : ByteArray) (a k : Nat) : Prop := ∀ j, a ≤ j → j < k → 48 ≤ byteAt s j ∧ byteAt s j ≤ 57
theorem numK_bd {s : ByteArray} {a : Nat} : ∀ d : Nat, digs s a (a + d) → 0 ≤ numK s a (a + d) ∧ numK s a (a + d) < (10 ^ d : Nat)
  | 0, _ => by rw [Nat.add_zero, numK_a]; simp
  | d + 1, h => by
    have ih := numK_bd d (fun j h1 h2 => h j h1 (by omega))
    have hb := h (a + d) (by omega) (by omega)
    rw [← Nat.add_assoc, numK_at (by omega), Nat.pow_succ]
    omega
theorem pow17 {d : Nat} (h : d ≤ 17) : (10 ^ d : Nat) ≤ 100000000000000000 := Nat.le_trans (Nat.pow_le_pow_right (by omega) h) (by decide)
theorem pow18 {d : Nat} (h : d ≤ 18) : (10 ^ d : Nat) ≤ 1000000000000000000 := Nat.le_trans (Nat.pow_le_pow_right (by omega) h) (by decide)
theorem numK_first {s : ByteArray} : ∀ d : Nat, digs s 0 (d + 1) → byteAt s 0 - 48 ≤ numK s 0 (d + 1)
  | 0, h => by rw [numK_at (by omega), numK_a]; omega
  | d + 1, h => by
    have ih := numK_first d (fun j h1 h2 => h j h1 (by omega))
    have hb := h (d + 1) (by omega) (by omega)
    have h0 := h 0 (by omega) (by omega)
    rw [numK_at (by omega)]; omega
theorem decZ_byte {y : Int} (h : 1 ≤ y ∧ y ≤ 5) : (decZ y).size = 1 ∧ byteAt (decZ y) 0 = 48 + y := by
  have h5 : y = 1 ∨ y = 2 ∨ y = 3 ∨ y = 4 ∨ y = 5 := by omega
  have e : ∀ m : Nat, 1 ≤ m → m ≤ 5 → decZ m = ⟨#[UInt8.ofNat (48 + m)]⟩ := fun m h1 h2 => by
    unfold decZ Lib.itoa
    rw [if_neg (by omega), Int.toNat_natCast, Lib.decDigits_one (by omega)]
  rcases h5 with rfl | rfl | rfl | rfl | rfl
  · rw [show (1 : Int) = ((1 : Nat) : Int) from rfl, e 1 (by omega) (by omega)]; exact ⟨rfl, by decide⟩
  · rw [show (2 : Int) = ((2 : Nat) : Int) from rfl, e 2 (by omega) (by omega)]; exact ⟨rfl, by decide⟩
  · rw [show (3 : Int) = ((3 : Nat) : Int) from rfl, e 3 (by omega) (by omega)]; exact ⟨rfl, by decide⟩
  · rw [show (4 : Int) = ((4 : Nat) : Int) from rfl, e 4 (by omega) (by omega)]; exact ⟨rfl, by decide⟩
  · rw [show (5 : Int) = ((5 : Nat) : Int) from rfl, e 5 (by omega) (by omega)]; exact ⟨rfl, by decide⟩
theorem one_byte {s t : ByteArray} (hs : s.size = 1) (ht : t.size = 1) (h : byteAt s 0 = byteAt t 0) : s = t := by
  obtain ⟨⟨ls⟩⟩ := s
  obtain ⟨⟨lt⟩⟩ := t
  have h1 : ls.length = 1 := hs
  have h2 : lt.length = 1 := ht
  obtain ⟨a, rfl⟩ := List.length_eq_one_iff.1 h1
  obtain ⟨b, rfl⟩ := List.length_eq_one_iff.1 h2
  have e : a.toNat = b.toNat := by
    have h3 : byteAt ⟨⟨[a]⟩⟩ 0 = (a.toNat : Nat) := rfl
    have h4 : byteAt ⟨⟨[b]⟩⟩ 0 = (b.toNat : Nat) := rfl
    omega
  rw [UInt8.toNat_inj.1 e]
theorem num_no {s : ByteArray} (h : s.size ≠ 1 ∨ byteAt s 0 < 49 ∨ 53 < byteAt s 0) : ∀ y, 1 ≤ y ∧ y ≤ 5 → s ≠ decZ y := by
  intro y hy e
  have h1 := decZ_byte hy
  rw [← e] at h1
  omega
theorem num_yes0 {s : ByteArray} (h0 : 0 < s.size) (h : digs s 0 s.size) (hz : ¬ (byteAt s 0 = 48 ∧ 1 < s.size)) : digD s (numK s 0 s.size) := by
  have hb := h 0 (Nat.le_refl _) h0
  have one : s.size = 1 → numK s 0 s.size = byteAt s 0 - 48 := fun e => by rw [e, numK_at (Nat.le_refl _), numK_a]; omega
  refine ⟨fun hz5 => ?_, fun y hy e => ?_⟩
  · have h1 : s.size = 1 := by
      rcases Nat.lt_or_ge 1 s.size with h2 | h2
      · exfalso
        obtain ⟨d, hd⟩ : ∃ d, s.size = d + 2 := ⟨s.size - 2, by omega⟩
        have h3 := numK_first (s := s) d (fun j h1 h2 => h j h1 (by omega))
        have h4 := h (d + 1) (by omega) (by omega)
        have h5 : numK s 0 (d + 2) = 10 * numK s 0 (d + 1) + (byteAt s (d + 1) - 48) := numK_at (by omega)
        rw [hd] at hz5
        omega
      · omega
    have h2 := one h1
    have h3 := decZ_byte hz5
    exact one_byte h1 h3.1 (by rw [h3.2]; omega)
  · have h1 := decZ_byte hy
    rw [← e] at h1
    rw [one h1.1]; omega
theorem num_yes1 {s : ByteArray} (hb : byteAt s 0 = 45) (h : digs s 1 s.size) (h0 : 1 ≤ s.size) : digD s (-(numK s 1 s.size)) := by
  have hk := numK_bd (s := s) (a := 1) (s.size - 1) (by rw [show 1 + (s.size - 1) = s.size by omega]; exact h)
  rw [show 1 + (s.size - 1) = s.size by omega] at hk
  refine ⟨fun hz5 => by omega, fun y hy e => ?_⟩
  have h1 := decZ_byte hy
  rw [← e] at h1
  omega
def NumR (s : ByteArray) (w : World) (e : Ending) (w' : World) : Prop :=
  ∃ z b, e = .returned (.tuple #[.int .i64 z, .bool b]) ∧ (b = true → digD s z) ∧ (b = false → ∀ y, 1 ≤ y ∧ y ≤ 5 → s ≠ decZ y) ∧ w = w'
set_option maxHeartbeats 2000000 in
set_option maxRecDepth 100000 in
theorem l01Number_c (s : ByteArray) (w : World) (hs : s.size ≤ 1048576) : Calls Tryd.prog 46 #[.string s] w (NumR s w) := by
  have HNO := Lib.hid (num_no (s := s))
  by_cases h0 : s.size = 0
  · have h0' : ¬ (0 : Int) < (s.size : Int) := by omega
    have h0'' : ((s.size : Int) == 0) = true := by simp [h0]
    go_enter Tryd.func46, Tryd.ntmps46
    go_wp2
    go_ret2
    exact ⟨0, false, rfl, fun h => (by cases h), fun _ => HNO.out (.inl (by omega)), rfl⟩
  · have hlt : 0 < s.size := by omega
    have HB0 := Lib.hid (byteAt_eq hlt)
    have hp : (0 : Int) < (s.size : Int) := by omega
    by_cases h45 : byteAt s 0 = 45
    · have hd : ((((s[0]'hlt).toNat : Nat) : Int) == 45) = true := by rw [HB0.out, h45]; rfl
      by_cases h1 : s.size = 1
      · have hq : ((s.size : Int) == 1) = true := by simp [h1]
        go_enter Tryd.func46, Tryd.ntmps46
        go_wp2
        go_ret2
        exact ⟨0, false, rfl, fun h => (by cases h), fun _ => HNO.out (.inr (by omega)), rfl⟩
      have hq : ((s.size : Int) == 1) = false := by rw [beq_eq_false_iff_ne]; omega
      by_cases h18 : 18 < s.size - 1
      · have h18' : (18 : Int) < (s.size : Int) - 1 := by omega
        have hn1 : s.size ≠ 1 := by omega
        have hw : IntKind.i64.wrap ((s.size : Int) - 1) = (s.size : Int) - 1 := IntWalk.i64_in _ (by omega)
        go_enter Tryd.func46, Tryd.ntmps46
        go_wp2
        go_ret2
        exact ⟨0, false, rfl, fun h => (by cases h), fun _ => HNO.out (.inr (by omega)), rfl⟩
      have h18' : ¬ (18 : Int) < (s.size : Int) - 1 := by omega
      have hw : IntKind.i64.wrap ((s.size : Int) - 1) = (s.size : Int) - 1 := IntWalk.i64_in _ (by omega)
      have hat : 1 < s.size := by omega
      have HBA := Lib.hid (byteAt_eq hat)
      by_cases h48 : byteAt s 1 = 48
      · have hd2 : ((((s[1]'hat).toNat : Nat) : Int) == 48) = true := by rw [HBA.out]; rw [h48]; rfl
        by_cases hs1 : 1 < s.size
        · have hs1' : (1 : Int) < (s.size : Int) := by omega
          go_enter Tryd.func46, Tryd.ntmps46
          go_wp2
          go_ret2
          exact ⟨0, false, rfl, fun h => (by cases h), fun _ => HNO.out (.inr (by omega)), rfl⟩
        · have hs1' : ¬ (1 : Int) < (s.size : Int) := by omega
          omega
      · have hd2 : ((((s[1]'hat).toNat : Nat) : Int) == 48) = false := by rw [HBA.out]; simpa using h48
        have H45 := Lib.hid h45
        clear h48 h45 h18 h1
        go_enter Tryd.func46, Tryd.ntmps46
        go_wp2
        go_loop [5, 6] (fun nv iv => ∃ k : Nat, 1 ≤ k ∧ k ≤ s.size ∧ iv = .int .i64 k ∧ nv = .int .i64 (numK s 1 k) ∧ Hid (digs s 1 k)) (fun _ iv => s.size - (intOf iv).toNat)
        case atStart => exact ⟨1, Nat.le_refl _, by omega, rfl, by rw [numK_a], Lib.hid (fun j h1 h2 => by omega)⟩
        case round =>
          obtain ⟨k, hk1, hk, rfl, rfl, HG⟩ := hrel
          have hbd := numK_bd (s := s) (a := 1) (k - 1) (by rw [show 1 + (k - 1) = k by omega]; exact HG.out)
          rw [show 1 + (k - 1) = k by omega] at hbd
          by_cases hkl : k < s.size
          · have hkn : (k : Int) < (s.size : Int) := by omega
            have hk0 : (0 : Int) ≤ (k : Int) := by omega
            have hp17 := pow17 (d := k - 1) (by omega)
            have HBK := Lib.hid (byteAt_eq hkl)
            have HN := Lib.hid (numK_at (s := s) hk1)
            by_cases hdg : 48 ≤ byteAt s k ∧ byteAt s k ≤ 57
            · have hdu : digitU (((s[k]'hkl).toNat : Nat) : Int) = true := by rw [HBK.out]; exact decide_eq_true hdg
              have hw1 : IntKind.u8.wrap ((((s[k]'hkl).toNat : Nat) : Int) - 48) = (((s[k]'hkl).toNat : Nat) : Int) - 48 := IntWalk.u8_in _ (by rw [HBK.out]; omega)
              have hw2 : IntKind.i64.wrap ((((s[k]'hkl).toNat : Nat) : Int) - 48) = (((s[k]'hkl).toNat : Nat) : Int) - 48 := IntWalk.i64_in _ (by rw [HBK.out]; omega)
              have hw3 : IntKind.i64.wrap (10 * numK s 1 k) = 10 * numK s 1 k := IntWalk.i64_in _ (by omega)
              have hw4 : IntKind.i64.wrap (10 * numK s 1 k + ((((s[k]'hkl).toNat : Nat) : Int) - 48)) = numK s 1 (k + 1) := by rw [HN.out, HBK.out]; exact IntWalk.i64_in _ (by omega)
              have HG2 : Hid (digs s 1 (k + 1)) := Lib.hid (fun j h1 h2 => (Nat.lt_or_ge j k).elim (fun h3 => HG.out j h1 h3) (fun h3 => (show k = j by omega) ▸ hdg))
              clear hdg hbd hp17 HBK
              go_wp2_with fail
              refine (l01Digit_c _ _).mono ?_
              rintro e w' ⟨rfl, rfl⟩
              rw [hdu]
              go_wp2
              go_round
              case rel => exact ⟨k + 1, by omega, by omega, by go_num, rfl, HG2⟩
              case measure => simp [intOf]; omega
            · have hdu : digitU (((s[k]'hkl).toNat : Nat) : Int) = false := by rw [HBK.out]; exact decide_eq_false hdg
              have HBAD := Lib.hid (show s.size ≠ 1 ∨ byteAt s 0 < 49 ∨ 53 < byteAt s 0 from .inr (by have := H45.out; omega))
              clear hdg hbd hp17 HBK
              go_wp2_with fail
              refine (l01Digit_c _ _).mono ?_
              rintro e w' ⟨rfl, rfl⟩
              rw [hdu]
              go_wp2
              go_ret2
              exact ⟨0, false, rfl, fun h => (by cases h), fun _ => HNO.out HBAD.out, rfl⟩
          · obtain rfl : k = s.size := by omega
            have hp18 := pow18 (d := s.size - 1) (by omega)
            have hw5 : IntKind.i64.wrap (-(numK s 1 s.size)) = -(numK s 1 s.size) := IntWalk.i64_in _ (by omega)
            clear hbd hp18
            go_wp2
            go_ret2
            exact ⟨_, true, rfl, fun _ => num_yes1 H45.out HG.out hlt, fun h => (by cases h), rfl⟩
    · have hd : ((((s[0]'hlt).toNat : Nat) : Int) == 45) = false := by rw [HB0.out]; simpa using h45
      have hq : ((s.size : Int) == 0) = false := by rw [beq_eq_false_iff_ne]; omega
      by_cases h18 : 18 < s.size - 0
      · have h18' : (18 : Int) < (s.size : Int) - 0 := by omega
        have hn1 : s.size ≠ 1 := by omega
        have hw : IntKind.i64.wrap ((s.size : Int) - 0) = (s.size : Int) - 0 := IntWalk.i64_in _ (by omega)
        go_enter Tryd.func46, Tryd.ntmps46
        go_wp2
        go_ret2
        exact ⟨0, false, rfl, fun h => (by cases h), fun _ => HNO.out (.inl (by omega)), rfl⟩
      have h18' : ¬ (18 : Int) < (s.size : Int) - 0 := by omega
      have hw : IntKind.i64.wrap ((s.size : Int) - 0) = (s.size : Int) - 0 := IntWalk.i64_in _ (by omega)
      have hat : 0 < s.size := by omega
      have HBA := Lib.hid (byteAt_eq hat)
      by_cases h48 : byteAt s 0 = 48
      · have hd2 : ((((s[0]'hat).toNat : Nat) : Int) == 48) = true := by rw [HBA.out]; rw [h48]; rfl
        by_cases hs1 : 1 < s.size
        · have hs1' : (1 : Int) < (s.size : Int) := by omega
          go_enter Tryd.func46, Tryd.ntmps46
          go_wp2
          go_ret2
          exact ⟨0, false, rfl, fun h => (by cases h), fun _ => HNO.out (.inr (by omega)), rfl⟩
        · have hs1' : ¬ (1 : Int) < (s.size : Int) := by omega
          have HZ := Lib.hid (show ¬ (byteAt s 0 = 48 ∧ 1 < s.size) from fun h => hs1 h.2)
          clear h48 h45 h18 hs1
          go_enter Tryd.func46, Tryd.ntmps46
          go_wp2
          go_loop [5, 6] (fun nv iv => ∃ k : Nat, 0 ≤ k ∧ k ≤ s.size ∧ iv = .int .i64 k ∧ nv = .int .i64 (numK s 0 k) ∧ Hid (digs s 0 k)) (fun _ iv => s.size - (intOf iv).toNat)
          case atStart => exact ⟨0, Nat.le_refl _, by omega, rfl, by rw [numK_a], Lib.hid (fun j h1 h2 => by omega)⟩
          case round =>
            obtain ⟨k, hk1, hk, rfl, rfl, HG⟩ := hrel
            have hbd := numK_bd (s := s) (a := 0) (k - 0) (by rw [show 0 + (k - 0) = k by omega]; exact HG.out)
            rw [show 0 + (k - 0) = k by omega] at hbd
            by_cases hkl : k < s.size
            · have hkn : (k : Int) < (s.size : Int) := by omega
              have hk0 : (0 : Int) ≤ (k : Int) := by omega
              have hp17 := pow17 (d := k - 0) (by omega)
              have HBK := Lib.hid (byteAt_eq hkl)
              have HN := Lib.hid (numK_at (s := s) hk1)
              by_cases hdg : 48 ≤ byteAt s k ∧ byteAt s k ≤ 57
              · have hdu : digitU (((s[k]'hkl).toNat : Nat) : Int) = true := by rw [HBK.out]; exact decide_eq_true hdg
                have hw1 : IntKind.u8.wrap ((((s[k]'hkl).toNat : Nat) : Int) - 48) = (((s[k]'hkl).toNat : Nat) : Int) - 48 := IntWalk.u8_in _ (by rw [HBK.out]; omega)
                have hw2 : IntKind.i64.wrap ((((s[k]'hkl).toNat : Nat) : Int) - 48) = (((s[k]'hkl).toNat : Nat) : Int) - 48 := IntWalk.i64_in _ (by rw [HBK.out]; omega)
                have hw3 : IntKind.i64.wrap (10 * numK s 0 k) = 10 * numK s 0 k := IntWalk.i64_in _ (by omega)
                have hw4 : IntKind.i64.wrap (10 * numK s 0 k + ((((s[k]'hkl).toNat : Nat) : Int) - 48)) = numK s 0 (k + 1) := by rw [HN.out, HBK.out]; exact IntWalk.i64_in _ (by omega)
                have HG2 : Hid (digs s 0 (k + 1)) := Lib.hid (fun j h1 h2 => (Nat.lt_or_ge j k).elim (fun h3 => HG.out j h1 h3) (fun h3 => (show k = j by omega) ▸ hdg))
                clear hdg hbd hp17 HBK
                go_wp2_with fail
                refine (l01Digit_c _ _).mono ?_
                rintro e w' ⟨rfl, rfl⟩
                rw [hdu]
                go_wp2
                go_round
                case rel => exact ⟨k + 1, by omega, by omega, by go_num, rfl, HG2⟩
                case measure => simp [intOf]; omega
              · have hdu : digitU (((s[k]'hkl).toNat : Nat) : Int) = false := by rw [HBK.out]; exact decide_eq_false hdg
                have HBAD := Lib.hid (show s.size ≠ 1 ∨ byteAt s 0 < 49 ∨ 53 < byteAt s 0 from (Nat.lt_or_ge 0 k).elim (fun h3 => .inl (by omega)) (fun h3 => .inr (by have e : k = 0 := (by omega); rw [e] at hdg; omega)))
                clear hdg hbd hp17 HBK
                go_wp2_with fail
                refine (l01Digit_c _ _).mono ?_
                rintro e w' ⟨rfl, rfl⟩
                rw [hdu]
                go_wp2
                go_ret2
                exact ⟨0, false, rfl, fun h => (by cases h), fun _ => HNO.out HBAD.out, rfl⟩
            · obtain rfl : k = s.size := by omega
              have hp18 := pow18 (d := s.size - 0) (by omega)
              clear hbd hp18
              go_wp2
              go_ret2
              exact ⟨_, true, rfl, fun _ => num_yes0 hlt HG.out HZ.out, fun h => (by cases h), rfl⟩
      · have hd2 : ((((s[0]'hat).toNat : Nat) : Int) == 48) = false := by rw [HBA.out]; simpa using h48
        have HZ := Lib.hid (show ¬ (byteAt s 0 = 48 ∧ 1 < s.size) from fun h => h48 h.1)
        clear h48 h45 h18
        go_enter Tryd.func46, Tryd.ntmps46
        go_wp2
        go_loop [5, 6] (fun nv iv => ∃ k : Nat, 0 ≤ k ∧ k ≤ s.size ∧ iv = .int .i64 k ∧ nv = .int .i64 (numK s 0 k) ∧ Hid (digs s 0 k)) (fun _ iv => s.size - (intOf iv).toNat)
        case atStart => exact ⟨0, Nat.le_refl _, by omega, rfl, by rw [numK_a], Lib.hid (fun j h1 h2 => by omega)⟩
        case round =>
          obtain ⟨k, hk1, hk, rfl, rfl, HG⟩ := hrel
          have hbd := numK_bd (s := s) (a := 0) (k - 0) (by rw [show 0 + (k - 0) = k by omega]; exact HG.out)
          rw [show 0 + (k - 0) = k by omega] at hbd
          by_cases hkl : k < s.size
          · have hkn : (k : Int) < (s.size : Int) := by omega
            have hk0 : (0 : Int) ≤ (k : Int) := by omega
            have hp17 := pow17 (d := k - 0) (by omega)
            have HBK := Lib.hid (byteAt_eq hkl)
            have HN := Lib.hid (numK_at (s := s) hk1)
            by_cases hdg : 48 ≤ byteAt s k ∧ byteAt s k ≤ 57
            · have hdu : digitU (((s[k]'hkl).toNat : Nat) : Int) = true := by rw [HBK.out]; exact decide_eq_true hdg
              have hw1 : IntKind.u8.wrap ((((s[k]'hkl).toNat : Nat) : Int) - 48) = (((s[k]'hkl).toNat : Nat) : Int) - 48 := IntWalk.u8_in _ (by rw [HBK.out]; omega)
              have hw2 : IntKind.i64.wrap ((((s[k]'hkl).toNat : Nat) : Int) - 48) = (((s[k]'hkl).toNat : Nat) : Int) - 48 := IntWalk.i64_in _ (by rw [HBK.out]; omega)
              have hw3 : IntKind.i64.wrap (10 * numK s 0 k) = 10 * numK s 0 k := IntWalk.i64_in _ (by omega)
              have hw4 : IntKind.i64.wrap (10 * numK s 0 k + ((((s[k]'hkl).toNat : Nat) : Int) - 48)) = numK s 0 (k + 1) := by rw [HN.out, HBK.out]; exact IntWalk.i64_in _ (by omega)
              have HG2 : Hid (digs s 0 (k + 1)) := Lib.hid (fun j h1 h2 => (Nat.lt_or_ge j k).elim (fun h3 => HG.out j h1 h3) (fun h3 => (show k = j by omega) ▸ hdg))
              clear hdg hbd hp17 HBK
              go_wp2_with fail
              refine (l01Digit_c _ _).mono ?_
              rintro e w' ⟨rfl, rfl⟩
              rw [hdu]
              go_wp2
              go_round
              case rel => exact ⟨k + 1, by omega, by omega, by go_num, rfl, HG2⟩
              case measure => simp [intOf]; omega
            · have hdu : digitU (((s[k]'hkl).toNat : Nat) : Int) = false := by rw [HBK.out]; exact decide_eq_false hdg
              have HBAD := Lib.hid (show s.size ≠ 1 ∨ byteAt s 0 < 49 ∨ 53 < byteAt s 0 from (Nat.lt_or_ge 0 k).elim (fun h3 => .inl (by omega)) (fun h3 => .inr (by have e : k = 0 := (by omega); rw [e] at hdg; omega)))
              clear hdg hbd hp17 HBK
              go_wp2_with fail
              refine (l01Digit_c _ _).mono ?_
              rintro e w' ⟨rfl, rfl⟩
              rw [hdu]
              go_wp2
              go_ret2
              exact ⟨0, false, rfl, fun h => (by cases h), fun _ => HNO.out HBAD.out, rfl⟩
          · obtain rfl : k = s.size := by omega
            have hp18 := pow18 (d := s.size - 0) (by omega)
            clear hbd hp18
            go_wp2
            go_ret2
            exact ⟨_, true, rfl, fun _ => num_yes0 hlt HG.out HZ.out, fun h => (by cases h), rfl⟩
end Go.Proofs.YteklfeeamjgplaaDoor
