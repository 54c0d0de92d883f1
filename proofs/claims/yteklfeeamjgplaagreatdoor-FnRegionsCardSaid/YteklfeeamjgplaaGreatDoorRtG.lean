/- A number read from a text, by the reference, as far as levels go. -/
import Derived.Test.YteklfeeamjgplaaGreatDoorRtAC
import Derived.Test.YteklfeeamjgplaaGreatDoorRgY
namespace Go.Proofs.YteklfeeamjgplaaGreatDoor
open Go.ChangeShapes Go.WideShapes Go.ChangeAt Go.RowKit
set_option linter.unusedVariables false
def numK (s : ByteArray) (a : Nat) : Nat → Int
  | 0 => 0
  | k + 1 => if k < a then 0 else 10 * numK s a k + (byteAt s k - 48)
theorem numK_at {s : ByteArray} {a k : Nat} (h : a ≤ k) : numK s a (k + 1) = 10 * numK s a k + (byteAt s k - 48) := by rw [numK, if_neg (by omega)]
theorem numK_a (s : ByteArray) (a : Nat) : numK s a a = 0 := by
  cases a with
  | zero => rfl
  | succ a => rw [numK, if_pos (by omega)]
def digs (s : ByteArray) (a k : Nat) : Prop := ∀ j, a ≤ j → j < k → 48 ≤ byteAt s j ∧ byteAt s j ≤ 57
theorem numK_bd {s : ByteArray} {a : Nat} : ∀ d : Nat, digs s a (a + d) → 0 ≤ numK s a (a + d) ∧ numK s a (a + d) < (10 ^ d : Nat)
  | 0, _ => by rw [Nat.add_zero, numK_a]; simp
  | d + 1, h => by
    have ih := numK_bd d (fun j h1 h2 => h j h1 (by omega))
    have hb := h (a + d) (by omega) (by omega)
    rw [← Nat.add_assoc, numK_at (by omega), Nat.pow_succ]
    omega
theorem pow17 {d : Nat} (h : d ≤ 17) : (10 ^ d : Nat) ≤ 100000000000000000 := Nat.le_trans (Nat.pow_le_pow_right (by omega) h) (by decide)
theorem pow18 {d : Nat} (h : d ≤ 18) : (10 ^ d : Nat) ≤ 1000000000000000000 := Nat.le_trans (Nat.pow_le_pow_right (by omega) h) (by decide)
theorem numK_first {s : ByteArray} : ∀ d : Nat, digs s 0 (d + 1) → byteAt s 0 - 48 ≤ numK s 0 (d + 1)
  | 0, h => by rw [numK_at (by omega), numK_a]; omega
  | d + 1, h => by
    have ih := numK_first d (fun j h1 h2 => h j h1 (by omega))
    have hb := h (d + 1) (by omega) (by omega)
    have h0 := h 0 (by omega) (by omega)
    rw [numK_at (by omega)]; omega
theorem decZ_byte {y : Int} (h : 1 ≤ y ∧ y ≤ 5) : (decZ y).size = 1 ∧ byteAt (decZ y) 0 = 48 + y := by
  have h5 : y = 1 ∨ y = 2 ∨ y = 3 ∨ y = 4 ∨ y = 5 := by omega
  have e : ∀ m : Nat, 1 ≤ m → m ≤ 5 → decZ m = ⟨#[UInt8.ofNat (48 + m)]⟩ := fun m h1 h2 => by
    unfold decZ Lib.itoa
    rw [if_neg (by omega), Int.toNat_natCast, Lib.decDigits_one (by omega)]
  rcases h5 with rfl | rfl | rfl | rfl | rfl
  · rw [show (1 : Int) = ((1 : Nat) : Int) from rfl, e 1 (by omega) (by omega)]; exact ⟨rfl, by decide⟩
  · rw [show (2 : Int) = ((2 : Nat) : Int) from rfl, e 2 (by omega) (by omega)]; exact ⟨rfl, by decide⟩
  · rw [show (3 : Int) = ((3 : Nat) : Int) from rfl, e 3 (by omega) (by omega)]; exact ⟨rfl, by decide⟩
  · rw [show (4 : Int) = ((4 : Nat) : Int) from rfl, e 4 (by omega) (by omega)]; exact ⟨rfl, by decide⟩
  · rw [show (5 : Int) = ((5 : Nat) : Int) from rfl, e 5 (by omega) (by omega)]; exact ⟨rfl, by decide⟩
theorem one_byte {s t : ByteArray} (hs : s.size = 1) (ht : t.size = 1) (h : byteAt s 0 = byteAt t 0) : s = t := by
  obtain ⟨⟨ls⟩⟩ := s
  obtain ⟨⟨lt⟩⟩ := t
  have h1 : ls.length = 1 := hs
  have h2 : lt.length = 1 := ht
  obtain ⟨a, rfl⟩ := List.length_eq_one_iff.1 h1
  obtain ⟨b, rfl⟩ := List.length_eq_one_iff.1 h2
  have e : a.toNat = b.toNat := by
    have h3 : byteAt ⟨⟨[a]⟩⟩ 0 = (a.toNat : Nat) := rfl
    have h4 : byteAt ⟨⟨[b]⟩⟩ 0 = (b.toNat : Nat) := rfl
    omega
  rw [UInt8.toNat_inj.1 e]
theorem num_no {s : ByteArray} (h : s.size ≠ 1 ∨ byteAt s 0 < 49 ∨ 53 < byteAt s 0) : ∀ y, 1 ≤ y ∧ y ≤ 5 → s ≠ decZ y := by
  intro y hy e
  have h1 := decZ_byte hy
  rw [← e] at h1
  omega
theorem num_yes0 {s : ByteArray} (h0 : 0 < s.size) (h : digs s 0 s.size) (hz : ¬ (byteAt s 0 = 48 ∧ 1 < s.size)) : digD s (numK s 0 s.size) := by
  have hb := h 0 (Nat.le_refl _) h0
  have one : s.size = 1 → numK s 0 s.size = byteAt s 0 - 48 := fun e => by rw [e, numK_at (Nat.le_refl _), numK_a]; omega
  refine ⟨fun hz5 => ?_, fun y hy e => ?_⟩
  · have h1 : s.size = 1 := by
      rcases Nat.lt_or_ge 1 s.size with h2 | h2
      · exfalso
        obtain ⟨d, hd⟩ : ∃ d, s.size = d + 2 := ⟨s.size - 2, by omega⟩
        have h3 := numK_first (s := s) d (fun j h1 h2 => h j h1 (by omega))
        have h4 := h (d + 1) (by omega) (by omega)
        have h5 : numK s 0 (d + 2) = 10 * numK s 0 (d + 1) + (byteAt s (d + 1) - 48) := numK_at (by omega)
        rw [hd] at hz5
        omega
      · omega
    have h2 := one h1
    have h3 := decZ_byte hz5
    exact one_byte h1 h3.1 (by rw [h3.2]; omega)
  · have h1 := decZ_byte hy
    rw [← e] at h1
    rw [one h1.1]; omega
theorem num_yes1 {s : ByteArray} (hb : byteAt s 0 = 45) (h : digs s 1 s.size) (h0 : 1 ≤ s.size) : digD s (-(numK s 1 s.size)) := by
  have hk := numK_bd (s := s) (a := 1) (s.size - 1) (by rw [show 1 + (s.size - 1) = s.size by omega]; exact h)
  rw [show 1 + (s.size - 1) = s.size by omega] at hk
  refine ⟨fun hz5 => by omega, fun y hy e => ?_⟩
  have h1 := decZ_byte hy
  rw [← e] at h1
  omega
def NumR (s : ByteArray) (w : World) (e : Ending) (w' : World) : Prop :=
  ∃ z b, e = .returned (.tuple #[.int .i64 z, .bool b]) ∧ (b = true → digD s z) ∧ (b = false → ∀ y, 1 ≤ y ∧ y ≤ 5 → s ≠ decZ y) ∧ w = w'
end Go.Proofs.YteklfeeamjgplaaGreatDoor
