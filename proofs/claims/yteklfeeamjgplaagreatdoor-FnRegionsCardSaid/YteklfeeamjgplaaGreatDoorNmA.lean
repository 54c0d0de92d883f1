/- Numbers in decimal (plain): digits tell numbers apart; what is read back. -/
import Derived.Test.YteklfeeamjgplaaGreatDoorDcA
import Derived.Test.YteklfeeamjgplaaGreatDoorZnA
import Derived.Lib.ParseIntB
namespace Go.Proofs.YteklfeeamjgplaaGreatDoor
open Go.ChangeShapes Go.WideShapes Go.ChangeAt Go.RowKit
set_option linter.unusedVariables false
/-! ### decimal forms tell numbers apart -/
def valD (l : List UInt8) : Nat := l.foldl (fun acc b => 10 * acc + (b.toNat - 48)) 0
theorem valD_snoc (l : List UInt8) (b : UInt8) : valD (l ++ [b]) = 10 * valD l + (b.toNat - 48) := by simp [valD]
theorem digit_val (m : Nat) : (UInt8.ofNat (48 + m % 10)).toNat = 48 + m % 10 := by rw [UInt8.toNat_ofNat']; omega
theorem valD_dg : ∀ f m : Nat, m < 10 ^ f → valD (dg m) = m
  | 0, m, h => by rw [show m = 0 by omega]; simp [dg, valD]
  | f + 1, m, h => by
    by_cases h0 : m = 0
    · subst h0; simp [dg, valD]
    · have ih := valD_dg f (m / 10) (by rw [Nat.pow_succ] at h; omega)
      rw [dg_step (by omega), valD_snoc, ih, digit_val]; omega
theorem lt_pow (m : Nat) : m < 10 ^ m := Nat.lt_pow_self (by omega)
theorem valD_dec (m : Nat) : valD (Lib.decDigits m) = m := by
  by_cases h0 : m = 0
  · subst h0; rw [Lib.decDigits]; rfl
  · have e : Lib.decDigits m = dg m := by rw [dg, if_neg h0]
    rw [e]; exact valD_dg m m (lt_pow m)
theorem dec_inj {m n : Nat} (h : Lib.decDigits m = Lib.decDigits n) : m = n := by rw [← valD_dec m, ← valD_dec n, h]
theorem trimP_len (s p : List UInt8) : (Lib.trimPrefix s p).length ≤ s.length := by
  unfold Lib.trimPrefix; split
  · rw [List.length_drop]; omega
  · omega
/-! ### numbers in decimal -/
def rdV (s : ByteArray) : Int × Bool := match Lib.parseIntB 64 s.data.toList with
  | .ok v => if (Lib.trimPrefix s.data.toList [45]).length ≤ 18 ∧ Lib.itoa v = s.data.toList then (v, true) else (0, false)
  | _ => (0, false)
theorem dg_ne {m : Nat} (h : 0 < m) : dg m ≠ [] := by rw [dg_step h]; simp
theorem parse_dg : ∀ f m : Nat, m < 10 ^ f → m ≤ 1000000000000000000 → Lib.parseUintM 18446744073709551615 0 (dg m) = .ok m := by
  have hs : ∀ (l : List UInt8) (acc u : Nat) (c : UInt8), Lib.parseUintM 18446744073709551615 acc l = .ok u → 48 ≤ c.toNat → c.toNat ≤ 57 → u * 10 + (c.toNat - 48) ≤ 18446744073709551615 → Lib.parseUintM 18446744073709551615 acc (l ++ [c]) = .ok (u * 10 + (c.toNat - 48)) := by
    intro l
    induction l with
    | nil =>
      intro acc u c h h1 h2 h3
      simp only [Lib.parseUintM] at h
      injection h with h
      subst h
      simp only [List.nil_append, Lib.parseUintM]
      rw [if_pos ⟨h1, h2⟩, if_neg (by omega), if_neg (by omega)]
    | cons x l ih =>
      intro acc u c h h1 h2 h3
      simp only [List.cons_append, Lib.parseUintM] at h ⊢
      split at h
      · rename_i hx
        rw [if_pos hx]
        split at h
        · cases h
        · rename_i hx2
          rw [if_neg hx2]
          split at h
          · cases h
          · rename_i hx3
            rw [if_neg hx3]
            exact ih _ u c h h1 h2 h3
      · cases h
  intro f
  induction f with
  | zero => intro m h _; rw [show m = 0 by omega]; rfl
  | succ f ih =>
    intro m h hm
    by_cases h0 : m = 0
    · subst h0; rfl
    · have h1 := ih (m / 10) (by rw [Nat.pow_succ] at h; omega) (by omega)
      have hd := digit_val m
      rw [dg_step (by omega)]
      rw [hs _ _ _ _ h1 (by rw [hd]; omega) (by rw [hd]; omega) (by rw [hd]; omega), hd]
      congr 1
      omega
theorem dg_head : ∀ f m : Nat, m < 10 ^ f → 0 < m → ∃ c r, dg m = c :: r ∧ 49 ≤ c.toNat ∧ c.toNat ≤ 57
  | 0, m, h, h0 => by omega
  | f + 1, m, h, h0 => by
    by_cases h1 : m < 10
    · rw [dg_step h0, show m / 10 = 0 by omega]
      refine ⟨_, [], rfl, ?_, ?_⟩
      · have := digit_val m; omega
      · have := digit_val m; omega
    · obtain ⟨c, r, e, h2, h3⟩ := dg_head f (m / 10) (by rw [Nat.pow_succ] at h; omega) (by omega)
      rw [dg_step h0, e]
      exact ⟨c, r ++ [_], rfl, h2, h3⟩
/-- the decimal form of a number that is not negative is read back -/
theorem rd_dec {m : Nat} (hm : m ≤ 100000000000000000) : rdV (decB m) = ((m : Int), true) := by
  have hl : (decB m).data.toList = Lib.decDigits m := rfl
  unfold rdV
  rw [hl]
  by_cases h0 : m = 0
  · subst h0
    have e : Lib.decDigits 0 = [48] := by rw [Lib.decDigits]; rfl
    rw [e]
    have e2 : Lib.parseIntB 64 [48] = .ok 0 := by decide
    rw [e2]
    have e3 : (Lib.trimPrefix [48] [45]).length ≤ 18 ∧ Lib.itoa 0 = [48] := ⟨by decide, by unfold Lib.itoa; rw [if_neg (by omega)]; exact e⟩
    simp only
    rw [if_pos e3]; rfl
  · have e : Lib.decDigits m = dg m := by rw [dg, if_neg h0]
    rw [e]
    obtain ⟨c, r, ec, h1, h2⟩ := dg_head m m (lt_pow m) (by omega)
    have hp := parse_dg m m (lt_pow m) (by omega)
    have hlen := dg_len 18 m (by omega)
    have h64 : Lib.parseIntB 64 (dg m) = .ok (m : Int) := by
      rw [ec] at hp ⊢
      unfold Lib.parseIntB
      simp only
      rw [if_neg (by omega)]
      unfold Lib.parseUintB
      rw [if_neg (by simp), show (2 : Nat) ^ 64 - 1 = 18446744073709551615 by decide, hp]
      simp only
      have hn : ¬ c.toNat = 45 := by omega
      have hm2 : ¬ (2 ^ (64 - 1) ≤ m) := by rw [show (2 : Nat) ^ (64 - 1) = 9223372036854775808 by decide]; omega
      rw [if_neg (by simp [hm2]), if_neg (by simp [hn]), if_neg hn]
    rw [h64]
    have e3 : (Lib.trimPrefix (dg m) [45]).length ≤ 18 ∧ Lib.itoa (m : Int) = dg m := ⟨Nat.le_trans (trimP_len _ _) hlen, by unfold Lib.itoa; rw [if_neg (by omega), Int.toNat_natCast, e]⟩
    simp only
    rw [if_pos e3]
end Go.Proofs.YteklfeeamjgplaaGreatDoor
