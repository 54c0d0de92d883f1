/- Sentences: taking a text apart (plain). -/
import Derived.Test.YthbnliepgjjbdaaDoorSnR
import Derived.Lib.IndexMore
import Derived.Lib.ParseIntB
namespace Go.Proofs.YthbnliepgjjbdaaDoor
open Go.ChangeShapes Go.WideShapes Go.ChangeAt Go.RowKit
set_option linter.unusedVariables false
theorem idx_sep (x : UInt8) (r v : List UInt8) : ∀ q : List UInt8, x ∉ q → Lib.index (q ++ (x :: r) ++ v) (x :: r) = (q.length : Nat)
  | [], _ => by
    show Lib.index (x :: (r ++ v)) (x :: r) = 0
    unfold Lib.index
    rw [if_pos (by simp [List.isPrefixOf_iff_prefix])]
  | b :: q, h => by
    have ih := idx_sep x r v q (fun hq => h (List.mem_cons_of_mem _ hq))
    have hb : (x == b) = false := by simp; rintro rfl; exact h (List.mem_cons_self ..)
    have hp : (x :: r).isPrefixOf (b :: (q ++ (x :: r) ++ v)) = false := by
      show (x == b && _) = false
      rw [hb]; rfl
    show Lib.index (b :: (q ++ (x :: r) ++ v)) (x :: r) = _
    unfold Lib.index
    rw [if_neg (by rw [hp]; simp), ih]
    have h2 : ((q.length : Int) == -1) = false := by simp
    rw [h2]; simp
theorem idx_none (x : UInt8) (r : List UInt8) : ∀ q : List UInt8, x ∉ q → Lib.index q (x :: r) = -1
  | [], _ => by simp [Lib.index]
  | b :: q, h => by
    have ih := idx_none x r q (fun hq => h (List.mem_cons_of_mem _ hq))
    have hb : (x == b) = false := by simp; rintro rfl; exact h (List.mem_cons_self ..)
    have hp : (x :: r).isPrefixOf (b :: q) = false := by
      show (x == b && _) = false
      rw [hb]; rfl
    unfold Lib.index
    rw [if_neg (by rw [hp]; simp), ih]; rfl
theorem cut_sep (x : UInt8) (r v q : List UInt8) (h : x ∉ q) : Lib.cut (q ++ (x :: r) ++ v) (x :: r) = (q, v, true) := by
  unfold Lib.cut
  rw [idx_sep x r v q h, if_pos (by omega), Int.toNat_natCast]
  have e1 : (q ++ (x :: r) ++ v).take q.length = q := by rw [List.append_assoc, List.take_left']; rfl
  have e2 : (q ++ (x :: r) ++ v).drop (q.length + (x :: r).length) = v := by rw [← List.length_append, List.drop_left']; rfl
  rw [e1, e2]
theorem cut_none (x : UInt8) (r q : List UInt8) (h : x ∉ q) : Lib.cut q (x :: r) = (q, [], false) := by
  unfold Lib.cut
  rw [idx_none x r q h, if_neg (by omega)]
theorem cut_pat {k l : Nat} (hk : 1 ≤ k ∧ k ≤ 7) (hl : 1 ≤ l ∧ l ≤ 4) : Lib.cut (patT k l) [60, 65, 62] = ((partT k l).1, restT k l, true) := by
  rw [patT_rest]
  exact cut_sep 60 [65, 62] (restT k l) _ (pat_facts hk hl).2.1
def endT (k l : Nat) : List UInt8 := if k = 4 then (partT 4 l).2.2 else (partT k l).2.1
def betT (k l : Nat) : List UInt8 := if k = 4 then (partT 4 l).2.1 else []
theorem cut_rest {k l : Nat} (hk : 1 ≤ k ∧ k ≤ 7) (hl : 1 ≤ l ∧ l ≤ 4) : Lib.cut (restT k l) [60, 66, 62] = if k = 4 then (betT k l, endT k l, true) else (restT k l, [], false) := by
  have h := (pat_facts hk hl).2.2.1
  unfold betT endT restT
  by_cases h4 : k = 4
  · subst h4
    simp only [if_true]
    exact cut_sep 60 [66, 62] _ _ h
  · simp only [if_neg h4]
    exact cut_none 60 [66, 62] _ h
theorem endT_rest {k l : Nat} (h4 : k ≠ 4) : restT k l = endT k l := by unfold restT endT; rw [if_neg h4, if_neg h4]
/-- what stands between the ends of a text -/
def innerT (k l : Nat) (t : List UInt8) : List UInt8 := Lib.trimSuffix (Lib.trimPrefix t (partT k l).1) (endT k l)
def fitsT (k l : Nat) (t : List UInt8) : Bool := Lib.hasPrefix t (partT k l).1 && Lib.hasSuffix (Lib.trimPrefix t (partT k l).1) (endT k l)
def wordA (k l : Nat) (t : List UInt8) : List UInt8 := if k = 4 then (Lib.cut (innerT k l t) (betT k l)).1 else innerT k l t
def wordBB (k l : Nat) (t : List UInt8) : List UInt8 := (Lib.cut (innerT k l t) (betT k l)).2.1
theorem trimP_len (s p : List UInt8) : (Lib.trimPrefix s p).length ≤ s.length := by
  unfold Lib.trimPrefix; split
  · rw [List.length_drop]; omega
  · omega
theorem trimS_len (s p : List UInt8) : (Lib.trimSuffix s p).length ≤ s.length := by
  unfold Lib.trimSuffix; split
  · rw [List.length_take]; omega
  · omega
theorem cut_len (s p : List UInt8) : (Lib.cut s p).1.length ≤ s.length ∧ (Lib.cut s p).2.1.length ≤ s.length := by
  unfold Lib.cut; split
  · simp only [List.length_take, List.length_drop]; omega
  · simp
theorem inner_len (k l : Nat) (t : List UInt8) : (innerT k l t).length ≤ t.length := Nat.le_trans (trimS_len _ _) (trimP_len _ _)
theorem word_len (k l : Nat) (t : List UInt8) : (wordA k l t).length ≤ t.length ∧ (wordBB k l t).length ≤ t.length := by
  have h := inner_len k l t
  have h2 := cut_len (innerT k l t) (betT k l)
  unfold wordA wordBB
  refine ⟨?_, by omega⟩
  split <;> omega
theorem trimP_app (p r : List UInt8) : Lib.hasPrefix (p ++ r) p = true ∧ Lib.trimPrefix (p ++ r) p = r := by
  have h : Lib.hasPrefix (p ++ r) p = true := by unfold Lib.hasPrefix; simp [List.isPrefixOf_iff_prefix]
  refine ⟨h, ?_⟩
  unfold Lib.trimPrefix
  rw [if_pos h, List.drop_left']; rfl
theorem trimS_app (r p : List UInt8) : Lib.hasSuffix (r ++ p) p = true ∧ Lib.trimSuffix (r ++ p) p = r := by
  have h : Lib.hasSuffix (r ++ p) p = true := by unfold Lib.hasSuffix; simp [List.isSuffixOf_iff_suffix]
  refine ⟨h, ?_⟩
  unfold Lib.trimSuffix
  rw [if_pos h, List.length_append, Nat.add_sub_cancel, List.take_left']; rfl
/-- a text of this kind comes apart as it was made -/
theorem text_apart {k l : Nat} (hl : 1 ≤ l ∧ l ≤ 4) {a b : Int} (ha : numOk k a) : fitsT k l (textT k l a b) = true ∧ wordA k l (textT k l a b) = numT k l a ∧ (k = 4 → wordBB k l (textT k l a b) = numT k l b) := by
  have e0 : textT k l a b = (partT k l).1 ++ ((if k = 4 then numT k l a ++ betT k l ++ numT k l b else numT k l a) ++ endT k l) := by
    rw [text_split]
    unfold restV betT endT
    split
    · rename_i h; subst h; simp
    · rfl
  obtain ⟨h1, h2⟩ := trimP_app (partT k l).1 ((if k = 4 then numT k l a ++ betT k l ++ numT k l b else numT k l a) ++ endT k l)
  obtain ⟨h3, h4⟩ := trimS_app (if k = 4 then numT k l a ++ betT k l ++ numT k l b else numT k l a) (endT k l)
  have hi : innerT k l (textT k l a b) = if k = 4 then numT k l a ++ betT k l ++ numT k l b else numT k l a := by
    unfold innerT; rw [e0, h2, h4]
  refine ⟨?_, ?_, ?_⟩
  · unfold fitsT; rw [e0, h1, h2, h3]; rfl
  · unfold wordA
    rw [hi]
    by_cases hk : k = 4
    · subst hk
      simp only [if_true]
      obtain ⟨r, hr⟩ := mid_blank hl
      have hb : betT 4 l = 32 :: r := by unfold betT; rw [if_pos rfl, hr]
      rw [hb, cut_sep 32 r _ _ (num_blank hl ha)]
    · rw [if_neg hk, if_neg hk]
  · rintro rfl
    unfold wordBB
    rw [hi]
    simp only [if_true]
    obtain ⟨r, hr⟩ := mid_blank hl
    have hb : betT 4 l = 32 :: r := by unfold betT; rw [if_pos rfl, hr]
    rw [hb, cut_sep 32 r _ _ (num_blank hl ha)]
/-! ### numbers in decimal -/
def rdV (s : ByteArray) : Int × Bool := match Lib.parseIntB 64 s.data.toList with
  | .ok v => if (Lib.trimPrefix s.data.toList [45]).length ≤ 18 ∧ Lib.itoa v = s.data.toList then (v, true) else (0, false)
  | _ => (0, false)
theorem dg_ne {m : Nat} (h : 0 < m) : dg m ≠ [] := by rw [dg_step h]; simp
theorem parse_dg : ∀ f m : Nat, m < 10 ^ f → m ≤ 1000000000000000000 → Lib.parseUintM 18446744073709551615 0 (dg m) = .ok m := by
  have hs : ∀ (l : List UInt8) (acc u : Nat) (c : UInt8), Lib.parseUintM 18446744073709551615 acc l = .ok u → 48 ≤ c.toNat → c.toNat ≤ 57 → u * 10 + (c.toNat - 48) ≤ 18446744073709551615 → Lib.parseUintM 18446744073709551615 acc (l ++ [c]) = .ok (u * 10 + (c.toNat - 48)) := by
    intro l
    induction l with
    | nil =>
      intro acc u c h h1 h2 h3
      simp only [Lib.parseUintM] at h
      injection h with h
      subst h
      simp only [List.nil_append, Lib.parseUintM]
      rw [if_pos ⟨h1, h2⟩, if_neg (by omega), if_neg (by omega)]
    | cons x l ih =>
      intro acc u c h h1 h2 h3
      simp only [List.cons_append, Lib.parseUintM] at h ⊢
      split at h
      · rename_i hx
        rw [if_pos hx]
        split at h
        · cases h
        · rename_i hx2
          rw [if_neg hx2]
          split at h
          · cases h
          · rename_i hx3
            rw [if_neg hx3]
            exact ih _ u c h h1 h2 h3
      · cases h
  intro f
  induction f with
  | zero => intro m h _; rw [show m = 0 by omega]; rfl
  | succ f ih =>
    intro m h hm
    by_cases h0 : m = 0
    · subst h0; rfl
    · have h1 := ih (m / 10) (by rw [Nat.pow_succ] at h; omega) (by omega)
      have hd := digit_val m
      rw [dg_step (by omega)]
      rw [hs _ _ _ _ h1 (by rw [hd]; omega) (by rw [hd]; omega) (by rw [hd]; omega), hd]
      congr 1
      omega
theorem dg_head : ∀ f m : Nat, m < 10 ^ f → 0 < m → ∃ c r, dg m = c :: r ∧ 49 ≤ c.toNat ∧ c.toNat ≤ 57
  | 0, m, h, h0 => by omega
  | f + 1, m, h, h0 => by
    by_cases h1 : m < 10
    · rw [dg_step h0, show m / 10 = 0 by omega]
      refine ⟨_, [], rfl, ?_, ?_⟩
      · have := digit_val m; omega
      · have := digit_val m; omega
    · obtain ⟨c, r, e, h2, h3⟩ := dg_head f (m / 10) (by rw [Nat.pow_succ] at h; omega) (by omega)
      rw [dg_step h0, e]
      exact ⟨c, r ++ [_], rfl, h2, h3⟩
/-- the decimal form of a number that is not negative is read back -/
theorem rd_dec {m : Nat} (hm : m ≤ 100000000000000000) : rdV (decB m) = ((m : Int), true) := by
  have hl : (decB m).data.toList = Lib.decDigits m := rfl
  unfold rdV
  rw [hl]
  by_cases h0 : m = 0
  · subst h0
    have e : Lib.decDigits 0 = [48] := by rw [Lib.decDigits]; rfl
    rw [e]
    have e2 : Lib.parseIntB 64 [48] = .ok 0 := by decide
    rw [e2]
    have e3 : (Lib.trimPrefix [48] [45]).length ≤ 18 ∧ Lib.itoa 0 = [48] := ⟨by decide, by unfold Lib.itoa; rw [if_neg (by omega)]; exact e⟩
    simp only
    rw [if_pos e3]; rfl
  · have e : Lib.decDigits m = dg m := by rw [dg, if_neg h0]
    rw [e]
    obtain ⟨c, r, ec, h1, h2⟩ := dg_head m m (lt_pow m) (by omega)
    have hp := parse_dg m m (lt_pow m) (by omega)
    have hlen := dg_len 18 m (by omega)
    have h64 : Lib.parseIntB 64 (dg m) = .ok (m : Int) := by
      rw [ec] at hp ⊢
      unfold Lib.parseIntB
      simp only
      rw [if_neg (by omega)]
      unfold Lib.parseUintB
      rw [if_neg (by simp), show (2 : Nat) ^ 64 - 1 = 18446744073709551615 by decide, hp]
      simp only
      have hn : ¬ c.toNat = 45 := by omega
      have hm2 : ¬ (2 ^ (64 - 1) ≤ m) := by rw [show (2 : Nat) ^ (64 - 1) = 9223372036854775808 by decide]; omega
      rw [if_neg (by simp [hm2]), if_neg (by simp [hn]), if_neg hn]
    rw [h64]
    have e3 : (Lib.trimPrefix (dg m) [45]).length ≤ 18 ∧ Lib.itoa (m : Int) = dg m := ⟨Nat.le_trans (trimP_len _ _) hlen, by unfold Lib.itoa; rw [if_neg (by omega), Int.toNat_natCast, e]⟩
    simp only
    rw [if_pos e3]
end Go.Proofs.YthbnliepgjjbdaaDoor
