/- XSnR, XSnP, XTx: merged texts. -/
import Derived.Test.YthbnliepgjjbdaaGreatDoorSnCF
import Derived.Test.YthbnliepgjjbdaaGreatDoorZnA
import Derived.Test.YthbnliepgjjbdaaGreatDoorSenS
import Derived.Lib.IndexMore
import Derived.Lib.ParseIntB
import Derived.Test.YthbnliepgjjbdaaGreatDoorRgA
import Derived.BigQuiet
import Derived.Lib.QuietBelow
/- Sentences: their texts tell them apart (plain). -/
namespace Go.Proofs.YthbnliepgjjbdaaGreatDoor
open Go.ChangeShapes Go.WideShapes Go.ChangeAt Go.RowKit
set_option linter.unusedVariables false
/-! ### decimal forms tell numbers apart -/
def valD (l : List UInt8) : Nat := l.foldl (fun acc b => 10 * acc + (b.toNat - 48)) 0
theorem valD_snoc (l : List UInt8) (b : UInt8) : valD (l ++ [b]) = 10 * valD l + (b.toNat - 48) := by simp [valD]
theorem digit_val (m : Nat) : (UInt8.ofNat (48 + m % 10)).toNat = 48 + m % 10 := by rw [UInt8.toNat_ofNat']; omega
theorem valD_dg : ∀ f m : Nat, m < 10 ^ f → valD (dg m) = m
  | 0, m, h => by rw [show m = 0 by omega]; simp [dg, valD]
  | f + 1, m, h => by
    by_cases h0 : m = 0
    · subst h0; simp [dg, valD]
    · have ih := valD_dg f (m / 10) (by rw [Nat.pow_succ] at h; omega)
      rw [dg_step (by omega), valD_snoc, ih, digit_val]; omega
theorem lt_pow (m : Nat) : m < 10 ^ m := Nat.lt_pow_self (by omega)
theorem valD_dec (m : Nat) : valD (Lib.decDigits m) = m := by
  by_cases h0 : m = 0
  · subst h0; rw [Lib.decDigits]; rfl
  · have e : Lib.decDigits m = dg m := by rw [dg, if_neg h0]
    rw [e]; exact valD_dg m m (lt_pow m)
theorem dec_inj {m n : Nat} (h : Lib.decDigits m = Lib.decDigits n) : m = n := by rw [← valD_dec m, ← valD_dec n, h]
/-! ### words -/
theorem word_nodup {k l : Nat} (hk : k = 2 ∨ k = 4 ∨ k = 7) (hl : 1 ≤ l ∧ l ≤ 4) : (wordT k l).Nodup ∧ (k = 2 → (wordT k l).length = 3) ∧ (k ≠ 2 → (wordT k l).length = 8) ∧ (k ≠ 2 → ∀ x ∈ wordT k l, (32 : UInt8) ∉ x) := by
  have hl4 : l = 1 ∨ l = 2 ∨ l = 3 ∨ l = 4 := by omega
  rcases hk with rfl | rfl | rfl <;> rcases hl4 with rfl | rfl | rfl | rfl <;> decide
theorem word_some {k l : Nat} (hk : k = 2 ∨ k = 4 ∨ k = 7) (hl : 1 ≤ l ∧ l ≤ 4) {n : Int} (hn : numOk k n) : ∃ i : Nat, (wordT k l)[i]? = some (numT k l n) ∧ (i : Int) = n - leastT k := by
  obtain ⟨_, h3, h8, _⟩ := word_nodup hk hl
  unfold numT leastT
  by_cases h2 : k = 2
  · have hb := hn.1 h2
    have hlt : (n + 1).toNat < (wordT k l).length := by rw [h3 h2]; omega
    refine ⟨(n + 1).toNat, ?_, ?_⟩
    · rw [if_pos h2, List.getElem?_eq_getElem hlt]; rfl
    · rw [if_pos h2]; omega
  · have hb := hn.2.1 (by omega)
    have hlt : n.toNat < (wordT k l).length := by rw [h8 h2]; omega
    refine ⟨n.toNat, ?_, ?_⟩
    · rw [if_neg h2, if_pos (by omega), List.getElem?_eq_getElem hlt]; rfl
    · rw [if_neg h2]; omega
theorem num_inj {k l : Nat} (hl : 1 ≤ l ∧ l ≤ 4) {a b : Int} (ha : numOk k a) (hb : numOk k b) (h : numT k l a = numT k l b) : a = b := by
  by_cases hk : k = 2 ∨ k = 4 ∨ k = 7
  · obtain ⟨i, h1, e1⟩ := word_some hk hl ha
    obtain ⟨j, h2, e2⟩ := word_some hk hl hb
    have hlt := (List.getElem?_eq_some_iff.1 h1).1
    have := (List.getElem?_inj hlt (word_nodup hk hl).1).1 (h1.trans ((congrArg some h).trans h2.symm))
    omega
  · have h1 := ha.2.2 (by omega) (by omega) (by omega)
    have h2 := hb.2.2 (by omega) (by omega) (by omega)
    unfold numT at h
    rw [if_neg (by omega), if_neg (by omega), if_neg (by omega), if_neg (by omega)] at h
    have := dec_inj h
    omega
theorem num_blank {l : Nat} (hl : 1 ≤ l ∧ l ≤ 4) {n : Int} (hn : numOk 4 n) : (32 : UInt8) ∉ numT 4 l n := by
  obtain ⟨i, h1, _⟩ := word_some (.inr (.inl rfl)) hl hn
  exact (word_nodup (k := 4) (.inr (.inl rfl)) hl).2.2.2 (by decide) _ (List.mem_of_getElem? h1)
/-! ### texts -/
def restV (k l : Nat) (b : Int) : List UInt8 := if k = 4 then (partT 4 l).2.1 ++ (numT 4 l b ++ (partT 4 l).2.2) else (partT k l).2.1
theorem text_split (k l : Nat) (a b : Int) : textT k l a b = (partT k l).1 ++ (numT k l a ++ restV k l b) := by
  unfold textT restV
  split
  · rename_i h; subst h; simp
  · simp
theorem mid_blank {l : Nat} (hl : 1 ≤ l ∧ l ≤ 4) : ∃ r, (partT 4 l).2.1 = 32 :: r := by
  have hl4 : l = 1 ∨ l = 2 ∨ l = 3 ∨ l = 4 := by omega
  rcases hl4 with rfl | rfl | rfl | rfl <;> exact ⟨_, rfl⟩
theorem text_inj1 {k l : Nat} (hl : 1 ≤ l ∧ l ≤ 4) {a b a' b' : Int} (ha : numOk k a) (ha' : numOk k a') (hb : k = 4 → numOk 4 b) (hb' : k = 4 → numOk 4 b') (hz : k ≠ 4 → b = 0) (hz' : k ≠ 4 → b' = 0)
    (h : textT k l a b = textT k l a' b') : a = a' ∧ b = b' := by
  rw [text_split, text_split] at h
  have h := List.append_cancel_left h
  unfold restV at h
  by_cases h4 : k = 4
  · subst h4
    rw [if_pos rfl, if_pos rfl] at h
    obtain ⟨r, hr⟩ := mid_blank hl
    rw [hr] at h
    obtain ⟨e1, e2⟩ := app_uniq (num_blank hl ha) (num_blank hl ha') h
    have e3 := List.append_cancel_right (List.append_cancel_left e2)
    exact ⟨num_inj hl ha ha' e1, num_inj hl (hb rfl) (hb' rfl) e3⟩
  · rw [if_neg h4, if_neg h4] at h
    exact ⟨num_inj hl ha ha' (List.append_cancel_right h), by rw [hz h4, hz' h4]⟩
/-- how the texts of a kind begin -/
def stemL (k l : Nat) : List (List UInt8) := if k = 2 then (wordT 2 l).map fun w => (partT 2 l).1 ++ (w ++ (partT 2 l).2.1) else [(partT k l).1]
theorem stem_mem {k l : Nat} (hl : 1 ≤ l ∧ l ≤ 4) {a b : Int} (ha : numOk k a) : ∃ x ∈ stemL k l, x <+: textT k l a b := by
  rw [text_split]
  unfold stemL
  by_cases h2 : k = 2
  · subst h2
    obtain ⟨i, h1, _⟩ := word_some (.inl rfl) hl ha
    rw [if_pos rfl]
    refine ⟨_, List.mem_map.2 ⟨_, List.mem_of_getElem? h1, rfl⟩, ?_⟩
    unfold restV
    rw [if_neg (by decide)]
    exact List.prefix_refl _
  · rw [if_neg h2]
    exact ⟨_, List.mem_singleton.2 rfl, List.prefix_append _ _⟩
theorem stem_ne : ∀ l ∈ [1, 2, 3, 4], ∀ k ∈ [1, 2, 3, 4, 5, 6, 7], ∀ k' ∈ [1, 2, 3, 4, 5, 6, 7], k ≠ k' → ∀ x ∈ stemL k l, ∀ y ∈ stemL k' l, ¬ x <+: y := by decide +kernel
theorem text_kind {k k' l : Nat} (hk : 1 ≤ k ∧ k ≤ 7) (hk' : 1 ≤ k' ∧ k' ≤ 7) (hl : 1 ≤ l ∧ l ≤ 4) {a b a' b' : Int} (ha : numOk k a) (ha' : numOk k' a') (h : textT k l a b = textT k' l a' b') : k = k' := by
  apply Classical.byContradiction
  intro hne
  obtain ⟨x, hx, px⟩ := stem_mem (b := b) hl ha
  obtain ⟨y, hy, py⟩ := stem_mem (b := b') hl ha'
  rw [← h] at py
  have hl4 : l ∈ [1, 2, 3, 4] := by simp; omega
  have hk7 : k ∈ [1, 2, 3, 4, 5, 6, 7] := by simp; omega
  have hk7' : k' ∈ [1, 2, 3, 4, 5, 6, 7] := by simp; omega
  rcases Nat.le_total x.length y.length with hle | hle
  · exact stem_ne l hl4 k hk7 k' hk7' hne x hx y hy (List.prefix_of_prefix_length_le px py hle)
  · exact stem_ne l hl4 k' hk7' k hk7 (fun e => hne e.symm) y hy x hx (List.prefix_of_prefix_length_le py px hle)
/-- the text of a sentence -/
def Sen.text (l : Nat) (s : Sen) : List UInt8 := textT s.k.toNat l s.a s.b
def IsText (l : Nat) (t : List UInt8) (s : Sen) : Prop := s.ok = true ∧ s.text l = t
theorem isText_uniq {l : Nat} (hl : 1 ≤ l ∧ l ≤ 4) {t : List UInt8} {s s' : Sen} (h : IsText l t s) (h' : IsText l t s') : s = s' := by
  obtain ⟨k, a, b⟩ := s
  obtain ⟨k', a', b'⟩ := s'
  obtain ⟨h1, h2⟩ := h
  obtain ⟨g1, g2⟩ := h'
  unfold Sen.ok at h1 g1
  unfold Sen.text at h2 g2
  obtain ⟨kn, rfl, q1, q2, q3, q4, q5⟩ := okS_num h1
  obtain ⟨kn', rfl, r1, r2, r3, r4, r5⟩ := okS_num g1
  simp only [Int.toNat_natCast] at h2 g2
  have e := text_kind ⟨q1, q2⟩ ⟨r1, r2⟩ hl q3 r3 (h2.trans g2.symm)
  subst e
  obtain ⟨e1, e2⟩ := text_inj1 hl q3 r3 q4 r4 q5 r5 (h2.trans g2.symm)
  simp only at e1 e2
  rw [e1, e2]
open Classical in
noncomputable def readV (l : Nat) (t : List UInt8) : Sen × Bool := if h : ∃ s, IsText l t s then (Classical.choose h, true) else (⟨0, 0, 0⟩, false)
theorem readV_some {l : Nat} (hl : 1 ≤ l ∧ l ≤ 4) {t : List UInt8} {s : Sen} (h : IsText l t s) : readV l t = (s, true) := by
  have hx : ∃ s, IsText l t s := ⟨s, h⟩
  unfold readV
  rw [dif_pos hx, isText_uniq hl (Classical.choose_spec hx) h]
theorem readV_none {l : Nat} {t : List UInt8} (h : ∀ s, ¬ IsText l t s) : readV l t = (⟨0, 0, 0⟩, false) := by
  unfold readV
  rw [dif_neg (fun ⟨s, hs⟩ => h s hs)]
theorem readV_cases {l : Nat} (hl : 1 ≤ l ∧ l ≤ 4) (t : List UInt8) : (∃ s, IsText l t s ∧ readV l t = (s, true)) ∨ ((∀ s, ¬ IsText l t s) ∧ readV l t = (⟨0, 0, 0⟩, false)) := by
  by_cases h : ∃ s, IsText l t s
  · obtain ⟨s, hs⟩ := h
    exact .inl ⟨s, hs, readV_some hl hs⟩
  · exact .inr ⟨fun s hs => h ⟨s, hs⟩, readV_none fun s hs => h ⟨s, hs⟩⟩
theorem text_len {k l : Nat} (hk : 1 ≤ k ∧ k ≤ 7) (hl : 1 ≤ l ∧ l ≤ 4) {a b : Int} (ha : numOk k a) (hb : k = 4 → numOk 4 b) : (textT k l a b).length ≤ 160 := by
  have h1 := (pat_facts hk hl).1
  have h2 := (num_facts hk hl ha).1
  rw [text_split]
  unfold restV
  unfold patT at h1
  by_cases h4 : k = 4
  · subst h4
    have h3 := (num_facts hk hl (hb rfl)).1
    rw [if_pos rfl] at h1 ⊢
    simp only [List.length_append] at h1 ⊢
    omega
  · rw [if_neg h4] at h1 ⊢
    simp only [List.length_append] at h1 ⊢
    omega
end Go.Proofs.YthbnliepgjjbdaaGreatDoor

/- Sentences: taking a text apart (plain). -/
namespace Go.Proofs.YthbnliepgjjbdaaGreatDoor
open Go.ChangeShapes Go.WideShapes Go.ChangeAt Go.RowKit
set_option linter.unusedVariables false
theorem idx_sep (x : UInt8) (r v : List UInt8) : ∀ q : List UInt8, x ∉ q → Lib.index (q ++ (x :: r) ++ v) (x :: r) = (q.length : Nat)
  | [], _ => by
    show Lib.index (x :: (r ++ v)) (x :: r) = 0
    unfold Lib.index
    rw [if_pos (by simp [List.isPrefixOf_iff_prefix])]
  | b :: q, h => by
    have ih := idx_sep x r v q (fun hq => h (List.mem_cons_of_mem _ hq))
    have hb : (x == b) = false := by simp; rintro rfl; exact h (List.mem_cons_self ..)
    have hp : (x :: r).isPrefixOf (b :: (q ++ (x :: r) ++ v)) = false := by
      show (x == b && _) = false
      rw [hb]; rfl
    show Lib.index (b :: (q ++ (x :: r) ++ v)) (x :: r) = _
    unfold Lib.index
    rw [if_neg (by rw [hp]; simp), ih]
    have h2 : ((q.length : Int) == -1) = false := by simp
    rw [h2]; simp
theorem idx_none (x : UInt8) (r : List UInt8) : ∀ q : List UInt8, x ∉ q → Lib.index q (x :: r) = -1
  | [], _ => by simp [Lib.index]
  | b :: q, h => by
    have ih := idx_none x r q (fun hq => h (List.mem_cons_of_mem _ hq))
    have hb : (x == b) = false := by simp; rintro rfl; exact h (List.mem_cons_self ..)
    have hp : (x :: r).isPrefixOf (b :: q) = false := by
      show (x == b && _) = false
      rw [hb]; rfl
    unfold Lib.index
    rw [if_neg (by rw [hp]; simp), ih]; rfl
theorem cut_sep (x : UInt8) (r v q : List UInt8) (h : x ∉ q) : Lib.cut (q ++ (x :: r) ++ v) (x :: r) = (q, v, true) := by
  unfold Lib.cut
  rw [idx_sep x r v q h, if_pos (by omega), Int.toNat_natCast]
  have e1 : (q ++ (x :: r) ++ v).take q.length = q := by rw [List.append_assoc, List.take_left']; rfl
  have e2 : (q ++ (x :: r) ++ v).drop (q.length + (x :: r).length) = v := by rw [← List.length_append, List.drop_left']; rfl
  rw [e1, e2]
theorem cut_none (x : UInt8) (r q : List UInt8) (h : x ∉ q) : Lib.cut q (x :: r) = (q, [], false) := by
  unfold Lib.cut
  rw [idx_none x r q h, if_neg (by omega)]
theorem cut_pat {k l : Nat} (hk : 1 ≤ k ∧ k ≤ 7) (hl : 1 ≤ l ∧ l ≤ 4) : Lib.cut (patT k l) [60, 65, 62] = ((partT k l).1, restT k l, true) := by
  rw [patT_rest]
  exact cut_sep 60 [65, 62] (restT k l) _ (pat_facts hk hl).2.1
def endT (k l : Nat) : List UInt8 := if k = 4 then (partT 4 l).2.2 else (partT k l).2.1
def betT (k l : Nat) : List UInt8 := if k = 4 then (partT 4 l).2.1 else []
theorem cut_rest {k l : Nat} (hk : 1 ≤ k ∧ k ≤ 7) (hl : 1 ≤ l ∧ l ≤ 4) : Lib.cut (restT k l) [60, 66, 62] = if k = 4 then (betT k l, endT k l, true) else (restT k l, [], false) := by
  have h := (pat_facts hk hl).2.2.1
  unfold betT endT restT
  by_cases h4 : k = 4
  · subst h4
    simp only [if_true]
    exact cut_sep 60 [66, 62] _ _ h
  · simp only [if_neg h4]
    exact cut_none 60 [66, 62] _ h
theorem endT_rest {k l : Nat} (h4 : k ≠ 4) : restT k l = endT k l := by unfold restT endT; rw [if_neg h4, if_neg h4]
/-- what stands between the ends of a text -/
def innerT (k l : Nat) (t : List UInt8) : List UInt8 := Lib.trimSuffix (Lib.trimPrefix t (partT k l).1) (endT k l)
def fitsT (k l : Nat) (t : List UInt8) : Bool := Lib.hasPrefix t (partT k l).1 && Lib.hasSuffix (Lib.trimPrefix t (partT k l).1) (endT k l)
def wordA (k l : Nat) (t : List UInt8) : List UInt8 := if k = 4 then (Lib.cut (innerT k l t) (betT k l)).1 else innerT k l t
def wordBB (k l : Nat) (t : List UInt8) : List UInt8 := (Lib.cut (innerT k l t) (betT k l)).2.1
theorem trimP_len (s p : List UInt8) : (Lib.trimPrefix s p).length ≤ s.length := by
  unfold Lib.trimPrefix; split
  · rw [List.length_drop]; omega
  · omega
theorem trimS_len (s p : List UInt8) : (Lib.trimSuffix s p).length ≤ s.length := by
  unfold Lib.trimSuffix; split
  · rw [List.length_take]; omega
  · omega
theorem cut_len (s p : List UInt8) : (Lib.cut s p).1.length ≤ s.length ∧ (Lib.cut s p).2.1.length ≤ s.length := by
  unfold Lib.cut; split
  · simp only [List.length_take, List.length_drop]; omega
  · simp
theorem inner_len (k l : Nat) (t : List UInt8) : (innerT k l t).length ≤ t.length := Nat.le_trans (trimS_len _ _) (trimP_len _ _)
theorem word_len (k l : Nat) (t : List UInt8) : (wordA k l t).length ≤ t.length ∧ (wordBB k l t).length ≤ t.length := by
  have h := inner_len k l t
  have h2 := cut_len (innerT k l t) (betT k l)
  unfold wordA wordBB
  refine ⟨?_, by omega⟩
  split <;> omega
theorem trimP_app (p r : List UInt8) : Lib.hasPrefix (p ++ r) p = true ∧ Lib.trimPrefix (p ++ r) p = r := by
  have h : Lib.hasPrefix (p ++ r) p = true := by unfold Lib.hasPrefix; simp [List.isPrefixOf_iff_prefix]
  refine ⟨h, ?_⟩
  unfold Lib.trimPrefix
  rw [if_pos h, List.drop_left']; rfl
theorem trimS_app (r p : List UInt8) : Lib.hasSuffix (r ++ p) p = true ∧ Lib.trimSuffix (r ++ p) p = r := by
  have h : Lib.hasSuffix (r ++ p) p = true := by unfold Lib.hasSuffix; simp [List.isSuffixOf_iff_suffix]
  refine ⟨h, ?_⟩
  unfold Lib.trimSuffix
  rw [if_pos h, List.length_append, Nat.add_sub_cancel, List.take_left']; rfl
/-- a text of this kind comes apart as it was made -/
theorem text_apart {k l : Nat} (hl : 1 ≤ l ∧ l ≤ 4) {a b : Int} (ha : numOk k a) : fitsT k l (textT k l a b) = true ∧ wordA k l (textT k l a b) = numT k l a ∧ (k = 4 → wordBB k l (textT k l a b) = numT k l b) := by
  have e0 : textT k l a b = (partT k l).1 ++ ((if k = 4 then numT k l a ++ betT k l ++ numT k l b else numT k l a) ++ endT k l) := by
    rw [text_split]
    unfold restV betT endT
    split
    · rename_i h; subst h; simp
    · rfl
  obtain ⟨h1, h2⟩ := trimP_app (partT k l).1 ((if k = 4 then numT k l a ++ betT k l ++ numT k l b else numT k l a) ++ endT k l)
  obtain ⟨h3, h4⟩ := trimS_app (if k = 4 then numT k l a ++ betT k l ++ numT k l b else numT k l a) (endT k l)
  have hi : innerT k l (textT k l a b) = if k = 4 then numT k l a ++ betT k l ++ numT k l b else numT k l a := by
    unfold innerT; rw [e0, h2, h4]
  refine ⟨?_, ?_, ?_⟩
  · unfold fitsT; rw [e0, h1, h2, h3]; rfl
  · unfold wordA
    rw [hi]
    by_cases hk : k = 4
    · subst hk
      simp only [if_true]
      obtain ⟨r, hr⟩ := mid_blank hl
      have hb : betT 4 l = 32 :: r := by unfold betT; rw [if_pos rfl, hr]
      rw [hb, cut_sep 32 r _ _ (num_blank hl ha)]
    · rw [if_neg hk, if_neg hk]
  · rintro rfl
    unfold wordBB
    rw [hi]
    simp only [if_true]
    obtain ⟨r, hr⟩ := mid_blank hl
    have hb : betT 4 l = 32 :: r := by unfold betT; rw [if_pos rfl, hr]
    rw [hb, cut_sep 32 r _ _ (num_blank hl ha)]
/-! ### numbers in decimal -/
def rdV (s : ByteArray) : Int × Bool := match Lib.parseIntB 64 s.data.toList with
  | .ok v => if (Lib.trimPrefix s.data.toList [45]).length ≤ 18 ∧ Lib.itoa v = s.data.toList then (v, true) else (0, false)
  | _ => (0, false)
theorem dg_ne {m : Nat} (h : 0 < m) : dg m ≠ [] := by rw [dg_step h]; simp
theorem parse_dg : ∀ f m : Nat, m < 10 ^ f → m ≤ 1000000000000000000 → Lib.parseUintM 18446744073709551615 0 (dg m) = .ok m := by
  have hs : ∀ (l : List UInt8) (acc u : Nat) (c : UInt8), Lib.parseUintM 18446744073709551615 acc l = .ok u → 48 ≤ c.toNat → c.toNat ≤ 57 → u * 10 + (c.toNat - 48) ≤ 18446744073709551615 → Lib.parseUintM 18446744073709551615 acc (l ++ [c]) = .ok (u * 10 + (c.toNat - 48)) := by
    intro l
    induction l with
    | nil =>
      intro acc u c h h1 h2 h3
      simp only [Lib.parseUintM] at h
      injection h with h
      subst h
      simp only [List.nil_append, Lib.parseUintM]
      rw [if_pos ⟨h1, h2⟩, if_neg (by omega), if_neg (by omega)]
    | cons x l ih =>
      intro acc u c h h1 h2 h3
      simp only [List.cons_append, Lib.parseUintM] at h ⊢
      split at h
      · rename_i hx
        rw [if_pos hx]
        split at h
        · cases h
        · rename_i hx2
          rw [if_neg hx2]
          split at h
          · cases h
          · rename_i hx3
            rw [if_neg hx3]
            exact ih _ u c h h1 h2 h3
      · cases h
  intro f
  induction f with
  | zero => intro m h _; rw [show m = 0 by omega]; rfl
  | succ f ih =>
    intro m h hm
    by_cases h0 : m = 0
    · subst h0; rfl
    · have h1 := ih (m / 10) (by rw [Nat.pow_succ] at h; omega) (by omega)
      have hd := digit_val m
      rw [dg_step (by omega)]
      rw [hs _ _ _ _ h1 (by rw [hd]; omega) (by rw [hd]; omega) (by rw [hd]; omega), hd]
      congr 1
      omega
theorem dg_head : ∀ f m : Nat, m < 10 ^ f → 0 < m → ∃ c r, dg m = c :: r ∧ 49 ≤ c.toNat ∧ c.toNat ≤ 57
  | 0, m, h, h0 => by omega
  | f + 1, m, h, h0 => by
    by_cases h1 : m < 10
    · rw [dg_step h0, show m / 10 = 0 by omega]
      refine ⟨_, [], rfl, ?_, ?_⟩
      · have := digit_val m; omega
      · have := digit_val m; omega
    · obtain ⟨c, r, e, h2, h3⟩ := dg_head f (m / 10) (by rw [Nat.pow_succ] at h; omega) (by omega)
      rw [dg_step h0, e]
      exact ⟨c, r ++ [_], rfl, h2, h3⟩
/-- the decimal form of a number that is not negative is read back -/
theorem rd_dec {m : Nat} (hm : m ≤ 100000000000000000) : rdV (decB m) = ((m : Int), true) := by
  have hl : (decB m).data.toList = Lib.decDigits m := rfl
  unfold rdV
  rw [hl]
  by_cases h0 : m = 0
  · subst h0
    have e : Lib.decDigits 0 = [48] := by rw [Lib.decDigits]; rfl
    rw [e]
    have e2 : Lib.parseIntB 64 [48] = .ok 0 := by decide
    rw [e2]
    have e3 : (Lib.trimPrefix [48] [45]).length ≤ 18 ∧ Lib.itoa 0 = [48] := ⟨by decide, by unfold Lib.itoa; rw [if_neg (by omega)]; exact e⟩
    simp only
    rw [if_pos e3]; rfl
  · have e : Lib.decDigits m = dg m := by rw [dg, if_neg h0]
    rw [e]
    obtain ⟨c, r, ec, h1, h2⟩ := dg_head m m (lt_pow m) (by omega)
    have hp := parse_dg m m (lt_pow m) (by omega)
    have hlen := dg_len 18 m (by omega)
    have h64 : Lib.parseIntB 64 (dg m) = .ok (m : Int) := by
      rw [ec] at hp ⊢
      unfold Lib.parseIntB
      simp only
      rw [if_neg (by omega)]
      unfold Lib.parseUintB
      rw [if_neg (by simp), show (2 : Nat) ^ 64 - 1 = 18446744073709551615 by decide, hp]
      simp only
      have hn : ¬ c.toNat = 45 := by omega
      have hm2 : ¬ (2 ^ (64 - 1) ≤ m) := by rw [show (2 : Nat) ^ (64 - 1) = 9223372036854775808 by decide]; omega
      rw [if_neg (by simp [hm2]), if_neg (by simp [hn]), if_neg hn]
    rw [h64]
    have e3 : (Lib.trimPrefix (dg m) [45]).length ≤ 18 ∧ Lib.itoa (m : Int) = dg m := ⟨Nat.le_trans (trimP_len _ _) hlen, by unfold Lib.itoa; rw [if_neg (by omega), Int.toNat_natCast, e]⟩
    simp only
    rw [if_pos e3]
end Go.Proofs.YthbnliepgjjbdaaGreatDoor

/- Texts: comparing, appending, splitting at a byte. -/
namespace Go.Proofs.YthbnliepgjjbdaaGreatDoor
open Go.ChangeShapes Go.WideShapes Go.ChangeAt Go.RowKit
set_option linter.unusedVariables false
theorem zquiet_b {P : Program} {f : FuncId} {args : Array Value} {w : World} {v : Value} (h : Calls P f args w fun e w' => e = .returned v ∧ w = w') :
    Calls P f args w fun e w' => e = .returned v ∧ Below w.heap.size w w' := h.mono fun _ _ ⟨he, hw⟩ => ⟨he, by subst hw; exact Below.refl _ _⟩
theorem app_str {ops : Array Oper} {rest : List Oper} {o : Oper} {a : Act} {Q : Exit → Act → World → Prop} {w : World} (hgd : o.guard = none) (s x : Operand)
    (ho : o.op = .call { callee := .builtin .append, args := #[s, x], argTypes := #[46, 46] })
    (lo : Nat) (v : Value) (n : Nat) (l : List ByteArray) (z : ByteArray) (g : Nat) (hs : a.eval s = v) (hown : w.ownsRow lo 9 1 v n (strs l))
    (hx : a.eval x = .slice (some ⟨g, 0, none⟩) 1 1) (hc : w.cell? ⟨g, 0, none⟩ = some (.string z)) (hn : n ≤ 100000000000) (hlo : lo ≤ w.heap.size)
    (h : ∀ v' w', w'.ownsRow lo 9 1 v' (n + 1) (strs (l ++ [z])) → Below lo w w' → w.heap.size ≤ w'.heap.size → wpList Tryz.prog ops Q rest (a.put o.dst v') w') : wpList Tryz.prog ops Q (o :: rest) a w := by
  refine app_gen hgd s x _ ho lo _ _ 1 16 Tryz.underlying46 info_str rfl (by omega) (by omega) v n (strs l) [.string z] g hs hown hx rfl (by simp [Value.oneCell']) (fun j u hu => ?_) hn hlo (fun v' w' h1 h2 h3 => h v' w' (by simpa [strs] using h1) h2 h3)
  match j with
  | 0 => simp at hu; rw [hc, hu]
  | j + 1 => simp at hu
theorem owns_alZ {w : World} {lo s n : Nat} {T : TypeId} {v : Value} {xs : List Value} (h : w.ownsRow lo T s v n xs) (o : Obj) : (w.alloc o).ownsRow lo T s v n xs := by
  have h2 : Own w lo w.heap.size T s v n xs := Own.of_owns h (Nat.le_refl _)
  exact (h2.below ((Below.refl w.heap.size w).alloc (Nat.le_refl _) o) (Nat.le_refl _)).1
theorem owns_belZ {w w' : World} {lo B s n : Nat} {T : TypeId} {v : Value} {xs : List Value} (h : w.ownsRow lo T s v n xs) (hb : Below B w w') (hB : w.heap.size ≤ B) : w'.ownsRow lo T s v n xs :=
  ((Own.of_owns h (Nat.le_refl _)).below hb hB).1
theorem eqT (a b : ByteArray) : (a.toList == b.toList) = decide (a = b) := by
  rw [ByteArray.toList_eq, ByteArray.toList_eq, Bool.eq_iff_iff, beq_iff_eq, decide_eq_true_iff]
  constructor
  · intro h
    obtain ⟨⟨a⟩⟩ := a
    obtain ⟨⟨b⟩⟩ := b
    simp at h
    rw [h]
  · rintro rfl; rfl
/-- the list of integers that a row of texts stands for -/
def SPost (l : List ByteArray) (w : World) (e : Ending) (w' : World) : Prop :=
  ∃ A c, e = .returned (.slice A l.length c) ∧ Own w' w.heap.size w'.heap.size 9 1 (.slice A l.length c) l.length (strs l) ∧ Below w.heap.size w w'
theorem byte_list (s : ByteArray) {k : Nat} (h : k < s.size) (c : UInt8) : decide (s.data.toList[k]? = some c) = ((((s[k]'h).toNat : Nat) : Int) == (c.toNat : Nat)) := by
  have h2 : s.data.toList[k]? = some (s[k]'h) := by
    rw [Array.getElem?_toList, Array.getElem?_eq_getElem h]; rfl
  rw [h2, Bool.eq_iff_iff, decide_eq_true_iff, beq_iff_eq, Option.some.injEq]
  constructor
  · rintro rfl; rfl
  · intro e
    exact UInt8.toNat_inj.1 (by omega)
theorem empT (s : ByteArray) : (s.toList == []) = decide (s.size = 0) := by
  have e : s.toList.length = s.size := by rw [ByteArray.toList_eq]; rfl
  rw [Bool.eq_iff_iff, beq_iff_eq, decide_eq_true_iff]
  constructor
  · intro h; rw [h] at e; simpa using e.symm
  · intro h; rw [h] at e; exact List.eq_nil_of_length_eq_zero e
end Go.Proofs.YthbnliepgjjbdaaGreatDoor
