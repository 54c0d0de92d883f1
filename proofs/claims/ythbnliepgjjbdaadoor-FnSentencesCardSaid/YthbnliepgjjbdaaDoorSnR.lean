/- Sentences: their texts tell them apart (plain). -/
import Derived.Test.YthbnliepgjjbdaaDoorSnE
import Derived.Test.YthbnliepgjjbdaaDoorZnA
import Derived.Test.YthbnliepgjjbdaaDoorSenS
namespace Go.Proofs.YthbnliepgjjbdaaDoor
open Go.ChangeShapes Go.WideShapes Go.ChangeAt Go.RowKit
set_option linter.unusedVariables false
/-! ### decimal forms tell numbers apart -/
def valD (l : List UInt8) : Nat := l.foldl (fun acc b => 10 * acc + (b.toNat - 48)) 0
theorem valD_snoc (l : List UInt8) (b : UInt8) : valD (l ++ [b]) = 10 * valD l + (b.toNat - 48) := by simp [valD]
theorem digit_val (m : Nat) : (UInt8.ofNat (48 + m % 10)).toNat = 48 + m % 10 := by rw [UInt8.toNat_ofNat']; omega
theorem valD_dg : ∀ f m : Nat, m < 10 ^ f → valD (dg m) = m
  | 0, m, h => by rw [show m = 0 by omega]; simp [dg, valD]
  | f + 1, m, h => by
    by_cases h0 : m = 0
    · subst h0; simp [dg, valD]
    · have ih := valD_dg f (m / 10) (by rw [Nat.pow_succ] at h; omega)
      rw [dg_step (by omega), valD_snoc, ih, digit_val]; omega
theorem lt_pow (m : Nat) : m < 10 ^ m := Nat.lt_pow_self (by omega)
theorem valD_dec (m : Nat) : valD (Lib.decDigits m) = m := by
  by_cases h0 : m = 0
  · subst h0; rw [Lib.decDigits]; rfl
  · have e : Lib.decDigits m = dg m := by rw [dg, if_neg h0]
    rw [e]; exact valD_dg m m (lt_pow m)
theorem dec_inj {m n : Nat} (h : Lib.decDigits m = Lib.decDigits n) : m = n := by rw [← valD_dec m, ← valD_dec n, h]
/-! ### words -/
theorem word_nodup {k l : Nat} (hk : k = 2 ∨ k = 4 ∨ k = 7) (hl : 1 ≤ l ∧ l ≤ 4) : (wordT k l).Nodup ∧ (k = 2 → (wordT k l).length = 3) ∧ (k ≠ 2 → (wordT k l).length = 8) ∧ (k ≠ 2 → ∀ x ∈ wordT k l, (32 : UInt8) ∉ x) := by
  have hl4 : l = 1 ∨ l = 2 ∨ l = 3 ∨ l = 4 := by omega
  rcases hk with rfl | rfl | rfl <;> rcases hl4 with rfl | rfl | rfl | rfl <;> decide
theorem word_some {k l : Nat} (hk : k = 2 ∨ k = 4 ∨ k = 7) (hl : 1 ≤ l ∧ l ≤ 4) {n : Int} (hn : numOk k n) : ∃ i : Nat, (wordT k l)[i]? = some (numT k l n) ∧ (i : Int) = n - leastT k := by
  obtain ⟨_, h3, h8, _⟩ := word_nodup hk hl
  unfold numT leastT
  by_cases h2 : k = 2
  · have hb := hn.1 h2
    have hlt : (n + 1).toNat < (wordT k l).length := by rw [h3 h2]; omega
    refine ⟨(n + 1).toNat, ?_, ?_⟩
    · rw [if_pos h2, List.getElem?_eq_getElem hlt]; rfl
    · rw [if_pos h2]; omega
  · have hb := hn.2.1 (by omega)
    have hlt : n.toNat < (wordT k l).length := by rw [h8 h2]; omega
    refine ⟨n.toNat, ?_, ?_⟩
    · rw [if_neg h2, if_pos (by omega), List.getElem?_eq_getElem hlt]; rfl
    · rw [if_neg h2]; omega
theorem num_inj {k l : Nat} (hl : 1 ≤ l ∧ l ≤ 4) {a b : Int} (ha : numOk k a) (hb : numOk k b) (h : numT k l a = numT k l b) : a = b := by
  by_cases hk : k = 2 ∨ k = 4 ∨ k = 7
  · obtain ⟨i, h1, e1⟩ := word_some hk hl ha
    obtain ⟨j, h2, e2⟩ := word_some hk hl hb
    have hlt := (List.getElem?_eq_some_iff.1 h1).1
    have := (List.getElem?_inj hlt (word_nodup hk hl).1).1 (h1.trans ((congrArg some h).trans h2.symm))
    omega
  · have h1 := ha.2.2 (by omega) (by omega) (by omega)
    have h2 := hb.2.2 (by omega) (by omega) (by omega)
    unfold numT at h
    rw [if_neg (by omega), if_neg (by omega), if_neg (by omega), if_neg (by omega)] at h
    have := dec_inj h
    omega
theorem num_blank {l : Nat} (hl : 1 ≤ l ∧ l ≤ 4) {n : Int} (hn : numOk 4 n) : (32 : UInt8) ∉ numT 4 l n := by
  obtain ⟨i, h1, _⟩ := word_some (.inr (.inl rfl)) hl hn
  exact (word_nodup (k := 4) (.inr (.inl rfl)) hl).2.2.2 (by decide) _ (List.mem_of_getElem? h1)
/-! ### texts -/
def restV (k l : Nat) (b : Int) : List UInt8 := if k = 4 then (partT 4 l).2.1 ++ (numT 4 l b ++ (partT 4 l).2.2) else (partT k l).2.1
theorem text_split (k l : Nat) (a b : Int) : textT k l a b = (partT k l).1 ++ (numT k l a ++ restV k l b) := by
  unfold textT restV
  split
  · rename_i h; subst h; simp
  · simp
theorem mid_blank {l : Nat} (hl : 1 ≤ l ∧ l ≤ 4) : ∃ r, (partT 4 l).2.1 = 32 :: r := by
  have hl4 : l = 1 ∨ l = 2 ∨ l = 3 ∨ l = 4 := by omega
  rcases hl4 with rfl | rfl | rfl | rfl <;> exact ⟨_, rfl⟩
theorem text_inj1 {k l : Nat} (hl : 1 ≤ l ∧ l ≤ 4) {a b a' b' : Int} (ha : numOk k a) (ha' : numOk k a') (hb : k = 4 → numOk 4 b) (hb' : k = 4 → numOk 4 b') (hz : k ≠ 4 → b = 0) (hz' : k ≠ 4 → b' = 0)
    (h : textT k l a b = textT k l a' b') : a = a' ∧ b = b' := by
  rw [text_split, text_split] at h
  have h := List.append_cancel_left h
  unfold restV at h
  by_cases h4 : k = 4
  · subst h4
    rw [if_pos rfl, if_pos rfl] at h
    obtain ⟨r, hr⟩ := mid_blank hl
    rw [hr] at h
    obtain ⟨e1, e2⟩ := app_uniq (num_blank hl ha) (num_blank hl ha') h
    have e3 := List.append_cancel_right (List.append_cancel_left e2)
    exact ⟨num_inj hl ha ha' e1, num_inj hl (hb rfl) (hb' rfl) e3⟩
  · rw [if_neg h4, if_neg h4] at h
    exact ⟨num_inj hl ha ha' (List.append_cancel_right h), by rw [hz h4, hz' h4]⟩
/-- how the texts of a kind begin -/
def stemL (k l : Nat) : List (List UInt8) := if k = 2 then (wordT 2 l).map fun w => (partT 2 l).1 ++ (w ++ (partT 2 l).2.1) else [(partT k l).1]
theorem stem_mem {k l : Nat} (hl : 1 ≤ l ∧ l ≤ 4) {a b : Int} (ha : numOk k a) : ∃ x ∈ stemL k l, x <+: textT k l a b := by
  rw [text_split]
  unfold stemL
  by_cases h2 : k = 2
  · subst h2
    obtain ⟨i, h1, _⟩ := word_some (.inl rfl) hl ha
    rw [if_pos rfl]
    refine ⟨_, List.mem_map.2 ⟨_, List.mem_of_getElem? h1, rfl⟩, ?_⟩
    unfold restV
    rw [if_neg (by decide)]
    exact List.prefix_refl _
  · rw [if_neg h2]
    exact ⟨_, List.mem_singleton.2 rfl, List.prefix_append _ _⟩
theorem stem_ne : ∀ l ∈ [1, 2, 3, 4], ∀ k ∈ [1, 2, 3, 4, 5, 6, 7], ∀ k' ∈ [1, 2, 3, 4, 5, 6, 7], k ≠ k' → ∀ x ∈ stemL k l, ∀ y ∈ stemL k' l, ¬ x <+: y := by decide +kernel
theorem text_kind {k k' l : Nat} (hk : 1 ≤ k ∧ k ≤ 7) (hk' : 1 ≤ k' ∧ k' ≤ 7) (hl : 1 ≤ l ∧ l ≤ 4) {a b a' b' : Int} (ha : numOk k a) (ha' : numOk k' a') (h : textT k l a b = textT k' l a' b') : k = k' := by
  apply Classical.byContradiction
  intro hne
  obtain ⟨x, hx, px⟩ := stem_mem (b := b) hl ha
  obtain ⟨y, hy, py⟩ := stem_mem (b := b') hl ha'
  rw [← h] at py
  have hl4 : l ∈ [1, 2, 3, 4] := by simp; omega
  have hk7 : k ∈ [1, 2, 3, 4, 5, 6, 7] := by simp; omega
  have hk7' : k' ∈ [1, 2, 3, 4, 5, 6, 7] := by simp; omega
  rcases Nat.le_total x.length y.length with hle | hle
  · exact stem_ne l hl4 k hk7 k' hk7' hne x hx y hy (List.prefix_of_prefix_length_le px py hle)
  · exact stem_ne l hl4 k' hk7' k hk7 (fun e => hne e.symm) y hy x hx (List.prefix_of_prefix_length_le py px hle)
/-- the text of a sentence -/
def Sen.text (l : Nat) (s : Sen) : List UInt8 := textT s.k.toNat l s.a s.b
def IsText (l : Nat) (t : List UInt8) (s : Sen) : Prop := s.ok = true ∧ s.text l = t
theorem isText_uniq {l : Nat} (hl : 1 ≤ l ∧ l ≤ 4) {t : List UInt8} {s s' : Sen} (h : IsText l t s) (h' : IsText l t s') : s = s' := by
  obtain ⟨k, a, b⟩ := s
  obtain ⟨k', a', b'⟩ := s'
  obtain ⟨h1, h2⟩ := h
  obtain ⟨g1, g2⟩ := h'
  unfold Sen.ok at h1 g1
  unfold Sen.text at h2 g2
  obtain ⟨kn, rfl, q1, q2, q3, q4, q5⟩ := okS_num h1
  obtain ⟨kn', rfl, r1, r2, r3, r4, r5⟩ := okS_num g1
  simp only [Int.toNat_natCast] at h2 g2
  have e := text_kind ⟨q1, q2⟩ ⟨r1, r2⟩ hl q3 r3 (h2.trans g2.symm)
  subst e
  obtain ⟨e1, e2⟩ := text_inj1 hl q3 r3 q4 r4 q5 r5 (h2.trans g2.symm)
  simp only at e1 e2
  rw [e1, e2]
open Classical in
noncomputable def readV (l : Nat) (t : List UInt8) : Sen × Bool := if h : ∃ s, IsText l t s then (Classical.choose h, true) else (⟨0, 0, 0⟩, false)
theorem readV_some {l : Nat} (hl : 1 ≤ l ∧ l ≤ 4) {t : List UInt8} {s : Sen} (h : IsText l t s) : readV l t = (s, true) := by
  have hx : ∃ s, IsText l t s := ⟨s, h⟩
  unfold readV
  rw [dif_pos hx, isText_uniq hl (Classical.choose_spec hx) h]
theorem readV_none {l : Nat} {t : List UInt8} (h : ∀ s, ¬ IsText l t s) : readV l t = (⟨0, 0, 0⟩, false) := by
  unfold readV
  rw [dif_neg (fun ⟨s, hs⟩ => h s hs)]
theorem readV_cases {l : Nat} (hl : 1 ≤ l ∧ l ≤ 4) (t : List UInt8) : (∃ s, IsText l t s ∧ readV l t = (s, true)) ∨ ((∀ s, ¬ IsText l t s) ∧ readV l t = (⟨0, 0, 0⟩, false)) := by
  by_cases h : ∃ s, IsText l t s
  · obtain ⟨s, hs⟩ := h
    exact .inl ⟨s, hs, readV_some hl hs⟩
  · exact .inr ⟨fun s hs => h ⟨s, hs⟩, readV_none fun s hs => h ⟨s, hs⟩⟩
theorem text_len {k l : Nat} (hk : 1 ≤ k ∧ k ≤ 7) (hl : 1 ≤ l ∧ l ≤ 4) {a b : Int} (ha : numOk k a) (hb : k = 4 → numOk 4 b) : (textT k l a b).length ≤ 160 := by
  have h1 := (pat_facts hk hl).1
  have h2 := (num_facts hk hl ha).1
  rw [text_split]
  unfold restV
  unfold patT at h1
  by_cases h4 : k = 4
  · subst h4
    have h3 := (num_facts hk hl (hb rfl)).1
    rw [if_pos rfl] at h1 ⊢
    simp only [List.length_append] at h1 ⊢
    omega
  · rw [if_neg h4] at h1 ⊢
    simp only [List.length_append] at h1 ⊢
    omega
end Go.Proofs.YthbnliepgjjbdaaDoor
