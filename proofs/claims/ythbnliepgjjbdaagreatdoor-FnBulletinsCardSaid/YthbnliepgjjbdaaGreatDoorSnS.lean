/- Sentences: one read from a text, by the reference (printed by wip/tools/mk_sns.py). -/
import Derived.Test.YthbnliepgjjbdaaGreatDoorSnQ
import Derived.Test.YthbnliepgjjbdaaGreatDoorSnH
namespace Go.Proofs.YthbnliepgjjbdaaGreatDoor
open Go.ChangeShapes Go.WideShapes Go.ChangeAt Go.RowKit
set_option linter.unusedVariables false
theorem ok_range {k a b : Int} (h : okS k a b = true) : (k = 4 → 0 ≤ a ∧ a ≤ 7 ∧ 0 ≤ b ∧ b ≤ 7) ∧ (k ≠ 4 → -1 ≤ a ∧ a ≤ 5000 ∧ 0 ≤ b ∧ b ≤ 0) := by
  obtain ⟨kn, rfl, q1, q7, _⟩ := okS_num h
  unfold okS inB at h
  have hk7 : kn = 1 ∨ kn = 2 ∨ kn = 3 ∨ kn = 4 ∨ kn = 5 ∨ kn = 6 ∨ kn = 7 := by omega
  rcases hk7 with rfl | rfl | rfl | rfl | rfl | rfl | rfl <;> simp at h ⊢ <;> omega
theorem isText_four {l : Nat} {t : List UInt8} : ∀ x, IsText l t x → x.k = (4 : Nat) → 0 ≤ x.a ∧ x.a ≤ 7 ∧ 0 ≤ x.b ∧ x.b ≤ 7 := fun x h hk => (ok_range h.1).1 (by omega)
theorem isText_other {l k : Nat} {t : List UInt8} (hk4 : k ≠ 4) : ∀ x, IsText l t x → x.k = (k : Nat) → -1 ≤ x.a ∧ x.a ≤ 5000 ∧ 0 ≤ x.b ∧ x.b ≤ 0 := fun x h hk => (ok_range h.1).2 (by omega)
theorem step_b {l k : Nat} {t : List UInt8} {av bv : Int} (h : ∀ x, IsText l t x → x.k = (k : Nat) → x.a = av → bv ≤ x.b) {x : Sen} (hx : x = ⟨k, av, bv⟩) (hn : ¬ IsText l t x) :
    ∀ x, IsText l t x → x.k = (k : Nat) → x.a = av → bv + 1 ≤ x.b := by
  intro y h1 h2 h3
  have g := h y h1 h2 h3
  apply Classical.byContradiction
  intro hq
  have e : y = x := by
    obtain ⟨k', a', b'⟩ := y
    simp only at h2 h3 g hq
    rw [hx, h2, h3]
    congr 1; omega
  rw [e] at h1
  exact hn h1
theorem head_no {l k : Nat} (hl : 1 ≤ l ∧ l ≤ 4) {t : List UInt8} (hlow : ∀ s, IsText l t s → (k : Int) ≤ s.k) (h : ¬ (partT k l).1 <+: t) : ∀ s, IsText l t s → ((k + 1 : Nat) : Int) ≤ s.k := by
  intro s hs
  have h1 := hlow s hs
  apply Classical.byContradiction
  intro hq
  obtain ⟨_, _, _, q4⟩ := isText_kind hs (k := k) (by omega)
  rw [text_split] at q4
  exact h ⟨_, q4⟩
theorem ext_pre {s : ByteArray} {p : List UInt8} {h : ByteArray} (hh : h = ⟨p.toArray⟩) : ((s.extract 0 h.size).toList == h.toList) = decide (p <+: s.data.toList) := by
  have hz : h.size = p.length := by rw [hh]; rfl
  rw [eqT, Bool.eq_iff_iff, decide_eq_true_iff, decide_eq_true_iff, hz]
  constructor
  · intro e
    have e2 : (s.extract 0 p.length).data.toList = h.data.toList := by rw [e]
    rw [ext_list, hh] at e2
    simp at e2
    rw [← e2]
    exact List.take_prefix _ _
  · rintro ⟨r, hr⟩
    have e2 : (s.extract 0 p.length).data.toList = p := by rw [ext_list, ← hr]; simp
    rw [hh]
    obtain ⟨⟨x⟩⟩ := h
    have : (s.extract 0 p.length) = ⟨(s.extract 0 p.length).data.toList.toArray⟩ := by cases (s.extract 0 p.length); rfl
    rw [this, e2]
end Go.Proofs.YthbnliepgjjbdaaGreatDoor
