/- Bulletins: their texts, by both. -/
import Derived.Test.YthbnliepgjjbdaaGreatDoorSnT
import Derived.Test.YthbnliepgjjbdaaGreatDoorBul
namespace Go.Proofs.YthbnliepgjjbdaaGreatDoor
open Go.ChangeShapes Go.WideShapes Go.ChangeAt Go.RowKit
set_option linter.unusedVariables false
theorem str_nil (x : List UInt8) : (⟨#[]⟩ : ByteArray) ++ ⟨x.toArray⟩ = ⟨x.toArray⟩ := by rw [show (⟨#[]⟩ : ByteArray) = ⟨([] : List UInt8).toArray⟩ from rfl, str_add]; rfl
def joinS (l : Nat) (ss : List Sen) : List UInt8 := Lib.join (ss.map (Sen.text l)) [47]
theorem joinS_nil (l : Nat) : joinS l [] = [] := rfl
theorem joinS_one (l : Nat) (s : Sen) : joinS l [s] = s.text l := by unfold joinS; rw [List.map_singleton, Lib.join_one]
theorem joinS_snoc (l : Nat) (P : List Sen) (s : Sen) (h : P ≠ []) : joinS l (P ++ [s]) = joinS l P ++ ([47] ++ s.text l) := by
  unfold joinS
  rw [List.map_append, List.map_singleton, join_snoc 47 _ _ (by simpa using h)]; rfl
theorem sen_text_len {l : Nat} (hl : 1 ≤ l ∧ l ≤ 4) {s : Sen} (h : s.ok = true) : (s.text l).length ≤ 160 := by
  obtain ⟨k, a, b⟩ := s
  obtain ⟨kn, rfl, q1, q7, ha, hb, _⟩ := okS_num h
  exact text_len ⟨q1, q7⟩ hl ha hb
theorem joinS_len {l : Nat} (hl : 1 ≤ l ∧ l ≤ 4) : ∀ ss : List Sen, (∀ s ∈ ss, s.ok = true) → (joinS l ss).length ≤ 161 * ss.length
  | [], _ => by rw [joinS_nil]; simp
  | [s], h => by
    rw [joinS_one]
    have := sen_text_len hl (h s (by simp))
    simp; omega
  | s :: t :: r, h => by
    have ih := joinS_len hl (t :: r) (fun x hx => h x (List.mem_cons_of_mem _ hx))
    have h1 := sen_text_len hl (h s (by simp))
    unfold joinS at ih ⊢
    simp only [List.map_cons] at ih ⊢
    rw [join_two]
    simp only [List.length_append, List.length_cons] at ih ⊢
    omega
theorem stepB_ok {ss : List Sen} {i : Nat} {s : Sen} (hs : ss[i]? = some s) (h : stepB ss i = true) : s.ok = true := by
  unfold stepB at h
  rw [hs] at h
  simp only [Bool.and_eq_true] at h
  exact h.1
theorem bulB_all {ss : List Sen} (h : bulB ss = true) : (∀ s ∈ ss, s.ok = true) ∧ ss.length ≤ 7 := by
  unfold bulB at h
  simp only [Bool.and_eq_true, decide_eq_true_eq] at h
  refine ⟨fun s hs => ?_, h.2⟩
  obtain ⟨i, hi⟩ := List.getElem?_of_mem hs
  have h1 := h.1
  simp only [bulOk, List.all_eq_true, List.mem_range] at h1
  exact stepB_ok hi (h1 i (List.getElem?_eq_some_iff.1 hi).1)
def bulT (l : Nat) (ss : List Sen) : List UInt8 := if ss = [] then [45] else joinS l ss
def btV (ss : List Sen) (n : Int) : ByteArray × Int := if bulB ss = false then (⟨#[]⟩, 1) else if inB n 1 4 = false then (⟨#[]⟩, 2) else (⟨(bulT n.toNat ss).toArray⟩, 0)
end Go.Proofs.YthbnliepgjjbdaaGreatDoor
