/- FnRegions: the row of the law's marks, plain. -/
import Derived.Test.YteklfeeamjgplaaGreatDoorFrP
namespace Go.Proofs.YteklfeeamjgplaaGreatDoor
open Go.ChangeShapes Go.WideShapes Go.ChangeAt Go.RowKit
set_option linter.unusedVariables false
/-- region a stands in set i, and the law has come past it -/
def Past (ss : List (List Int)) (k j a i : Nat) : Prop := ∃ q, ss[i]? = some q ∧ ((i < k ∧ (a : Int) ∈ q) ∨ (i = k ∧ (a : Int) ∈ q.take j))
structure AtI (ss : List (List Int)) (k j n : Nat) (at_ : List Int) : Prop where
  len : at_.length = n
  is : ∀ a v, at_[a]? = some v → (v = 0 ∧ ∀ i, ¬ Past ss k j a i) ∨ ∃ i : Nat, v = (i : Int) + 1 ∧ Past ss k j a i
theorem AtI.start (ss : List (List Int)) (n : Nat) : AtI ss 0 0 n (List.replicate n 0) := by
  refine ⟨by simp, fun a v h => .inl ⟨?_, ?_⟩⟩
  · exact List.eq_of_mem_replicate (List.mem_of_getElem? h)
  · rintro i ⟨q, _, ⟨h1, _⟩ | ⟨_, h2⟩⟩
    · omega
    · simp at h2
theorem Past.mem {ss : List (List Int)} {k j a i : Nat} (h : Past ss k j a i) : ∃ q, ss[i]? = some q ∧ (a : Int) ∈ q := by
  obtain ⟨q, h1, h2⟩ := h
  rcases h2 with ⟨_, h2⟩ | ⟨_, h2⟩
  · exact ⟨q, h1, h2⟩
  · exact ⟨q, h1, List.mem_of_mem_take h2⟩
theorem AtI.next {ss : List (List Int)} {k n : Nat} {q : List Int} {at_ : List Int} (h : AtI ss k q.length n at_) (hq : ss[k]? = some q) : AtI ss (k + 1) 0 n at_ := by
  have key : ∀ a i, Past ss k q.length a i ↔ Past ss (k + 1) 0 a i := by
    intro a i
    constructor
    · rintro ⟨p, h1, ⟨h2, h3⟩ | ⟨h2, h3⟩⟩
      · exact ⟨p, h1, .inl ⟨by omega, h3⟩⟩
      · exact ⟨p, h1, .inl ⟨by omega, List.mem_of_mem_take h3⟩⟩
    · rintro ⟨p, h1, ⟨h2, h3⟩ | ⟨h2, h3⟩⟩
      · by_cases hi : i = k
        · subst hi
          have e : p = q := by rw [hq] at h1; exact (Option.some.inj h1).symm
          subst e
          exact ⟨p, h1, .inr ⟨rfl, by rw [List.take_of_length_le (Nat.le_refl _)]; exact h3⟩⟩
        · exact ⟨p, h1, .inl ⟨by omega, h3⟩⟩
      · simp at h3
  refine ⟨h.len, fun a v hv => ?_⟩
  rcases h.is a v hv with ⟨h1, h2⟩ | ⟨i, h1, h2⟩
  · exact .inl ⟨h1, fun i hi => h2 i ((key a i).2 hi)⟩
  · exact .inr ⟨i, h1, (key a i).1 h2⟩
theorem asc_take {q : List Int} {j : Nat} {z : Int} (hs : q.Pairwise (· < ·)) (hz : q[j]? = some z) : z ∉ q.take j := by
  intro hm
  obtain ⟨i, hi⟩ := List.getElem?_of_mem hm
  rw [List.getElem?_take] at hi
  split at hi
  · rename_i hij
    obtain ⟨h1, h2⟩ := List.getElem?_eq_some_iff.1 hi
    obtain ⟨h3, h4⟩ := List.getElem?_eq_some_iff.1 hz
    have := List.pairwise_iff_getElem.1 hs i j h1 h3 hij
    omega
  · cases hi
theorem AtI.free {ss : List (List Int)} {k j n a : Nat} {q : List Int} {at_ : List Int} {v : Int} (h : AtI ss k j n at_) (hap : ∀ i p, ss[i]? = some p → (a : Int) ∈ p → i = k) (hq : ss[k]? = some q) (hs : q.Pairwise (· < ·)) (hz : q[j]? = some (a : Int)) (hv : at_[a]? = some v) : v = 0 := by
  rcases h.is a v hv with ⟨h1, _⟩ | ⟨i, _, h2⟩
  · exact h1
  · obtain ⟨p, hp, h3⟩ := h2
    have hik := hap i p hp (h3.elim (fun q => q.2) (fun q => List.mem_of_mem_take q.2))
    subst hik
    have e : p = q := by rw [hq] at hp; exact (Option.some.inj hp).symm
    subst e
    rcases h3 with ⟨h3, _⟩ | ⟨_, h3⟩
    · omega
    · exact absurd h3 (asc_take hs hz)
theorem AtI.set {ss : List (List Int)} {k j n a : Nat} {q : List Int} {at_ : List Int} (h : AtI ss k j n at_) (hq : ss[k]? = some q) (hz : q[j]? = some (a : Int)) (ha : a < n) : AtI ss k (j + 1) n (at_.set a ((k : Int) + 1)) := by
  have ht : q.take (j + 1) = q.take j ++ [(a : Int)] := by rw [List.take_add_one, hz]; rfl
  have key : ∀ b i, Past ss k (j + 1) b i ↔ Past ss k j b i ∨ (i = k ∧ b = a) := by
    intro b i
    constructor
    · rintro ⟨p, h1, ⟨h2, h3⟩ | ⟨h2, h3⟩⟩
      · exact .inl ⟨p, h1, .inl ⟨h2, h3⟩⟩
      · subst h2
        have e : p = q := by rw [hq] at h1; exact (Option.some.inj h1).symm
        subst e
        rw [ht] at h3
        rcases List.mem_append.1 h3 with h3 | h3
        · exact .inl ⟨p, h1, .inr ⟨rfl, h3⟩⟩
        · simp at h3; exact .inr ⟨rfl, by omega⟩
    · rintro (⟨p, h1, ⟨h2, h3⟩ | ⟨h2, h3⟩⟩ | ⟨rfl, rfl⟩)
      · exact ⟨p, h1, .inl ⟨h2, h3⟩⟩
      · subst h2
        have e : p = q := by rw [hq] at h1; exact (Option.some.inj h1).symm
        subst e
        exact ⟨p, h1, .inr ⟨rfl, by rw [ht]; exact List.mem_append_left _ h3⟩⟩
      · exact ⟨q, hq, .inr ⟨rfl, by rw [ht]; exact List.mem_append_right _ (by simp)⟩⟩
  refine ⟨by rw [List.length_set]; exact h.len, fun b v hv => ?_⟩
  rw [List.getElem?_set] at hv
  split at hv
  · rename_i e; subst e
    split at hv
    · refine .inr ⟨k, (Option.some.inj hv).symm, (key a k).2 (.inr ⟨rfl, rfl⟩)⟩
    · cases hv
  · rename_i e
    rcases h.is b v hv with ⟨h1, h2⟩ | ⟨i, h1, h2⟩
    · refine .inl ⟨h1, fun i hi => ?_⟩
      rcases (key b i).1 hi with h3 | ⟨_, h3⟩
      · exact h2 i h3
      · exact e h3.symm
    · exact .inr ⟨i, h1, (key b i).2 (.inl h2)⟩
/-- what the marks say at the end -/
theorem AtI.done {ds : List Dat} {at_ : List Int} {a : Nat} {v : Int} (h : AtI (joinedV ds) (joinedV ds).length 0 ds.length at_) (hv : at_[a]? = some v) : ∃ (i : Nat) (q : List Int), v = (i : Int) + 1 ∧ (joinedV ds)[i]? = some q ∧ (a : Int) ∈ q := by
  have ha : a < ds.length := by rw [← h.len]; exact (List.getElem?_eq_some_iff.1 hv).1
  rcases h.is a v hv with ⟨_, h2⟩ | ⟨i, h1, h2⟩
  · obtain ⟨q, hq, hm⟩ := joined_all ha
    obtain ⟨i, hi⟩ := List.getElem?_of_mem hq
    exact absurd ⟨q, hi, .inl ⟨(List.getElem?_eq_some_iff.1 hi).1, hasZ_iff.1 hm⟩⟩ (h2 i)
  · obtain ⟨q, hq, hm⟩ := h2.mem
    exact ⟨i, q, h1, hq, hm⟩
theorem AtI.ne0 {ds : List Dat} {at_ : List Int} {a : Nat} {v : Int} (h : AtI (joinedV ds) (joinedV ds).length 0 ds.length at_) (hv : at_[a]? = some v) : v ≠ 0 := by
  obtain ⟨i, q, h1, _⟩ := h.done hv
  omega
/-- two that touch lie in one set exactly where their levels are the same -/
theorem AtI.touch {ds : List Dat} {at_ : List Int} {a b : Nat} {u v : Int} (hJ : JFacts ds) (h : AtI (joinedV ds) (joinedV ds).length 0 ds.length at_) (hu : at_[a]? = some u) (hv : at_[b]? = some v) (hn : isNb ds a b = true) : (u = v) ↔ (dLv ds a = dLv ds b) := by
  have hb : b < ds.length := by rw [← h.len]; exact (List.getElem?_eq_some_iff.1 hv).1
  obtain ⟨i, p, rfl, hp, ha1⟩ := h.done hu
  obtain ⟨j, q, rfl, hq, hb1⟩ := h.done hv
  have hpm := List.mem_of_getElem? hp
  constructor
  · intro e
    have hij : i = j := by omega
    subst hij
    have e2 : p = q := by rw [hp] at hq; exact Option.some.inj hq
    subst e2
    exact hJ.lv p hpm a b ha1 hb1
  · intro e
    have hb2 := hJ.cl p hpm a b ha1 hb hn e.symm
    have := joined_apart hp hq (hasZ_iff.2 hb2) (hasZ_iff.2 hb1)
    omega
end Go.Proofs.YteklfeeamjgplaaGreatDoor
