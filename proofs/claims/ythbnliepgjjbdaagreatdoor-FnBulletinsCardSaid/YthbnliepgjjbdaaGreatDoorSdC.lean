/- Bulletins: plain facts about sentences' texts, for the laws. -/
import Derived.Test.YthbnliepgjjbdaaGreatDoorSdB
import Derived.Test.YthbnliepgjjbdaaGreatDoorSoA
import Derived.Test.YthbnliepgjjbdaaGreatDoorBul3
namespace Go.Proofs.YthbnliepgjjbdaaGreatDoor
open Go.ChangeShapes Go.WideShapes Go.ChangeAt Go.RowKit
set_option linter.unusedVariables false
def txtB (l : Nat) (s : Sen) : ByteArray := ⟨(s.text l).toArray⟩
theorem txtB_list (l : Nat) (s : Sen) : (txtB l s).data.toList = s.text l := rfl
theorem inB_of {l : Nat} (hl : 1 ≤ l ∧ l ≤ 4) : inB (l : Int) 1 4 = true := by unfold inB; simp; omega
theorem readV_text {l : Nat} (hl : 1 ≤ l ∧ l ≤ 4) {s : Sen} (h : s.ok = true) : readV l (txtB l s).data.toList = (s, true) := readV_some hl ⟨h, rfl⟩
theorem sentV_ok {l : Nat} (hl : 1 ≤ l ∧ l ≤ 4) {s : Sen} (h : s.ok = true) : sentV s l = (txtB l s, 0) := by
  unfold sentV
  rw [if_neg (by rw [h]; simp), if_neg (by rw [inB_of hl]; simp), Int.toNat_natCast]; rfl
theorem rsV_ok {l : Nat} (hl : 1 ≤ l ∧ l ≤ 4) {s : Sen} (h : s.ok = true) : rsV l (txtB l s) = (s, 0) := by
  rw [rsV_lang (inB_of hl), Int.toNat_natCast, readV_text hl h]; rfl
theorem trV_ok {l m : Nat} (hl : 1 ≤ l ∧ l ≤ 4) (hm : 1 ≤ m ∧ m ≤ 4) {s : Sen} (h : s.ok = true) : trV l m (txtB l s) = (txtB m s, 0) := by
  rw [trV_lang (inB_of hl) (inB_of hm), Int.toNat_natCast, Int.toNat_natCast, readV_text hl h]; rfl
theorem txtB_size {l : Nat} (hl : 1 ≤ l ∧ l ≤ 4) {s : Sen} (h : s.ok = true) : (txtB l s).size ≤ 160 := sen_text_len hl h
theorem txtB_ne {l : Nat} (hl : 1 ≤ l ∧ l ≤ 4) {s t : Sen} (hs : s.ok = true) (ht : t.ok = true) (hne : s ≠ t) : ((txtB l s).toList == (txtB l t).toList) = false := by
  rw [eqT]
  refine decide_eq_false fun e => hne ?_
  have e2 : s.text l = t.text l := by rw [← txtB_list, ← txtB_list, e]
  exact isText_uniq hl (t := s.text l) ⟨hs, rfl⟩ ⟨ht, e2.symm⟩
theorem bul_rise {ss : List Sen} (h : bulB ss = true) : ∀ (j i : Nat) (s t : Sen), i < j → ss[i]? = some s → ss[j]? = some t → s.k < t.k := by
  have hst : ∀ i, i < ss.length → stepB ss i = true := by
    unfold bulB at h
    simp only [Bool.and_eq_true] at h
    have h1 := h.1
    simp only [bulOk, List.all_eq_true, List.mem_range] at h1
    exact h1
  intro j
  induction j with
  | zero => intro i s t hij; omega
  | succ j ih =>
    intro i s t hij hs ht
    have hj1 := (List.getElem?_eq_some_iff.1 ht).1
    have hj : ss[j]? = some (ss[j]'(by omega)) := List.getElem?_eq_getElem (by omega)
    have h1 := hst (j + 1) hj1
    unfold stepB at h1
    rw [ht] at h1
    simp only [Bool.and_eq_true] at h1
    have h2 := h1.2
    simp only [hj] at h2
    have h3 : (ss[j]'(by omega)).k < t.k := by simpa using h2
    by_cases hij2 : i = j
    · subst hij2
      rw [hs] at hj
      injection hj with hj
      rw [hj]; exact h3
    · have := ih i s _ (by omega) hs hj
      omega
theorem mean_at {ss : List Sen} (h : bulB ss = true) {i : Nat} {s : Sen} (hs : ss[i]? = some s) : meanV ss s.k = (s.a, s.b, 0) := by
  have hok := (bulB_all h).1 s (List.mem_of_getElem? hs)
  have hr := isText_range (l := 1) (t := s.text 1) (s := s) ⟨hok, rfl⟩
  have hin : inB s.k 1 7 = true := by unfold inB; simp; omega
  have hn : (ss.take i).find? (fun x => x.k == s.k) = none := by
    rw [List.find?_eq_none]
    intro x hx
    obtain ⟨j, hj⟩ := List.getElem?_of_mem hx
    have hj2 : j < i := by
      have := (List.getElem?_eq_some_iff.1 hj).1
      rw [List.length_take] at this; omega
    rw [List.getElem?_take, if_pos hj2] at hj
    have := bul_rise h i j x s hj2 hj hs
    simp; omega
  have hf : ss.find? (fun x => x.k == s.k) = some s := find_at hn hs (by simp)
  unfold meanV
  rw [h, hin, hf]
theorem lang_facts : ∀ a ∈ [1, 2, 3, 4], ∀ b ∈ [1, 2, 3, 4], (langNm a).data.toList ≠ [] ∧ (((langNm a).data.toList == (langNm b).data.toList) = decide (a = b)) := by decide
theorem lang_names {a b : Nat} (ha : 1 ≤ a ∧ a ≤ 4) (hb : 1 ≤ b ∧ b ≤ 4) : ((langNm a).toList == []) = false ∧ ((langNm a).toList == (langNm b).toList) = (((a : Int)) == ((b : Int))) := by
  have h := lang_facts a (by simp; omega) b (by simp; omega)
  rw [ByteArray.toList_eq, ByteArray.toList_eq]
  refine ⟨?_, ?_⟩
  · simpa using h.1
  · rw [h.2, Bool.eq_iff_iff]; simp; omega
end Go.Proofs.YthbnliepgjjbdaaGreatDoor
