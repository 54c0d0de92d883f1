/- Texts of regions (plain): what a valid list's names are; the text of a list. -/
import Derived.Test.YteklfeeamjgplaaDoorRgP
import Derived.Test.YteklfeeamjgplaaDoorNmA
namespace Go.Proofs.YteklfeeamjgplaaDoor
open Go.ChangeShapes Go.WideShapes Go.ChangeAt Go.RowKit
set_option linter.unusedVariables false
theorem eqS_eq {a b : ByteArray} (h : eqS a b = true) : a = b := by
  unfold eqS at h
  rw [ByteArray.toList_eq, ByteArray.toList_eq, beq_iff_eq] at h
  obtain ⟨⟨a⟩⟩ := a
  obtain ⟨⟨b⟩⟩ := b
  simp at h
  rw [h]
theorem byteAt_list {s : ByteArray} {c : UInt8} (h : c ∈ s.data.toList) : ∃ k, k < s.size ∧ byteAt s k = (c.toNat : Nat) := by
  obtain ⟨k, hk⟩ := List.getElem?_of_mem h
  have hlt := (List.getElem?_eq_some_iff.1 hk).1
  rw [size_l] at hlt
  refine ⟨k, hlt, ?_⟩
  rw [← byteAt_eq hlt]
  have h2 : s.data.toList[k]? = some (s[k]'hlt) := by rw [Array.getElem?_toList, Array.getElem?_eq_getElem hlt]; rfl
  rw [hk] at h2
  injection h2 with h2
  rw [h2]
theorem name_facts {s : ByteArray} (h : nameV s = true) : 1 ≤ s.size ∧ s.size ≤ 10 ∧ (32 : UInt8) ∉ s.data.toList ∧ (47 : UInt8) ∉ s.data.toList := by
  unfold nameV at h
  simp only [Bool.and_eq_true, decide_eq_true_eq] at h
  obtain ⟨⟨h1, _⟩, h3⟩ := h
  have hb : ∀ c ∈ s.data.toList, okU (c.toNat : Nat) = true := fun c hc => by
    obtain ⟨k, hk, e⟩ := byteAt_list hc
    rw [← e]
    exact List.all_eq_true.1 h3 k (List.mem_range.2 hk)
  refine ⟨h1.1, h1.2, fun hc => ?_, fun hc => ?_⟩
  · have := hb _ hc; revert this; decide
  · have := hb _ hc; revert this; decide
theorem valid_facts {rs : List Rg} (h : validR rs = true) : rs.length ≤ 8 ∧ ∀ x ∈ rs, nameV x.id = true ∧ (1 ≤ x.lv ∧ x.lv ≤ 5) ∧ ∀ m ∈ x.near, nameV m = true := by
  unfold validR at h
  simp only [Bool.and_eq_true, decide_eq_true_eq] at h
  obtain ⟨h1, h2⟩ := h
  have hid : ∀ y ∈ rs, nameV y.id = true := fun y hy => by
    obtain ⟨i, hi⟩ := List.getElem?_of_mem hy
    have h3 := okTo_at h2 (List.getElem?_eq_some_iff.1 hi).1
    rw [okAt_some hi] at h3
    simp only [Bool.and_eq_true] at h3
    exact h3.1.1.1
  refine ⟨h1, fun x hx => ?_⟩
  obtain ⟨i, hi⟩ := List.getElem?_of_mem hx
  have h3 := okTo_at h2 (List.getElem?_eq_some_iff.1 hi).1
  rw [okAt_some hi] at h3
  simp only [Bool.and_eq_true] at h3
  obtain ⟨⟨⟨_, h4⟩, _⟩, h5⟩ := h3
  refine ⟨hid x hx, by unfold inB at h4; simpa using h4, fun m hm => ?_⟩
  obtain ⟨k, hk⟩ := List.getElem?_of_mem hm
  have h6 := List.all_eq_true.1 h5 k (List.mem_range.2 (List.getElem?_eq_some_iff.1 hk).1)
  unfold okIn at h6
  simp only [Bool.and_eq_true] at h6
  have h7 := h6.2
  rw [sAt_get hk] at h7
  unfold isNearR at h7
  split at h7
  · cases h7
  · rename_i h8
    obtain ⟨y, g1, g2, _⟩ := idxOf_spec (findP m) rs (by unfold findR at h8; omega)
    have h9 := eqS_eq g2
    rw [← h9]
    exact hid y (List.mem_of_getElem? g1)
/-- the words of a region, its text, the text of a list -/
def decZ (z : Int) : ByteArray := ⟨(Lib.itoa z).toArray⟩
def wordsD (d : Dat) : List ByteArray := d.1 :: decZ d.2.1 :: d.2.2
def regT (d : Dat) : ByteArray := ⟨(Lib.join (tlZ (wordsD d)) [32]).toArray⟩
def rgT (ds : List Dat) : ByteArray := ⟨(Lib.join (tlZ (ds.map regT)) [47]).toArray⟩
def rtV (ds : List Dat) : ByteArray := if validD ds = true then rgT ds else ⟨#[]⟩
theorem decZ_one {z : Int} (h : 1 ≤ z ∧ z ≤ 5) : (decZ z).size = 1 ∧ (Lib.itoa z).length = 1 ∧ Lib.itoa z = Lib.decDigits z.toNat := by
  have e : Lib.itoa z = Lib.decDigits z.toNat := by unfold Lib.itoa; rw [if_neg (by omega)]
  have e2 : Lib.decDigits z.toNat = [UInt8.ofNat (48 + z.toNat)] := Lib.decDigits_one (by omega)
  have h1 : (Lib.itoa z).length = 1 := by rw [e, e2]; rfl
  exact ⟨h1, h1, e⟩
theorem join_bound (c : UInt8) (N : Nat) : ∀ P : List (List UInt8), (∀ p ∈ P, p.length ≤ N) → (Lib.join P [c]).length ≤ (N + 1) * P.length
  | [], _ => by simp [Lib.join]
  | [x], h => by
    rw [Lib.join_one]
    have := h x (by simp)
    simp; omega
  | x :: y :: r, h => by
    have ih := join_bound c N (y :: r) (fun p hp => h p (List.mem_cons_of_mem _ hp))
    have h1 := h x (by simp)
    rw [join_two, List.length_append, List.length_cons]
    have e : (N + 1) * (x :: y :: r).length = (N + 1) + (N + 1) * (y :: r).length := by simp only [List.length_cons]; rw [Nat.mul_add, Nat.mul_one, Nat.add_comm]
    rw [e]; omega
theorem regT_size {x : Rg} (hn : nameV x.id = true) (hl : 1 ≤ x.lv ∧ x.lv ≤ 5) (hm : ∀ m ∈ x.near, nameV m = true) : (regT x.dat).size ≤ 11 * (x.near.length + 2) := by
  show (Lib.join (tlZ (wordsD x.dat)) [32]).length ≤ _
  have h := join_bound 32 10 (tlZ (wordsD x.dat)) (fun p hp => by
    unfold tlZ at hp
    obtain ⟨b, hb, rfl⟩ := List.mem_map.1 hp
    rw [size_l]
    unfold wordsD Rg.dat at hb
    rcases List.mem_cons.1 hb with rfl | hb
    · exact (name_facts hn).2.1
    · rcases List.mem_cons.1 hb with rfl | hb
      · have := (decZ_one hl).1; simp only; omega
      · exact (name_facts (hm b hb)).2.1)
  have hl2 : (tlZ (wordsD x.dat)).length = x.near.length + 2 := by simp [tlZ, wordsD, Rg.dat]
  rw [hl2] at h
  exact h
end Go.Proofs.YteklfeeamjgplaaDoor
