/- Bulletins are read back (plain); what a composed bulletin tells (plain). -/
import Derived.Test.YthbnliepgjjbdaaGreatDoorSdC
import Derived.Test.YthbnliepgjjbdaaGreatDoorSnW
import Derived.Test.YthbnliepgjjbdaaGreatDoorComp2
namespace Go.Proofs.YthbnliepgjjbdaaGreatDoor
open Go.ChangeShapes Go.WideShapes Go.ChangeAt Go.RowKit
set_option linter.unusedVariables false
theorem pat_slash {k l : Nat} (hk : 1 ≤ k ∧ k ≤ 7) (hl : 1 ≤ l ∧ l ≤ 4) : (47 : UInt8) ∉ (partT k l).1 ∧ (47 : UInt8) ∉ (partT k l).2.1 ∧ (47 : UInt8) ∉ (partT k l).2.2 ∧ (∀ x ∈ wordT k l, (47 : UInt8) ∉ x) ∧ 2 ≤ (partT k l).1.length := by
  have hk7 : k = 1 ∨ k = 2 ∨ k = 3 ∨ k = 4 ∨ k = 5 ∨ k = 6 ∨ k = 7 := by omega
  have hl4 : l = 1 ∨ l = 2 ∨ l = 3 ∨ l = 4 := by omega
  rcases hk7 with rfl | rfl | rfl | rfl | rfl | rfl | rfl <;> rcases hl4 with rfl | rfl | rfl | rfl <;> decide
theorem dg_slash : ∀ f m : Nat, m < 10 ^ f → (47 : UInt8) ∉ dg m
  | 0, m, h => by rw [show m = 0 by omega]; simp [dg]
  | f + 1, m, h => by
    by_cases h0 : m = 0
    · subst h0; simp [dg]
    · have ih := dg_slash f (m / 10) (by rw [Nat.pow_succ] at h; omega)
      rw [dg_step (by omega)]
      intro hq
      rcases List.mem_append.1 hq with hq | hq
      · exact ih hq
      · have e := congrArg UInt8.toNat (List.mem_singleton.1 hq)
        rw [digit_val] at e
        have : (47 : UInt8).toNat = 47 := rfl
        omega
theorem num_slash {k l : Nat} (hk : 1 ≤ k ∧ k ≤ 7) (hl : 1 ≤ l ∧ l ≤ 4) (n : Int) : (47 : UInt8) ∉ numT k l n := by
  obtain ⟨_, _, _, hw, _⟩ := pat_slash hk hl
  have hg : ∀ j : Nat, (47 : UInt8) ∉ ((wordT k l)[j]?).getD [] := fun j => by
    cases hq : (wordT k l)[j]? with
    | none => simp
    | some x => exact hw x (List.mem_of_getElem? hq)
  unfold numT
  split
  · exact hg _
  · split
    · exact hg _
    · by_cases h0 : n.toNat = 0
      · rw [h0, Lib.decDigits]; decide
      · have e : Lib.decDigits n.toNat = dg n.toNat := by rw [dg, if_neg h0]
        rw [e]; exact dg_slash _ _ (lt_pow _)
theorem text_slash {l : Nat} (hl : 1 ≤ l ∧ l ≤ 4) {s : Sen} (h : s.ok = true) : (47 : UInt8) ∉ s.text l ∧ 2 ≤ (s.text l).length := by
  obtain ⟨k, a, b⟩ := s
  obtain ⟨kn, rfl, q1, q2, ha, hb, _⟩ := okS_num h
  obtain ⟨h1, h2, h3, _, h5⟩ := pat_slash ⟨q1, q2⟩ hl
  have na := num_slash ⟨q1, q2⟩ hl a
  have nb := num_slash (k := 4) (by omega) hl b
  have h23 := pat_slash (k := 4) (by omega) hl
  have e : (⟨kn, a, b⟩ : Sen).text l = textT kn l a b := rfl
  rw [e, text_split]
  refine ⟨?_, by rw [List.length_append]; omega⟩
  intro hq
  rcases List.mem_append.1 hq with hq | hq
  · exact h1 hq
  · rcases List.mem_append.1 hq with hq | hq
    · exact na hq
    · unfold restV at hq
      split at hq
      · rcases List.mem_append.1 hq with hq | hq
        · exact h23.2.1 hq
        · rcases List.mem_append.1 hq with hq | hq
          · exact nb hq
          · exact h23.2.2.1 hq
      · exact h2 hq
theorem split_join {l : Nat} (hl : 1 ≤ l ∧ l ≤ 4) {ss : List Sen} (hall : ∀ s ∈ ss, s.ok = true) (hne : ss ≠ []) : splitS ⟨(joinS l ss).toArray⟩ 47 = ss.map (txtB l) := by
  obtain ⟨h1, h2, h3⟩ := splitS_ok ⟨(joinS l ss).toArray⟩ 47
  have htl : tl (ss.map (txtB l)) = ss.map (Sen.text l) := by unfold tl; rw [List.map_map]; rfl
  refine tl_inj (join_uniq h1 (by rw [htl]; simpa using hne) h2 ?_ ?_)
  · rw [htl]
    intro p hp
    obtain ⟨s, hs, rfl⟩ := List.mem_map.1 hp
    exact (text_slash hl (hall s hs)).1
  · rw [h3, htl]; rfl
theorem rbV_text {l : Nat} (hl : 1 ≤ l ∧ l ≤ 4) {ss : List Sen} (hb : bulB ss = true) : rbV l ⟨(bulT l ss).toArray⟩ = (ss, 0) := by
  obtain ⟨hall, _⟩ := bulB_all hb
  unfold bulT
  by_cases h0 : ss = []
  · rw [if_pos h0, rbV_dash (inB_of hl) rfl, h0]
  · rw [if_neg h0]
    have hsp := split_join hl hall h0
    have hnd : (⟨(joinS l ss).toArray⟩ : ByteArray) ≠ ⟨#[45]⟩ := by
      intro e
      have e2 := congrArg (fun b : ByteArray => b.data.toList.length) e
      simp at e2
      cases hss : ss with
      | nil => exact h0 hss
      | cons s r =>
        have h1 := (text_slash hl (hall s (by rw [hss]; exact List.mem_cons_self ..))).2
        have h2 := join_mem_le 47 (ss.map (Sen.text l)) (s.text l) (by rw [hss]; simp)
        have h3 : (joinS l ss).length = (Lib.join (ss.map (Sen.text l)) [47]).length := rfl
        omega
    have hrd : ∀ s ∈ ss, rdP l (txtB l s) = (s, true) := fun s hs => readV_text hl (hall s hs)
    rw [rbV_good (inB_of hl) hnd (by
      rw [hsp, Int.toNat_natCast]
      intro p hp
      obtain ⟨s, hs, rfl⟩ := List.mem_map.1 hp
      rw [hrd s hs]), Int.toNat_natCast]
    have hL : rbL l ⟨(joinS l ss).toArray⟩ = ss := by
      unfold rbL
      rw [hsp, List.map_map]
      conv => rhs; rw [← List.map_id ss]
      refine List.map_congr_left fun s hs => ?_
      show (rdP l (txtB l s)).1 = s
      rw [hrd s hs]
    rw [hL, hb, if_pos rfl]
theorem bulT_size {l : Nat} (hl : 1 ≤ l ∧ l ≤ 4) {ss : List Sen} (hb : bulB ss = true) : (⟨(bulT l ss).toArray⟩ : ByteArray).size ≤ 1048576 := by
  obtain ⟨hall, h7⟩ := bulB_all hb
  show (bulT l ss).length ≤ 1048576
  unfold bulT
  split
  · simp
  · have := joinS_len hl ss hall; omega
theorem btV_ok {l : Nat} (hl : 1 ≤ l ∧ l ≤ 4) {ss : List Sen} (hb : bulB ss = true) : btV ss l = (⟨(bulT l ss).toArray⟩, 0) := by
  unfold btV
  rw [if_neg (by rw [hb]; simp), if_neg (by rw [inB_of hl]; simp), Int.toNat_natCast]
theorem smV_ok {l m : Nat} (hl : 1 ≤ l ∧ l ≤ 4) (hm : 1 ≤ m ∧ m ≤ 4) {ss ts : List Sen} (hs : bulB ss = true) (ht : bulB ts = true) : smV ⟨(bulT l ss).toArray⟩ l ⟨(bulT m ts).toArray⟩ m = decide (ss = ts) := by
  unfold smV
  rw [rbV_text hl hs, rbV_text hm ht]
  simp
/-! ### composed bulletins -/
theorem cmpV_in (a b : Int) : -1 ≤ cmpV a b ∧ cmpV a b ≤ 1 := by
  unfold cmpV
  repeat' split
  all_goals omega
structure CompFacts (a b c d e x : Int) (M : List Sen) : Prop where
  ok : compOk a b c d e = true
  eq : compV a b c d e = M
  bul : bulB M = true
  m1 : meanV M 1 = (b, 0, 0)
  m2 : meanV M 2 = (x, 0, 0)
  m3 : meanV M 3 = (c, 0, 0)
  m5 : meanV M 5 = (d, 0, if d = 0 then 3 else 0)
  m6 : ∃ z, meanV M 6 = (z, 0, if e = 0 then 3 else 0)
  ch : changeOfV a b = (x, 0)
theorem comp_facts {a b c d e : Int} (ha : 1 ≤ a ∧ a ≤ 5) (hb : 1 ≤ b ∧ b ≤ 5) (hc : 0 ≤ c ∧ c ≤ 5000) (hd : 0 ≤ d ∧ d ≤ 500) (he : 0 ≤ e ∧ e ≤ 500) : ∃ M, CompFacts a b c d e (cmpV b a) M := by
  have hok : compOk a b c d e = true := by unfold compOk inB; simp; omega
  have hm := cmpV_in b a
  have hch : changeOfV a b = (cmpV b a, 0) := by
    unfold changeOfV inB
    simp; omega
  have hv : compV a b c d e = [⟨1, b, 0⟩, ⟨2, cmpV b a, 0⟩, ⟨3, c, 0⟩] ++ (if d = 0 then [] else [⟨5, d, 0⟩]) ++ (if e = 0 then [] else [⟨6, e, 0⟩]) := by unfold compV; rw [if_pos hok]
  have k1 : (⟨1, b, 0⟩ : Sen).ok = true := by unfold Sen.ok okS inB; simp; omega
  have k2 : (⟨2, cmpV b a, 0⟩ : Sen).ok = true := by unfold Sen.ok okS inB; simp; omega
  have k3 : (⟨3, c, 0⟩ : Sen).ok = true := by unfold Sen.ok okS inB; simp; omega
  generalize cmpV b a = x at *
  have b3 : bulOk [⟨1, b, 0⟩, ⟨2, x, 0⟩, ⟨3, c, 0⟩] = true := by
    have b1 : bulOk ([] ++ [(⟨1, b, 0⟩ : Sen)]) = true := bulOk_snoc rfl k1 (by simp)
    have b2 : bulOk ([⟨1, b, 0⟩] ++ [(⟨2, x, 0⟩ : Sen)]) = true := bulOk_snoc b1 k2 (by simp)
    exact bulOk_snoc b2 k3 (by simp)
  have fin : ∀ M : List Sen, compV a b c d e = M → bulOk M = true → M.length ≤ 7 → M[0]? = some ⟨1, b, 0⟩ → M[1]? = some ⟨2, x, 0⟩ → M[2]? = some ⟨3, c, 0⟩ → (meanV M 5 = (d, 0, if d = 0 then 3 else 0)) → (∃ z, meanV M 6 = (z, 0, if e = 0 then 3 else 0)) → ∃ M, CompFacts a b c d e x M := by
    intro M e1 e2 e3 g1 g2 g3 e5 e6
    have hb : bulB M = true := by unfold bulB; rw [e2]; simpa using e3
    exact ⟨M, ⟨hok, e1, hb, mean_at hb g1, mean_at hb g2, mean_at hb g3, e5, e6, hch⟩⟩
  by_cases hd0 : d = 0
  · subst hd0
    by_cases he0 : e = 0
    · subst he0
      rw [if_pos rfl, if_pos rfl] at hv
      have hbb : bulB [⟨1, b, 0⟩, ⟨2, x, 0⟩, ⟨3, c, 0⟩] = true := by unfold bulB; rw [b3]; rfl
      refine fin _ hv b3 (by simp) rfl rfl rfl ?_ ⟨0, ?_⟩
      · unfold meanV; rw [show ([⟨1, b, 0⟩, ⟨2, x, 0⟩, ⟨3, c, 0⟩] ++ [] ++ [] : List Sen) = [⟨1, b, 0⟩, ⟨2, x, 0⟩, ⟨3, c, 0⟩] from rfl, hbb]; rfl
      · unfold meanV; rw [show ([⟨1, b, 0⟩, ⟨2, x, 0⟩, ⟨3, c, 0⟩] ++ [] ++ [] : List Sen) = [⟨1, b, 0⟩, ⟨2, x, 0⟩, ⟨3, c, 0⟩] from rfl, hbb]; rfl
    · rw [if_pos rfl, if_neg he0] at hv
      have k6 : (⟨6, e, 0⟩ : Sen).ok = true := by unfold Sen.ok okS inB; simp; omega
      have b6 : bulOk ([⟨1, b, 0⟩, ⟨2, x, 0⟩, ⟨3, c, 0⟩] ++ [(⟨6, e, 0⟩ : Sen)]) = true := bulOk_snoc b3 k6 (by simp)
      have hbb : bulB ([⟨1, b, 0⟩, ⟨2, x, 0⟩, ⟨3, c, 0⟩] ++ [] ++ [(⟨6, e, 0⟩ : Sen)]) = true := by unfold bulB; rw [List.append_nil, b6]; rfl
      refine fin _ hv (by rw [List.append_nil]; exact b6) (by simp) rfl rfl rfl ?_ ⟨e, ?_⟩
      · unfold meanV; rw [hbb]; rfl
      · rw [if_neg he0]; exact mean_at (i := 3) hbb rfl
  · have k5 : (⟨5, d, 0⟩ : Sen).ok = true := by unfold Sen.ok okS inB; simp; omega
    have b5 : bulOk ([⟨1, b, 0⟩, ⟨2, x, 0⟩, ⟨3, c, 0⟩] ++ [(⟨5, d, 0⟩ : Sen)]) = true := bulOk_snoc b3 k5 (by simp)
    by_cases he0 : e = 0
    · subst he0
      rw [if_neg hd0, if_pos rfl] at hv
      have hbb : bulB ([⟨1, b, 0⟩, ⟨2, x, 0⟩, ⟨3, c, 0⟩] ++ [(⟨5, d, 0⟩ : Sen)] ++ []) = true := by unfold bulB; rw [List.append_nil, b5]; rfl
      refine fin _ hv (by rw [List.append_nil]; exact b5) (by simp) rfl rfl rfl ?_ ⟨0, ?_⟩
      · rw [if_neg hd0]; exact mean_at (i := 3) hbb rfl
      · unfold meanV; rw [hbb]; rfl
    · rw [if_neg hd0, if_neg he0] at hv
      have k6 : (⟨6, e, 0⟩ : Sen).ok = true := by unfold Sen.ok okS inB; simp; omega
      have b6 : bulOk ([⟨1, b, 0⟩, ⟨2, x, 0⟩, ⟨3, c, 0⟩] ++ [(⟨5, d, 0⟩ : Sen)] ++ [(⟨6, e, 0⟩ : Sen)]) = true := bulOk_snoc b5 k6 (by simp)
      have hbb : bulB ([⟨1, b, 0⟩, ⟨2, x, 0⟩, ⟨3, c, 0⟩] ++ [(⟨5, d, 0⟩ : Sen)] ++ [(⟨6, e, 0⟩ : Sen)]) = true := by unfold bulB; rw [b6]; rfl
      refine fin _ hv b6 (by simp) rfl rfl rfl ?_ ⟨e, ?_⟩
      · rw [if_neg hd0]; exact mean_at (i := 3) hbb rfl
      · rw [if_neg he0]; exact mean_at (i := 4) hbb rfl
end Go.Proofs.YthbnliepgjjbdaaGreatDoor
