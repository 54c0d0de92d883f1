/- The general law on levels: plain facts on counts, the greatest and the longest series. -/
import Derived.Test.YtbienjiinokhoaaLev4
namespace Go.Proofs.Ytbienjiinokhoaa
open Go.ChangeShapes Go.WideShapes Go.ChangeAt Go.RowKit
set_option linter.unusedVariables false

theorem best_exists (l : List Int) (h : l ≠ []) : ∃ b, BestAt l b := by
  suffices ∀ r : List Int, r ≠ [] → ∃ b, BestAt r.reverse b by
    have := this l.reverse (by simpa using h)
    rwa [List.reverse_reverse] at this
  intro r
  induction r with
  | nil => intro h; exact absurd rfl h
  | cons a r ih =>
    intro _
    rw [List.reverse_cons]
    by_cases hr : r = []
    · subst hr; exact ⟨0, BestAt.one a⟩
    · obtain ⟨b, hb⟩ := ih hr
      by_cases ha : a ≤ maxL r.reverse
      · exact ⟨b, hb.keep ha⟩
      · exact ⟨_, hb.next (by omega)⟩

theorem BestAt.facts {l : List Int} {b : Nat} (h : BestAt l b) {k : Nat} {z : Int} (hz : l[k]? = some z) : z ≤ maxL l ∧ (k = b → z = maxL l) ∧ (k < b → z ≠ maxL l) := by
  refine ⟨maxL_ge l z (List.mem_of_getElem? hz), fun e => ?_, fun hk e => ?_⟩
  · subst e; rw [h.1] at hz; injection hz with hz; exact hz.symm
  · have h2 := h.2
    unfold worstAt at h2
    have h3 : idxOf (fun z => maxL l == z) l ≤ k := by
      have e1 := drop_cons_get hz
      have e2 : idxOf (fun z => maxL l == z) (l.take k ++ z :: l.drop (k + 1)) ≤ k := by
        unfold idxOf
        suffices ∀ (r : List Int) (j : Nat), idxFrom (fun y => maxL l == y) j (r ++ z :: l.drop (k + 1)) ≤ j + r.length by
          have := this (l.take k) 0
          have hl := List.length_take_le k l
          omega
        intro r
        induction r with
        | nil => intro j; simp [idxFrom, e]
        | cons a r ih =>
          intro j
          simp only [List.cons_append, idxFrom, List.length_cons]
          split
          · omega
          · have := ih (j + 1); omega
      rwa [← e1] at e2
    omega

/-- what holds of the state of the longest series behind some levels -/
structure LHInv (level : Int) (l : List Int) (s : LH) : Prop where
  i : s.i = l.length
  b0 : 0 ≤ s.best
  m0 : 0 ≤ s.most
  n0 : 0 ≤ s.now
  nm : s.now ≤ s.most
  ni : s.now ≤ s.i
  bm : s.best + s.most ≤ s.i
  win : ∀ (j : Nat) (z : Int), l[j]? = some z → s.best ≤ j → (j : Int) < s.best + s.most → level ≤ z
  cur : ∀ (j : Nat) (z : Int), l[j]? = some z → s.i - s.now ≤ j → level ≤ z
  any : 0 < s.most ↔ l.any (fun z => decide (level ≤ z)) = true

theorem lh_step {level : Int} {l : List Int} {s : LH} (h : LHInv level l s) (z : Int) : LHInv level (l ++ [z]) (lhStep level s z) := by
  have hi := h.i; have hb0 := h.b0; have hm0 := h.m0; have hn0 := h.n0; have hnm := h.nm; have hni := h.ni; have hbm := h.bm
  have hany := h.any
  have hget : ∀ (j : Nat) (y : Int), (l ++ [z])[j]? = some y → (l[j]? = some y ∧ j < l.length) ∨ (j = l.length ∧ y = z) := by
    intro j y hy
    by_cases hj : j < l.length
    · rw [List.getElem?_append_left hj] at hy; exact .inl ⟨hy, hj⟩
    · rw [List.getElem?_append_right (by omega)] at hy
      have : j - l.length = 0 := by
        have := (List.getElem?_eq_some_iff.1 hy).1
        simp at this; omega
      rw [this] at hy; simp at hy; exact .inr ⟨by omega, hy.symm⟩
  unfold lhStep
  by_cases h1 : z < level
  · rw [if_pos h1]
    refine ⟨by simp; omega, hb0, hm0, by simp, hm0, by simp; omega, by simp; omega, ?_, ?_, ?_⟩
    · intro j y hy h2 h3
      rcases hget j y hy with ⟨hy, _⟩ | ⟨rfl, rfl⟩
      · exact h.win j y hy h2 h3
      · simp at h3; omega
    · intro j y hy h2
      rcases hget j y hy with ⟨hy, hj⟩ | ⟨rfl, rfl⟩
      · simp at h2; omega
      · simp at h2; omega
    · simp only [List.any_append, List.any_cons, List.any_nil, Bool.or_false]
      rw [hany, decide_eq_false (by omega), Bool.or_false]
  · rw [if_neg h1]
    have htrue : ((l ++ [z]).any fun z => decide (level ≤ z)) = true := by simp; right; omega
    have hcur : ∀ (j : Nat) (y : Int), (l ++ [z])[j]? = some y → s.i + 1 - (s.now + 1) ≤ j → level ≤ y := by
      intro j y hy h2
      rcases hget j y hy with ⟨hy, _⟩ | ⟨rfl, rfl⟩
      · exact h.cur j y hy (by omega)
      · omega
    by_cases h2 : s.most < s.now + 1
    · rw [if_pos h2]
      refine ⟨by simp <;> omega, by simp <;> omega, by simp <;> omega, by simp <;> omega, by simp, by simp <;> omega, by simp <;> omega, ?_, hcur, ?_⟩
      · intro j y hy h3 h4
        exact hcur j y hy (by simpa using h3)
      · rw [htrue]; simp; omega
    · rw [if_neg h2]
      refine ⟨by simp; omega, hb0, hm0, by simp; omega, by simp; omega, by simp; omega, by simp; omega, ?_, hcur, ?_⟩
      · intro j y hy h3 h4
        rcases hget j y hy with ⟨hy, _⟩ | ⟨rfl, rfl⟩
        · exact h.win j y hy h3 h4
        · simp at h4; omega
      · rw [htrue]; simp; omega
theorem lh_inv (level : Int) (l : List Int) : LHInv level l (lhFold level l) := by
  suffices ∀ r : List Int, LHInv level r.reverse (lhFold level r.reverse) by
    have := this l.reverse
    rwa [List.reverse_reverse] at this
  intro r
  induction r with
  | nil => exact ⟨rfl, by simp [lhFold], by simp [lhFold], by simp [lhFold], by simp [lhFold], by simp [lhFold], by simp [lhFold], by simp, by simp, by simp [lhFold]⟩
  | cons a r ih => rw [List.reverse_cons, lhFold_snoc]; exact lh_step ih a
theorem lh_most_mono (level : Int) (r : List Int) (s : LH) : s.most ≤ (r.foldl (lhStep level) s).most := by
  induction r generalizing s with
  | nil => simp
  | cons a r ih =>
    refine Int.le_trans ?_ (ih (lhStep level s a))
    unfold lhStep
    split
    · simp
    · split <;> simp
      omega
theorem lh_now_le (level : Int) (zs : List Int) (k : Nat) : (lhFold level (zs.take k)).now ≤ (lhFold level zs).most := by
  have h1 := (lh_inv level (zs.take k)).nm
  have h2 := lh_most_mono level (zs.drop k) (lhFold level (zs.take k))
  have h3 : (zs.drop k).foldl (lhStep level) (lhFold level (zs.take k)) = lhFold level zs := by
    unfold lhFold
    rw [← List.foldl_append, List.take_append_drop]
  rw [h3] at h2
  omega

def anyHigh (level : Int) (zs : List Int) : Bool := zs.any fun z => decide (level ≤ z)
theorem anyHigh_snoc (level z : Int) (l : List Int) : anyHigh level (l ++ [z]) = (anyHigh level l || decide (level ≤ z)) := by simp [anyHigh]

/-- all that the law needs of the three results -/
theorem levels_facts (level : Int) (zs : List Int) (hl : inB level 1 5 = true) (hz : levelsCodeV zs = 0) :
    ∃ worst at_ wc first many c : Int, worstV zs = (worst, at_, wc) ∧ longV level zs = (first, many, c) ∧
      ((wc = 0 ∧ 0 < zs.length ∧ 0 ≤ at_ ∧ at_ < zs.length) ∨ (wc = 3 ∧ zs.length = 0)) ∧
      ((c = 0 ∧ anyHigh level zs = true ∧ 1 ≤ many ∧ 0 ≤ first ∧ first + many ≤ zs.length) ∨ (c = 3 ∧ anyHigh level zs = false)) ∧
      (∀ (k : Nat) (z : Int), zs[k]? = some z → z ≤ worst ∧ ((k : Int) = at_ → z = worst) ∧ ((k : Int) < at_ → z ≠ worst) ∧
        (c = 0 → (lhFold level (zs.take (k + 1))).now ≤ many ∧ (first ≤ k → (k : Int) < first + many → level ≤ z))) := by
  have hi := lh_inv level zs
  have hlong : ∃ first many c : Int, longV level zs = (first, many, c) ∧
      ((c = 0 ∧ anyHigh level zs = true ∧ 1 ≤ many ∧ 0 ≤ first ∧ first + many ≤ zs.length) ∨ (c = 3 ∧ anyHigh level zs = false)) ∧
      (∀ (k : Nat) (z : Int), zs[k]? = some z → c = 0 → (lhFold level (zs.take (k + 1))).now ≤ many ∧ (first ≤ k → (k : Int) < first + many → level ≤ z)) := by
    by_cases hm : (lhFold level zs).most = 0
    · refine ⟨0, 0, 3, by simp [longV, hl, hz, hm], .inr ⟨rfl, ?_⟩, fun k z _ h => by omega⟩
      have := hi.any
      unfold anyHigh
      cases hb : zs.any fun z => decide (level ≤ z)
      · rfl
      · rw [hb] at this; have := this.2 rfl; omega
    · refine ⟨_, _, 0, by simp [longV, hl, hz, hm], .inl ⟨rfl, ?_, ?_, hi.b0, ?_⟩, fun k z hk _ => ⟨lh_now_le level zs (k + 1), fun h1 h2 => hi.win k z hk h1 h2⟩⟩
      · exact hi.any.1 (by have := hi.m0; omega)
      · have := hi.m0; omega
      · have := hi.bm; have := hi.i; omega
  obtain ⟨first, many, c, e2, hc, hr⟩ := hlong
  by_cases h0 : zs = []
  · exact ⟨0, 0, 3, first, many, c, by rw [worstV, if_pos hz, if_pos h0], e2, .inr ⟨rfl, by rw [h0]; rfl⟩, hc, fun k z hk => by subst h0; simp at hk⟩
  · obtain ⟨b, hb⟩ := best_exists zs h0
    have hbl := (List.getElem?_eq_some_iff.1 hb.1).1
    refine ⟨maxL zs, worstAt zs, 0, first, many, c, by simp [worstV, hz, h0], e2, .inl ⟨rfl, by omega, by rw [hb.2]; omega, by rw [hb.2]; omega⟩, hc, fun k z hk => ?_⟩
    have hf := hb.facts hk
    rw [hb.2]
    exact ⟨hf.1, fun h => hf.2.1 (by omega), fun h => hf.2.2 (by omega), hr k z hk⟩

/-- how many of each level are left behind the first k -/
def lefts (zs : List Int) (k : Nat) : List Int := [(cnt 1 zs : Int) - cnt 1 (zs.take k), (cnt 2 zs : Int) - cnt 2 (zs.take k), (cnt 3 zs : Int) - cnt 3 (zs.take k), (cnt 4 zs : Int) - cnt 4 (zs.take k), (cnt 5 zs : Int) - cnt 5 (zs.take k)]
theorem lefts_zero (zs : List Int) : lefts zs 0 = cnts zs := by simp [lefts, cnts, cnt]
theorem lefts_all (zs : List Int) (j : Nat) (hj : j < 5) : (lefts zs zs.length)[j]? = some 0 := by
  have h5 : j = 0 ∨ j = 1 ∨ j = 2 ∨ j = 3 ∨ j = 4 := by omega
  rcases h5 with rfl | rfl | rfl | rfl | rfl <;> simp [lefts]
theorem lefts_get {zs : List Int} {k : Nat} {z : Int} (h1 : 1 ≤ z) (h2 : z ≤ 5) : (lefts zs k)[(z - 1).toNat]? = some ((cnt z zs : Int) - cnt z (zs.take k)) := by
  have h5 : z = 1 ∨ z = 2 ∨ z = 3 ∨ z = 4 ∨ z = 5 := by omega
  rcases h5 with rfl | rfl | rfl | rfl | rfl <;> simp [lefts]
theorem lefts_set {zs : List Int} {k : Nat} {z : Int} (hz : zs[k]? = some z) (h1 : 1 ≤ z) (h2 : z ≤ 5) :
    (lefts zs k).set (z - 1).toNat ((cnt z zs : Int) - cnt z (zs.take k) - 1) = lefts zs (k + 1) := by
  have h5 : z = 1 ∨ z = 2 ∨ z = 3 ∨ z = 4 ∨ z = 5 := by omega
  unfold lefts
  rw [take_snoc' hz]
  rcases h5 with rfl | rfl | rfl | rfl | rfl <;> simp [cnt_snoc] <;> omega
theorem ints_set (l : List Int) (j : Nat) (z : Int) : (ints l).set j (.int .i64 z) = ints (l.set j z) := by simp [ints, List.map_set]
end Go.Proofs.Ytbienjiinokhoaa
