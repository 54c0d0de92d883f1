/- Masses that run: what the law on routing says, in plain mathematics. -/
import Derived.Test.YtaoomildopmclaaAvA
import Derived.Test.YtaoomildopmclaaRnN
namespace Go.Proofs.Ytaoomildopmclaa
open Go.ChangeShapes Go.WideShapes Go.ChangeAt Go.RowKit
set_option linter.unusedVariables false
/-! ### the cells next to a cell -/
def indF (x y : Int) : Int := if y = x then 1 else 0
theorem sumF_nn (x : Int) : ∀ l : List Int, 0 ≤ sumF (indF x) l
  | [] => by simp [sumF]
  | y :: l => by
    have h1 := sumF_nn x l
    have h2 : 0 ≤ indF x y := by unfold indF; split <;> omega
    rw [sumF]; omega
theorem sumF_mem {x : Int} : ∀ {l : List Int}, 0 < sumF (indF x) l ↔ x ∈ l
  | [] => by simp [sumF]
  | y :: l => by
    have ih := sumF_mem (x := x) (l := l)
    have h1 := sumF_nn x l
    rw [sumF]
    by_cases e : y = x
    · subst e
      simp [indF]; omega
    · have h2 : indF x y = 0 := by simp [indF, e]
      rw [h2, Int.zero_add, ih, List.mem_cons]
      constructor
      · exact .inr
      · rintro (h | h)
        · exact absurd h.symm e
        · exact h
theorem nextTo_has {g : Gr} {cell : Int} {a : Nat} (ha : goB g cell a = true) : ∀ k, a < k → stpV g cell a ∈ nextTo g cell k
  | 0, h => by omega
  | k + 1, h => by
    rw [nextTo, List.mem_append]
    by_cases e : a = k
    · subst e; rw [if_pos ha]; exact .inr (by simp)
    · exact .inl (nextTo_has ha k (by omega))
theorem nearV_has {g : Gr} {cell : Int} {a : Nat} (hb : GrOk g) (ha : goB g cell a = true) (h8 : a < 8) : goV g cell a ∈ nearV g cell 8 := by
  rw [← sumF_mem, nearV_sum hb _ 8 (by omega), sumF_mem, List.mem_map]
  exact ⟨_, nextTo_has ha 8 h8, rfl⟩
theorem rnd_np {a b : Int} (ha : a ≤ 0) (hb : 0 < b) : rnd a b ≤ 0 := by
  by_cases e : a = 0
  · subst e
    unfold rnd
    rw [if_neg (by omega), show (2 * 0 + b : Int) = b by omega, Int.ediv_eq_zero_of_lt (by omega) (by omega)]
    omega
  · obtain ⟨c, rfl⟩ : ∃ c, a = -c := ⟨-a, by omega⟩
    rw [rnd_neg (by omega) hb]
    have e1 := Int.ediv_nonneg (show 0 ≤ c by omega) (show 0 ≤ b by omega)
    split <;> omega
theorem fall_lower {g : Gr} (hg : GrOk g) {c t : Int} {a : Nat} (h : 1 ≤ fallV g c t a) : hAt g t < hAt g c := by
  by_cases hd : hAt g c - hAt g t ≤ 0
  · have h1 := hg.s0
    have h2 := rnd_np (a := 1000000 * (hAt g c - hAt g t)) (b := 1414 * g.size) (by omega) (by omega)
    have h3 := rnd_np (a := 1000 * (hAt g c - hAt g t)) (b := g.size) (by omega) (by omega)
    unfold fallV at h
    split at h <;> omega
  · omega
theorem go_slope {g : Gr} (hok : g.ok = true) {k a : Nat} (hk : k < g.hs.length) (h8 : a < 8) (ha : goB g k a = true) : slopeToV g k (goV g k a) = (fallV g k (goV g k a) a, 0) := by
  have hb := Gr.ok_bd hok
  rcases goV_cases (cell := (k : Int)) (a := a) hb with ⟨h, _⟩ | ⟨_, h0, h1⟩
  · rw [h] at ha; cases ha
  · have hc : codeG g [(k : Int), goV g k a] = 0 := by
      rw [codeG_two]
      unfold askG inG inB
      simp [hok]
      omega
    rw [slopeToV, if_neg (by simp [hc]), findS_next rfl h0 (fun a' ha' => ?_) 8 h8]
    · rfl
    · rcases goV_cases (cell := (k : Int)) (a := a') hb with ⟨_, h2⟩ | ⟨h2, _, _⟩
      · omega
      · exact go_ne hb ha' h8 h2 ha
/-- something runs on from a cell -/
def runsB (g : Gr) (fr : Int) (k : Nat) (l : List Int) : Bool := l.any fun x => decide (fr ≤ (slopeToV g k x).1)
theorem runs_iff {g : Gr} (hok : g.ok = true) {fr : Int} (hf : 1 ≤ fr) {k : Nat} (hk : k < g.hs.length) : runsB g fr k (nearV g k 8) = true ↔ waysL g k fr ≠ [] := by
  have hb := Gr.ok_bd hok
  unfold runsB
  rw [List.any_eq_true]
  constructor
  · rintro ⟨x, hx, hs⟩
    obtain ⟨a, h8, ha, rfl⟩ := nearV_mem hx
    rw [go_slope hok hk h8 ha] at hs
    simp only [decide_eq_true_eq] at hs
    have hl := fall_lower hb (show 1 ≤ fallV g k (goV g k a) a by omega)
    exact List.ne_nil_of_mem (List.mem_filter.2 ⟨nextTo_has ha 8 h8, by simp [wayB, stpV, hl, hs]⟩)
  · intro h
    obtain ⟨y, hy⟩ := List.exists_mem_of_ne_nil _ h
    obtain ⟨h1, h2⟩ := List.mem_filter.1 hy
    obtain ⟨a, h8, ha, rfl⟩ := nextTo_mem h1
    refine ⟨goV g k a, nearV_has hb ha h8, ?_⟩
    rw [go_slope hok hk h8 ha]
    unfold wayB at h2
    simp only [Bool.and_eq_true, decide_eq_true_eq] at h2
    exact decide_eq_true h2.2
theorem near_in {g : Gr} (hok : g.ok = true) {k : Nat} {x : Int} (hx : x ∈ nearV g k 8) (hk : k < g.hs.length) : (slopeToV g k x).2 = 0 := by
  obtain ⟨a, h8, ha, rfl⟩ := nearV_mem hx
  rw [go_slope hok hk h8 ha]
/-! ### what settles -/
theorem routeTo_len2 (g : Gr) (fr : Int) (ms : List Int) : ∀ k, (routeTo g fr ms k).2.length = ms.length
  | 0 => by simp [routeTo]
  | k + 1 => by
    rw [routeTo_succ, stepC]
    split
    · rw [addAt_len, routeTo_len2 g fr ms k]
    · exact routeTo_len2 g fr ms k
theorem set_at (g : Gr) (fr : Int) (ms : List Int) : ∀ k, k ≤ ms.length → ∀ t, at0 (routeTo g fr ms k).2 t = if t < k ∧ waysL g t fr = [] then at0 ms t else 0
  | 0, _, t => by
    have e : at0 (List.replicate ms.length (0 : Int)) t = 0 := by
      unfold at0
      cases h : (List.replicate ms.length (0 : Int))[t]? with
      | none => rfl
      | some z =>
        have := List.mem_of_getElem? h
        rw [List.mem_replicate] at this
        rw [this.2]; rfl
    simpa [routeTo] using e
  | k + 1, h, t => by
    have ih := set_at g fr ms k (by omega)
    rw [routeTo_succ, stepC]
    by_cases hw : waysL g k fr = []
    · rw [if_pos hw]
      simp only
      rw [at0_addAt (by rw [routeTo_len2]; omega)]
      by_cases e : t = k
      · subst e
        rw [if_pos rfl, ih t, if_neg (fun q => by omega), if_pos ⟨by omega, hw⟩]; omega
      · rw [if_neg e, ih t]
        have e2 : (t < k + 1 ∧ waysL g t fr = []) ↔ (t < k ∧ waysL g t fr = []) := by constructor <;> rintro ⟨a, b⟩ <;> exact ⟨by omega, b⟩
        simp only [e2]
    · rw [if_neg hw]
      simp only
      rw [ih t]
      by_cases e : t = k
      · subst e
        rw [if_neg (fun q => by omega), if_neg (fun q => hw q.2)]
      · have e2 : (t < k + 1 ∧ waysL g t fr = []) ↔ (t < k ∧ waysL g t fr = []) := by constructor <;> rintro ⟨a, b⟩ <;> exact ⟨by omega, b⟩
        simp only [e2]
section
variable {g : Gr} {fr : Int} {ms : List Int}
theorem setV_zero (hg : GrOk g) (hn : g.hs.length = ms.length) (hf : 1 ≤ fr) (hm : Nn ms) {t : Nat} (hw : waysL g t fr ≠ []) : ∀ i, at0 (setV g fr ms i) t = 0
  | 0 => by
    unfold setV at0
    cases h : (List.replicate ms.length (0 : Int))[t]? with
    | none => rfl
    | some z =>
      have := List.mem_of_getElem? h
      rw [List.mem_replicate] at this
      rw [this.2]; rfl
  | i + 1 => by
    have ho := now_ok (fr := fr) hg hn hf hm i
    rw [setV, addK_at _ _ _ (by rw [setV_len]; omega), setV_zero hg hn hf hm hw i, set_at _ _ _ _ (by rw [ho.l1]; omega)]
    split
    · rw [if_neg (fun q => hw q.2)]; rfl
    · rfl
theorem setV_pos (hg : GrOk g) (hn : g.hs.length = ms.length) (hf : 1 ≤ fr) (hm : Nn ms) {t : Nat} : ∀ i, 0 < at0 (setV g fr ms i) t → ∃ j, j < i ∧ 0 < at0 (nowV g fr ms j) t
  | 0, h => by
    have e : at0 (setV g fr ms 0) t = 0 := by
      unfold setV at0
      cases h : (List.replicate ms.length (0 : Int))[t]? with
      | none => rfl
      | some z =>
        have := List.mem_of_getElem? h
        rw [List.mem_replicate] at this
        rw [this.2]; rfl
    omega
  | i + 1, h => by
    have ho := now_ok (fr := fr) hg hn hf hm i
    by_cases h1 : 0 < at0 (setV g fr ms i) t
    · obtain ⟨j, a, b⟩ := setV_pos hg hn hf hm i h1
      exact ⟨j, by omega, b⟩
    · by_cases h2 : 0 < at0 (nowV g fr ms i) t
      · exact ⟨i, by omega, h2⟩
      · rw [setV, addK_at _ _ _ (by rw [setV_len]; omega), set_at _ _ _ _ (by rw [ho.l1]; omega)] at h
        split at h
        · split at h <;> omega
        · omega
theorem preV_keep {t : Nat} : ∀ i, 0 ≤ at0 (preV g fr ms i) t → 0 ≤ at0 (preV g fr ms (i + 1)) t := fun i h => by
  rw [preV, markK_at _ _ _ _ (by rw [preV_len]; omega)]
  split <;> omega
theorem preV_mono {t i : Nat} (h : 0 ≤ at0 (preV g fr ms i) t) : ∀ j, i ≤ j → 0 ≤ at0 (preV g fr ms j) t
  | 0, hj => by rw [show i = 0 by omega] at h; exact h
  | j + 1, hj => by
    by_cases e : i = j + 1
    · subst e; exact h
    · exact preV_keep j (preV_mono h j (by omega))
theorem preV_hit {t i : Nat} (ht : t < ms.length) (h : 0 < at0 (nowV g fr ms i) t) : 0 ≤ at0 (preV g fr ms (i + 1)) t := by
  rw [preV, markK_at _ _ _ _ (by rw [preV_len]; omega)]
  split
  · omega
  · rename_i hc
    by_cases h2 : at0 (preV g fr ms i) t < 0
    · exact absurd ⟨ht, h, h2⟩ hc
    · omega
end
/-- the cells that are reached -/
def reachL (l : List Int) : Nat → List Int
  | 0 => []
  | k + 1 => if 0 ≤ at0 l k then reachL l k ++ [(k : Int)] else reachL l k
theorem reachL_len (l : List Int) : ∀ k, (reachL l k).length ≤ k
  | 0 => by simp [reachL]
  | k + 1 => by
    have := reachL_len l k
    rw [reachL]; split
    · rw [List.length_append]; simp; omega
    · omega
theorem reachL_mem {l : List Int} {t : Nat} : ∀ {k}, (t : Int) ∈ reachL l k ↔ t < k ∧ 0 ≤ at0 l t
  | 0 => by simp [reachL]
  | k + 1 => by
    have ih := reachL_mem (l := l) (t := t) (k := k)
    rw [reachL]
    by_cases h : 0 ≤ at0 l k
    · rw [if_pos h, List.mem_append, ih]
      constructor
      · rintro (⟨a, b⟩ | a)
        · exact ⟨by omega, b⟩
        · simp at a
          have e : t = k := by omega
          subst e
          exact ⟨by omega, h⟩
      · rintro ⟨a, b⟩
        by_cases e : t = k
        · subst e; exact .inr (by simp)
        · exact .inl ⟨by omega, b⟩
    · rw [if_neg h, ih]
      constructor
      · rintro ⟨a, b⟩; exact ⟨by omega, b⟩
      · rintro ⟨a, b⟩
        by_cases e : t = k
        · subst e; exact absurd b h
        · exact ⟨by omega, b⟩
def hasB (l : List Int) (z : Int) : Bool := l.any fun x => decide (x = z)
theorem has_reach {l : List Int} {t k : Nat} (h : t < k) (h0 : 0 ≤ at0 l t) : hasB (reachL l k) t = true := by
  unfold hasB
  rw [List.any_eq_true]
  exact ⟨t, reachL_mem.2 ⟨h, h0⟩, by simp⟩
/-- what the law says, of the lists that come out -/
structure Law1 (g : Gr) (fr : Int) (n : Nat) (ms mv st la rc : List Int) : Prop where
  lv : mv.length = n
  ls : st.length = n
  ll : la.length = n
  lr : rc.length ≤ n
  nv : Nn mv
  ns : Nn st
  nl : Nn la
  s1 : mv.sum + st.sum = ms.sum
  s2 : la.sum = ms.sum
  r1 : ∀ k, k < n → 0 < at0 la k → hasB rc k = true
  r2 : ∀ k, k < n → 0 < at0 ms k → hasB rc k = true
  y1 : ∀ k, k < n → runsB g fr k (nearV g k 8) = true → at0 la k = 0 ∧ at0 st k = 0
  y2 : ∀ k, k < n → runsB g fr k (nearV g k 8) = false → at0 st k = at0 ms k
theorem law1 {g : Gr} {fr : Int} {ms : List Int} {N : Nat} (hok : g.ok = true) (hn : g.hs.length = ms.length) (hf : 1 ≤ fr) (hm : Nn ms) (hN : EndAt g fr ms N) :
    Law1 g fr ms.length ms (routeTo g fr ms ms.length).1 (routeTo g fr ms ms.length).2 (setV g fr ms N) (reachL (preV g fr ms (N + 1)) ms.length) := by
  have hg := Gr.ok_bd hok
  have h1 := routeTo_inv hg hn hf hm ms.length (Nat.le_refl _)
  rw [List.take_of_length_le (Nat.le_refl _)] at h1
  have h2 := now_ok (fr := fr) hg hn hf hm N
  have h3 := h2.n1.sum
  have h4 := hN.2
  refine ⟨h1.l1, h1.l2, h2.l2, reachL_len _ _, h1.n1, h1.n2, h2.n2, h1.sum, by have := h2.sum; omega, fun k hk hp => ?_, fun k hk hp => ?_, fun k hk hr => ?_, fun k hk hr => ?_⟩
  · obtain ⟨j, hj, hp2⟩ := setV_pos hg hn hf hm N hp
    exact has_reach hk (preV_mono (preV_hit hk hp2) _ (by omega))
  · exact has_reach hk (preV_mono (preV_hit (i := 0) hk hp) _ (by omega))
  · have hw := (runs_iff hok hf (by omega)).1 hr
    exact ⟨setV_zero hg hn hf hm hw N, by rw [set_at _ _ _ _ (Nat.le_refl _), if_neg (fun q => hw q.2)]⟩
  · have hw : waysL g k fr = [] := by
      by_cases e : waysL g k fr = []
      · exact e
      · have := (runs_iff hok hf (show k < g.hs.length by omega)).2 e
        rw [this] at hr; cases hr
    rw [set_at _ _ _ _ (Nat.le_refl _), if_pos ⟨hk, hw⟩]
end Go.Proofs.Ytaoomildopmclaa
