/- Masses that run until all have settled: plain mathematics. -/
import Derived.Test.YtaoomildopmclaaRoB
namespace Go.Proofs.Ytaoomildopmclaa
open Go.ChangeShapes Go.WideShapes Go.ChangeAt Go.RowKit
set_option linter.unusedVariables false
/-! ### the rounds -/
/-- adding the first cells of a list to another list -/
def addK (l d : List Int) : Nat → List Int
  | 0 => l
  | k + 1 => addAt (addK l d k) k (at0 d k)
theorem addK_len (l d : List Int) : ∀ k, (addK l d k).length = l.length
  | 0 => rfl
  | k + 1 => by rw [addK, addAt_len, addK_len l d k]
theorem addK_at (l d : List Int) : ∀ k, k ≤ l.length → ∀ j, at0 (addK l d k) j = if j < k then at0 l j + at0 d j else at0 l j
  | 0, _, j => by simp [addK]
  | k + 1, h, j => by
    rw [addK, at0_addAt (by rw [addK_len]; omega), addK_at l d k (by omega), addK_at l d k (by omega)]
    by_cases e : j = k
    · subst e; simp
    · rw [if_neg e]
      by_cases h1 : j < k
      · rw [if_pos h1, if_pos (by omega)]
      · rw [if_neg h1, if_neg (by omega)]
theorem addK_sum (l d : List Int) : ∀ k, k ≤ l.length → (addK l d k).sum = l.sum + (d.take k).sum
  | 0, _ => by simp [addK]
  | k + 1, h => by
    rw [addK, sum_addAt (by rw [addK_len]; omega), addK_sum l d k (by omega), sum_take_succ]; omega
theorem addK_nn {l d : List Int} (hl : Nn l) (hd : Nn d) : ∀ k, k ≤ l.length → Nn (addK l d k)
  | 0, _ => hl
  | k + 1, h => (addK_nn hl hd k (by omega)).addAt (hd k) (by rw [addK_len]; omega)
/-- the first cells that a mass reaches now, and no mass has reached before -/
def markC (l t : List Int) (i : Int) (k : Nat) : List Int := if 0 < at0 l k ∧ at0 t k < 0 then t.set k i else t
def markK (l t : List Int) (i : Int) : Nat → List Int
  | 0 => t
  | k + 1 => markC l (markK l t i k) i k
theorem markC_len (l t : List Int) (i : Int) (k : Nat) : (markC l t i k).length = t.length := by unfold markC; split <;> simp
theorem markK_len (l t : List Int) (i : Int) : ∀ k, (markK l t i k).length = t.length
  | 0 => rfl
  | k + 1 => by rw [markK, markC_len, markK_len l t i k]
theorem at0_set {l : List Int} {i j : Nat} {z : Int} (h : i < l.length) : at0 (l.set i z) j = if j = i then z else at0 l j := by
  unfold at0
  by_cases e : j = i
  · subst e; rw [if_pos rfl, List.getElem?_set_self h]; rfl
  · rw [if_neg e, List.getElem?_set_ne (Ne.symm e)]
theorem markK_at (l t : List Int) (i : Int) : ∀ k, k ≤ t.length → ∀ j, at0 (markK l t i k) j = if j < k ∧ 0 < at0 l j ∧ at0 t j < 0 then i else at0 t j
  | 0, _, j => by simp [markK]
  | k + 1, h, j => by
    have ih := markK_at l t i k (by omega)
    rw [markK, markC, ih k]
    have hk : ¬ (k < k) := by omega
    simp only [hk, false_and, if_false]
    by_cases e : j = k
    · subst e
      by_cases hm : 0 < at0 l j ∧ at0 t j < 0
      · rw [if_pos hm, at0_set (by rw [markK_len]; omega), if_pos rfl, if_pos ⟨by omega, hm⟩]
      · rw [if_neg hm, ih j, if_neg (fun h => by omega), if_neg (fun h => hm h.2)]
    · have e2 : (j < k + 1 ∧ 0 < at0 l j ∧ at0 t j < 0) ↔ (j < k ∧ 0 < at0 l j ∧ at0 t j < 0) := by constructor <;> rintro ⟨a, b⟩ <;> exact ⟨by omega, b⟩
      by_cases hm : 0 < at0 l k ∧ at0 t k < 0
      · rw [if_pos hm, at0_set (by rw [markK_len]; omega), if_neg e, ih j]
        simp only [e2]
      · rw [if_neg hm, ih j]
        simp only [e2]
/-- a row of the number -1, filled in turn -/
def fillK (n : Nat) : Nat → List Int
  | 0 => List.replicate n 0
  | k + 1 => (fillK n k).set k (-1)
theorem fillK_at (n : Nat) : ∀ k, k ≤ n → (fillK n k).length = n ∧ ∀ j, j < k → at0 (fillK n k) j = -1
  | 0, _ => ⟨by simp [fillK], fun j h => by omega⟩
  | k + 1, h => by
    obtain ⟨h1, h2⟩ := fillK_at n k (by omega)
    refine ⟨by rw [fillK, List.length_set, h1], fun j hj => ?_⟩
    rw [fillK, at0_set (by omega)]
    by_cases e : j = k
    · rw [if_pos e]
    · rw [if_neg e]; exact h2 j (by omega)
theorem fillK_full (n : Nat) : fillK n n = List.replicate n (-1) := by
  obtain ⟨h1, h2⟩ := fillK_at n n (Nat.le_refl _)
  apply List.ext_getElem?
  intro j
  by_cases h : j < n
  · rw [at0_el (show j < (fillK n n).length by omega), h2 j h, List.getElem?_replicate, if_pos h]
  · rw [List.getElem?_eq_none (by omega), List.getElem?_eq_none (by simp; omega)]
def nowV (g : Gr) (fr : Int) (ms : List Int) : Nat → List Int
  | 0 => ms
  | i + 1 => (routeTo g fr (nowV g fr ms i) ms.length).1
def setV (g : Gr) (fr : Int) (ms : List Int) : Nat → List Int
  | 0 => List.replicate ms.length 0
  | i + 1 => addK (setV g fr ms i) (routeTo g fr (nowV g fr ms i) ms.length).2 ms.length
/-- the arrivals before the marks of a round -/
def preV (g : Gr) (fr : Int) (ms : List Int) : Nat → List Int
  | 0 => List.replicate ms.length (-1)
  | i + 1 => markK (nowV g fr ms i) (preV g fr ms i) i ms.length
theorem preV_len (g : Gr) (fr : Int) (ms : List Int) : ∀ i, (preV g fr ms i).length = ms.length
  | 0 => by simp [preV]
  | i + 1 => by rw [preV, markK_len, preV_len g fr ms i]
theorem setV_len (g : Gr) (fr : Int) (ms : List Int) : ∀ i, (setV g fr ms i).length = ms.length
  | 0 => by simp [setV]
  | i + 1 => by rw [setV, addK_len, setV_len g fr ms i]
/-- what holds of each round -/
structure NowOk (n : Nat) (tot : Int) (l s : List Int) : Prop where
  l1 : l.length = n
  l2 : s.length = n
  n1 : Nn l
  n2 : Nn s
  sum : l.sum + s.sum = tot
theorem now_ok {g : Gr} {fr : Int} {ms : List Int} (hg : GrOk g) (hn : g.hs.length = ms.length) (hf : 1 ≤ fr) (hm : Nn ms) : ∀ i, NowOk ms.length ms.sum (nowV g fr ms i) (setV g fr ms i)
  | 0 => ⟨rfl, by simp [setV], hm, nn_rep _, by simp [nowV, setV]⟩
  | i + 1 => by
    obtain ⟨h1, h2, h3, h4, h5⟩ := now_ok hg hn hf hm i
    have h6 := routeTo_inv (fr := fr) hg (by rw [h1]; exact hn) hf h3 ms.length (by omega)
    rw [h1] at h6
    have e1 : (nowV g fr ms i).take ms.length = nowV g fr ms i := List.take_of_length_le (by omega)
    rw [e1] at h6
    refine ⟨h6.l1, by rw [setV_len], h6.n1, addK_nn h4 h6.n2 _ (by omega), ?_⟩
    rw [setV, addK_sum _ _ _ (by omega), List.take_of_length_le (show _ ≤ ms.length by rw [h6.l2]; omega)]
    have := h6.sum
    simp only [nowV]
    omega
theorem sum_pos_ex : ∀ {l : List Int}, 0 < l.sum → ∃ t, t < l.length ∧ 0 < at0 l t
  | [], h => by simp at h
  | x :: l, h => by
    by_cases hx : 0 < x
    · exact ⟨0, by simp, by simpa [at0] using hx⟩
    · rw [List.sum_cons] at h
      obtain ⟨t, h1, h2⟩ := sum_pos_ex (l := l) (by omega)
      exact ⟨t + 1, by simpa using h1, by simpa [at0] using h2⟩
/-- some of the first masses is not nothing -/
def anyK (l : List Int) : Nat → Bool
  | 0 => false
  | k + 1 => anyK l k || decide (0 < at0 l k)
theorem anyK_true {l : List Int} : ∀ {k}, anyK l k = true ↔ ∃ t, t < k ∧ 0 < at0 l t
  | 0 => by simp [anyK]
  | k + 1 => by
    rw [anyK, Bool.or_eq_true, anyK_true, decide_eq_true_eq]
    constructor
    · rintro (⟨t, a, b⟩ | h)
      · exact ⟨t, by omega, b⟩
      · exact ⟨k, by omega, h⟩
    · rintro ⟨t, a, b⟩
      by_cases e : t = k
      · subst e; exact .inr b
      · exact .inl ⟨t, by omega, b⟩
theorem anyK_sum {l : List Int} {n : Nat} (h : Nn l) (hn : l.length = n) : anyK l n = decide (0 < l.sum) := by
  rw [Bool.eq_iff_iff, anyK_true, decide_eq_true_eq]
  constructor
  · rintro ⟨t, _, b⟩
    have := h.le t
    omega
  · intro hs
    obtain ⟨t, a, b⟩ := sum_pos_ex hs
    exact ⟨t, by omega, b⟩
/-! ### masses go to lower cells -/
theorem moveTo_at {m T : Int} {t : Nat} : ∀ {ws : List Stp} {mv : List Int}, (∀ x ∈ ws, x.cell.toNat ≠ t) → at0 (moveTo m T mv ws) t = at0 mv t
  | [], mv, _ => rfl
  | x :: ws, mv, h => by
    show at0 (moveTo m T (addAt mv x.cell.toNat (m * x.slope / T)) ws) t = _
    rw [moveTo_at (fun y hy => h y (List.mem_cons_of_mem _ hy))]
    have hx := h x (List.mem_cons_self ..)
    unfold addAt at0
    rw [List.getElem?_set_ne hx]
theorem lower_ways {g : Gr} {c : Nat} {fr : Int} {x : Stp} (h : x ∈ waysL g c fr) : hAt g x.cell < hAt g c := by
  have h1 := (List.mem_filter.1 h).2
  unfold wayB at h1
  simp only [Bool.and_eq_true, decide_eq_true_eq] at h1
  exact h1.1
theorem from_above {g : Gr} {fr : Int} {ms : List Int} {n : Nat} (hg : GrOk g) (hn : g.hs.length = n) (hf : 1 ≤ fr) (hm : Nn ms) : ∀ k (t : Nat), 0 < at0 (routeTo g fr ms k).1 t → ∃ c : Nat, c < k ∧ 0 < at0 ms c ∧ hAt g t < hAt g c
  | 0, t, h => by
    have e : at0 (List.replicate ms.length (0 : Int)) t = 0 := by
      unfold at0
      cases h : (List.replicate ms.length (0 : Int))[t]? with
      | none => rfl
      | some z =>
        have := List.mem_of_getElem? h
        rw [List.mem_replicate] at this
        rw [this.2]; rfl
    simp only [routeTo, List.range_zero, List.foldl_nil] at h
    omega
  | k + 1, t, h => by
    by_cases h0 : 0 < at0 (routeTo g fr ms k).1 t
    · obtain ⟨c, a, b⟩ := from_above hg hn hf hm k t h0
      exact ⟨c, by omega, b⟩
    · rw [routeTo_succ] at h
      have hmk := hm k
      by_cases hz : at0 ms k = 0
      · rw [hz, stepC_zero] at h; exact absurd h h0
      · by_cases hw : waysL g k fr = []
        · rw [stepC, if_pos hw] at h; exact absurd h h0
        · by_cases hx : ∃ x ∈ waysL g k fr, x.cell.toNat = t
          · obtain ⟨x, hx1, hx2⟩ := hx
            obtain ⟨u, hu, _⟩ := (ways_ok (c := k) hg hf).cell x hx1
            have h3 := lower_ways hx1
            rw [show x.cell = (t : Int) by omega] at h3
            exact ⟨k, by omega, by omega, h3⟩
          · have hx' : ∀ x ∈ waysL g k fr, x.cell.toNat ≠ t := fun x hx1 hx2 => hx ⟨x, hx1, hx2⟩
            have hb := hx' _ (bestW_mem hw)
            rw [stepC, if_neg hw] at h
            simp only at h
            have e : ∀ (l : List Int) (z : Int), at0 (addAt l (bestW (waysL g k fr)).cell.toNat z) t = at0 l t := fun l z => by
              unfold addAt at0
              rw [List.getElem?_set_ne hb]
            rw [e, moveTo_at hx'] at h
            exact absurd h h0
theorem filter_lt {α : Type} {p q : α → Bool} : ∀ {l : List α}, (∀ x, p x = true → q x = true) → (∃ x ∈ l, q x = true ∧ p x = false) → (l.filter p).length < (l.filter q).length
  | [], _, h => by obtain ⟨x, h, _⟩ := h; simp at h
  | y :: l, hpq, h => by
    have hle : (l.filter p).length ≤ (l.filter q).length := by
      rw [← List.countP_eq_length_filter, ← List.countP_eq_length_filter]
      exact List.countP_mono_left (fun x _ => hpq x)
    obtain ⟨x, hx, hq, hp⟩ := h
    rw [List.filter_cons, List.filter_cons]
    by_cases e : x = y
    · subst e
      rw [hq, hp]; simp; omega
    · have hx' : x ∈ l := by
        rcases List.mem_cons.1 hx with h | h
        · exact absurd h e
        · exact h
      have ih := filter_lt (p := p) (q := q) (l := l) hpq ⟨x, hx', hq, hp⟩
      cases hpy : p y
      · cases hqy : q y <;> simp <;> omega
      · rw [hpq y hpy]; simp; omega
/-- the number of cells that are higher than a cell -/
def hiC (g : Gr) (c : Nat) : Nat := ((List.range g.hs.length).filter fun d : Nat => decide (hAt g c < hAt g (d : Int))).length
theorem hiC_lt {g : Gr} {t c : Nat} (hc : c < g.hs.length) (h : hAt g t < hAt g c) : hiC g c < hiC g t := by
  refine filter_lt (fun d hd => ?_) ⟨c, List.mem_range.2 hc, by simpa using h, by simp⟩
  simp only [decide_eq_true_eq] at hd ⊢
  omega
theorem hiC_le {g : Gr} {t : Nat} (ht : t < g.hs.length) : hiC g t < g.hs.length := by
  have h := filter_lt (p := fun d : Nat => decide (hAt g t < hAt g (d : Int))) (q := fun _ => true) (l := List.range g.hs.length) (fun _ _ => rfl) ⟨t, List.mem_range.2 ht, rfl, by simp⟩
  have e : ((List.range g.hs.length).filter fun _ => true).length = g.hs.length := by rw [List.filter_eq_self.2 (fun _ _ => rfl), List.length_range]
  rw [e] at h
  exact h
theorem now_hi {g : Gr} {fr : Int} {ms : List Int} (hg : GrOk g) (hn : g.hs.length = ms.length) (hf : 1 ≤ fr) (hm : Nn ms) : ∀ i (t : Nat), 0 < at0 (nowV g fr ms i) t → i ≤ hiC g t
  | 0, _, _ => Nat.zero_le _
  | i + 1, t, h => by
    have ho := now_ok hg hn hf hm i
    obtain ⟨c, hc, h1, h2⟩ := from_above hg rfl hf ho.n1 _ t h
    have h3 := now_hi hg hn hf hm i c h1
    have h4 := hiC_lt (t := t) (c := c) (by omega) h2
    omega
theorem now_end {g : Gr} {fr : Int} {ms : List Int} (hg : GrOk g) (hn : g.hs.length = ms.length) (hf : 1 ≤ fr) (hm : Nn ms) {i : Nat} (h : 0 < (nowV g fr ms i).sum) : i < ms.length := by
  obtain ⟨t, h1, h2⟩ := sum_pos_ex h
  have h3 := now_hi hg hn hf hm i t h2
  have h4 := (now_ok (fr := fr) hg hn hf hm i).l1
  have h5 := hiC_le (g := g) (t := t) (by omega)
  omega
/-- the round in which all has settled -/
def EndAt (g : Gr) (fr : Int) (ms : List Int) (N : Nat) : Prop := (∀ j, j < N → 0 < (nowV g fr ms j).sum) ∧ ¬ 0 < (nowV g fr ms N).sum
def endF (g : Gr) (fr : Int) (ms : List Int) : Nat → Nat → Nat
  | 0, i => i
  | f + 1, i => if 0 < (nowV g fr ms i).sum then endF g fr ms f (i + 1) else i
def endN (g : Gr) (fr : Int) (ms : List Int) : Nat := endF g fr ms (ms.length + 1) 0
theorem endF_eq {g : Gr} {fr : Int} {ms : List Int} {N : Nat} (h : EndAt g fr ms N) : ∀ f i, i ≤ N → N ≤ i + f → endF g fr ms f i = N
  | 0, i, h1, h2 => by simp [endF]; omega
  | f + 1, i, h1, h2 => by
    rw [endF]
    by_cases e : i = N
    · subst e; rw [if_neg h.2]
    · rw [if_pos (h.1 i (by omega))]
      exact endF_eq h f (i + 1) (by omega) (by omega)
theorem EndAt.bd {g : Gr} {fr : Int} {ms : List Int} {N : Nat} (hg : GrOk g) (hn : g.hs.length = ms.length) (hf : 1 ≤ fr) (hm : Nn ms) (h : ∀ j, j < N → 0 < (nowV g fr ms j).sum) : N ≤ ms.length := by
  cases N with
  | zero => omega
  | succ N =>
    have := now_end hg hn hf hm (h N (by omega))
    omega
theorem EndAt.eq {g : Gr} {fr : Int} {ms : List Int} {N : Nat} (hg : GrOk g) (hn : g.hs.length = ms.length) (hf : 1 ≤ fr) (hm : Nn ms) (h : EndAt g fr ms N) : endN g fr ms = N :=
  endF_eq h _ 0 (Nat.zero_le _) (by have := EndAt.bd hg hn hf hm h.1; omega)
/-! ### the reference's first arrivals -/
def startT (ms : List Int) : List Int := ms.map fun m => if 0 < m then 0 else -1
theorem startT_eq (g : Gr) (fr : Int) (ms : List Int) : preV g fr ms 1 = startT ms := by
  apply List.ext_getElem?
  intro j
  have hl := preV_len g fr ms 1
  by_cases h : j < ms.length
  · rw [at0_el (show j < (preV g fr ms 1).length by omega), at0_el (show j < (startT ms).length by simpa [startT] using h)]
    congr 1
    rw [preV, markK_at _ _ _ _ (by rw [preV_len]; omega)]
    have e1 : at0 (preV g fr ms 0) j = -1 := by simp [preV, at0, h]
    have e2 : at0 (startT ms) j = if 0 < at0 ms j then 0 else -1 := by simp [startT, at0, List.getElem?_map, List.getElem?_eq_getElem h]
    rw [e1, e2, show nowV g fr ms 0 = ms from rfl]
    by_cases hp : 0 < at0 ms j
    · rw [if_pos ⟨h, hp, by omega⟩, if_pos hp]; rfl
    · rw [if_neg (fun q => hp q.2.1), if_neg hp]
  · rw [List.getElem?_eq_none (by omega), List.getElem?_eq_none (by simp [startT]; omega)]
end Go.Proofs.Ytaoomildopmclaa
