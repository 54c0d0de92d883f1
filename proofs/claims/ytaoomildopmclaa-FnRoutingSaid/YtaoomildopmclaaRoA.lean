/- Masses that run: plain mathematics. -/
import Derived.Test.YtaoomildopmclaaGrS
namespace Go.Proofs.Ytaoomildopmclaa
open Go.ChangeShapes Go.WideShapes Go.ChangeAt Go.RowKit
set_option linter.unusedVariables false
def at0 (l : List Int) (k : Nat) : Int := (l[k]?).getD 0
theorem at0_get {l : List Int} {k : Nat} {z : Int} (h : l[k]? = some z) : at0 l k = z := by rw [at0, h]; rfl
theorem at0_el {l : List Int} {k : Nat} (h : k < l.length) : l[k]? = some (at0 l k) := by rw [at0, List.getElem?_eq_getElem h]; rfl
def addAt (l : List Int) (i : Nat) (z : Int) : List Int := l.set i (at0 l i + z)
theorem addAt_len (l : List Int) (i : Nat) (z : Int) : (addAt l i z).length = l.length := by simp [addAt]
theorem addAt_zero {l : List Int} {i : Nat} : addAt l i 0 = l := by
  unfold addAt
  apply List.ext_getElem?
  intro j
  rw [List.getElem?_set]
  split
  · rename_i e; subst e
    split
    · rename_i h; rw [at0_el h]; simp
    · rename_i h; rw [List.getElem?_eq_none (by omega)]
  · rfl
theorem at0_addAt {l : List Int} {i j : Nat} {z : Int} (h : i < l.length) : at0 (addAt l i z) j = if j = i then at0 l i + z else at0 l j := by
  unfold addAt at0
  by_cases e : j = i
  · subst e; rw [if_pos rfl, List.getElem?_set_self h]; rfl
  · rw [if_neg e, List.getElem?_set_ne (Ne.symm e)]
theorem sum_set : ∀ {l : List Int} {i : Nat} {z : Int}, i < l.length → (l.set i z).sum = l.sum - at0 l i + z
  | [], i, z, h => by simp at h
  | x :: l, 0, z, _ => by simp [at0]; omega
  | x :: l, i + 1, z, h => by
    have ih := sum_set (l := l) (i := i) (z := z) (by simpa using h)
    have e : at0 (x :: l) (i + 1) = at0 l i := by simp [at0]
    rw [List.set_cons_succ, List.sum_cons, List.sum_cons, ih, e]; omega
theorem sum_addAt {l : List Int} {i : Nat} {z : Int} (h : i < l.length) : (addAt l i z).sum = l.sum + z := by
  unfold addAt; rw [sum_set h]; omega
def Nn (l : List Int) : Prop := ∀ k, 0 ≤ at0 l k
theorem Nn.addAt {l : List Int} {i : Nat} {z : Int} (h : Nn l) (hz : 0 ≤ z) (hi : i < l.length) : Nn (addAt l i z) := by
  intro k
  rw [at0_addAt hi]
  have h1 := h i
  have h2 := h k
  split <;> omega
theorem Nn.tail {x : Int} {l : List Int} (h : Nn (x :: l)) : 0 ≤ x ∧ Nn l := ⟨by have := h 0; simpa [at0] using this, fun k => by have := h (k + 1); simpa [at0] using this⟩
theorem Nn.sum : ∀ {l : List Int}, Nn l → 0 ≤ l.sum
  | [], _ => by simp
  | x :: l, h => by have h1 := h.tail; have h2 := h1.2.sum; rw [List.sum_cons]; omega
theorem Nn.le : ∀ {l : List Int}, Nn l → ∀ k, at0 l k ≤ l.sum
  | [], _, k => by simp [at0]
  | x :: l, h, 0 => by have h1 := h.tail; have h2 := h1.2.sum; simp [at0]; omega
  | x :: l, h, k + 1 => by
    have h1 := h.tail
    have h2 := h1.2.le k
    have e : at0 (x :: l) (k + 1) = at0 l k := by simp [at0]
    rw [e, List.sum_cons]; omega
theorem nn_rep (n : Nat) : Nn (List.replicate n 0) := by
  intro k; unfold at0
  cases h : (List.replicate n (0 : Int))[k]? with
  | none => simp
  | some z =>
    have := List.mem_of_getElem? h
    rw [List.mem_replicate] at this
    rw [this.2]; simp
theorem sum_rep (n : Nat) : (List.replicate n (0 : Int)).sum = 0 := by
  induction n with
  | zero => rfl
  | succ n ih => rw [List.replicate_succ, List.sum_cons, ih]; rfl
/-! ### the ways from a cell -/
def wayB (g : Gr) (c : Nat) (fr : Int) (x : Stp) : Bool := decide (hAt g x.cell < hAt g c) && decide (fr ≤ x.slope)
def waysL (g : Gr) (c : Nat) (fr : Int) : List Stp := (nextTo g c 8).filter (wayB g c fr)
def totS (ws : List Stp) : Int := (ws.map Stp.slope).sum
theorem totS_snoc (ws : List Stp) (x : Stp) : totS (ws ++ [x]) = totS ws + x.slope := by simp [totS]
def quoS (m T : Int) (ws : List Stp) : Int := (ws.map fun x => m * x.slope / T).sum
theorem quoS_snoc (m T : Int) (ws : List Stp) (x : Stp) : quoS m T (ws ++ [x]) = quoS m T ws + m * x.slope / T := by simp [quoS]
def moveTo (m T : Int) (mv : List Int) (ws : List Stp) : List Int := ws.foldl (fun l x => addAt l x.cell.toNat (m * x.slope / T)) mv
theorem moveTo_snoc (m T : Int) (mv : List Int) (ws : List Stp) (x : Stp) : moveTo m T mv (ws ++ [x]) = addAt (moveTo m T mv ws) x.cell.toNat (m * x.slope / T) := by simp [moveTo, List.foldl_append]
def betW (b x : Stp) : Stp := if b.slope < x.slope then x else b
def bestW (ws : List Stp) : Stp := ws.foldl betW (ws.headD ⟨0, 0, 0⟩)
def stepC (g : Gr) (fr m : Int) (c : Nat) (s : List Int × List Int) : List Int × List Int :=
  if waysL g c fr = [] then (s.1, addAt s.2 c m)
  else (addAt (moveTo m (totS (waysL g c fr)) s.1 (waysL g c fr)) (bestW (waysL g c fr)).cell.toNat (m - quoS m (totS (waysL g c fr)) (waysL g c fr)), s.2)
def routeTo (g : Gr) (fr : Int) (ms : List Int) (k : Nat) : List Int × List Int := (List.range k).foldl (fun s c => stepC g fr (at0 ms c) c s) (List.replicate ms.length 0, List.replicate ms.length 0)
theorem routeTo_succ (g : Gr) (fr : Int) (ms : List Int) (k : Nat) : routeTo g fr ms (k + 1) = stepC g fr (at0 ms k) k (routeTo g fr ms k) := by simp [routeTo, List.range_succ, List.foldl_append]
/-- what holds of the ways -/
structure WOk (n : Nat) (ws : List Stp) : Prop where
  cell : ∀ x ∈ ws, ∃ t : Nat, x.cell = t ∧ t < n
  lo : ∀ x ∈ ws, 1 ≤ x.slope
  hi : ∀ x ∈ ws, x.slope ≤ 5000000001
  len : ws.length ≤ 8
theorem ways_ok {g : Gr} {c : Nat} {fr : Int} (hg : GrOk g) (hf : 1 ≤ fr) : WOk g.hs.length (waysL g c fr) := by
  refine ⟨fun x hx => ?_, fun x hx => ?_, fun x hx => ?_, ?_⟩
  · have h1 := List.mem_filter.1 hx
    obtain ⟨j, hj⟩ := List.getElem?_of_mem h1.1
    exact next_cell hg hj
  · have h1 := List.mem_filter.1 hx
    unfold wayB at h1
    simp only [Bool.and_eq_true, decide_eq_true_eq] at h1
    omega
  · have h1 := List.mem_filter.1 hx
    obtain ⟨a, _, _, rfl⟩ := nextTo_mem h1.1
    exact (fallV_bd hg _ _ _).2
  · have h1 := List.length_filter_le (wayB g c fr) (nextTo g c 8)
    have h2 := nextTo_len g c 8
    unfold waysL; omega
theorem WOk.take {n : Nat} {ws : List Stp} (h : WOk n ws) (k : Nat) : WOk n (ws.take k) :=
  ⟨fun x hx => h.cell x (List.mem_of_mem_take hx), fun x hx => h.lo x (List.mem_of_mem_take hx), fun x hx => h.hi x (List.mem_of_mem_take hx), by have := h.len; rw [List.length_take]; omega⟩
theorem totS_bd {ws : List Stp} {n : Nat} (h : WOk n ws) : (ws.length : Int) ≤ totS ws ∧ totS ws ≤ 5000000001 * ws.length := by
  obtain ⟨-, hlo, hhi, -⟩ := h
  induction ws with
  | nil => simp [totS]
  | cons x ws ih =>
    have h1 := ih (fun y hy => hlo y (List.mem_cons_of_mem _ hy)) (fun y hy => hhi y (List.mem_cons_of_mem _ hy))
    have h2 := hlo x (List.mem_cons_self ..)
    have h3 := hhi x (List.mem_cons_self ..)
    have e : totS (x :: ws) = x.slope + totS ws := by simp [totS]
    rw [e, List.length_cons]; omega
theorem totS_take {ws : List Stp} {n : Nat} (h : WOk n ws) (k : Nat) : totS (ws.take k) ≤ totS ws := by
  have e : totS ws = totS (ws.take k) + totS (ws.drop k) := by
    conv => lhs; rw [← List.take_append_drop k ws]
    unfold totS
    rw [List.map_append, List.sum_append]
  have h2 : 0 ≤ totS (ws.drop k) := by
    have h3 := (totS_bd (ws := ws.drop k) (n := n) ⟨fun x hx => h.cell x (List.mem_of_mem_drop hx), fun x hx => h.lo x (List.mem_of_mem_drop hx), fun x hx => h.hi x (List.mem_of_mem_drop hx), by have := h.len; rw [List.length_drop]; omega⟩).1
    omega
  omega
theorem quoS_le {m T : Int} (hm : 0 ≤ m) (hT : 0 < T) : ∀ {ws : List Stp}, (∀ x ∈ ws, 1 ≤ x.slope) → 0 ≤ quoS m T ws ∧ quoS m T ws ≤ m * totS ws / T
  | [], _ => by simp [quoS, totS]
  | x :: ws, h => by
    have ih := quoS_le hm hT (fun y hy => h y (List.mem_cons_of_mem _ hy)) (ws := ws)
    have hx := h x (List.mem_cons_self ..)
    have e1 : quoS m T (x :: ws) = m * x.slope / T + quoS m T ws := by simp [quoS]
    have e2 : totS (x :: ws) = x.slope + totS ws := by simp [totS]
    have p1 : 0 ≤ m * x.slope / T := Int.ediv_nonneg (Int.mul_nonneg hm (by omega)) (by omega)
    have p2 : m * x.slope / T + m * totS ws / T ≤ (m * x.slope + m * totS ws) / T := by
      rw [Int.le_ediv_iff_mul_le hT, Int.add_mul]
      have a := Int.ediv_mul_le (m * x.slope) (show T ≠ 0 by omega)
      have b := Int.ediv_mul_le (m * totS ws) (show T ≠ 0 by omega)
      omega
    rw [e1, e2, Int.mul_add]
    omega
theorem quoS_take {m : Int} {n : Nat} {ws : List Stp} (hm : 0 ≤ m) (h : WOk n ws) (hne : ws ≠ []) (k : Nat) : 0 ≤ quoS m (totS ws) (ws.take k) ∧ quoS m (totS ws) (ws.take k) ≤ m := by
  have hl : 0 < ws.length := List.length_pos_iff.2 hne
  have hT : 0 < totS ws := by have := (totS_bd h).1; omega
  have h1 := quoS_le hm hT (h.take k).lo
  have h2 : m * totS (ws.take k) ≤ m * totS ws := Int.mul_le_mul_of_nonneg_left (totS_take h k) hm
  have h3 := Int.ediv_le_ediv hT h2
  rw [Int.mul_ediv_cancel _ (by omega)] at h3
  omega
theorem moveTo_len (m T : Int) : ∀ (ws : List Stp) (mv : List Int), (moveTo m T mv ws).length = mv.length
  | [], mv => rfl
  | x :: ws, mv => by
    show (moveTo m T (addAt mv x.cell.toNat (m * x.slope / T)) ws).length = _
    rw [moveTo_len m T ws, addAt_len]
theorem moveTo_ok {m T : Int} {n : Nat} (hm : 0 ≤ m) (hT : 0 < T) : ∀ {ws : List Stp} {mv : List Int}, WOk n ws → mv.length = n → Nn mv → Nn (moveTo m T mv ws) ∧ (moveTo m T mv ws).sum = mv.sum + quoS m T ws
  | [], mv, _, _, h => ⟨h, by simp [moveTo, quoS]⟩
  | x :: ws, mv, hw, hl, h => by
    obtain ⟨t, ht, htn⟩ := hw.cell x (List.mem_cons_self ..)
    have hx := hw.lo x (List.mem_cons_self ..)
    have hq : 0 ≤ m * x.slope / T := Int.ediv_nonneg (Int.mul_nonneg hm (by omega)) (by omega)
    have e : x.cell.toNat = t := by omega
    have h1 := h.addAt hq (show x.cell.toNat < mv.length by omega)
    have h2 := moveTo_ok hm hT (ws := ws) (mv := addAt mv x.cell.toNat (m * x.slope / T)) ⟨fun y hy => hw.cell y (List.mem_cons_of_mem _ hy), fun y hy => hw.lo y (List.mem_cons_of_mem _ hy), fun y hy => hw.hi y (List.mem_cons_of_mem _ hy), by have := hw.len; simp at this; omega⟩ (by rw [addAt_len, hl]) h1
    refine ⟨h2.1, ?_⟩
    show (moveTo m T (addAt mv x.cell.toNat (m * x.slope / T)) ws).sum = _
    rw [h2.2, sum_addAt (by omega)]
    have e1 : quoS m T (x :: ws) = m * x.slope / T + quoS m T ws := by simp [quoS]
    omega
theorem best_mem : ∀ (ws : List Stp) (b : Stp), ws.foldl betW b ∈ b :: ws
  | [], b => by simp
  | x :: ws, b => by
    rw [List.foldl_cons]
    have h1 := best_mem ws (betW b x)
    have h2 : betW b x = b ∨ betW b x = x := by unfold betW; split <;> simp
    rcases List.mem_cons.1 h1 with h3 | h3
    · rw [h3]
      rcases h2 with h4 | h4 <;> rw [h4] <;> simp
    · exact List.mem_cons_of_mem _ (List.mem_cons_of_mem _ h3)
theorem bestW_mem {ws : List Stp} (h : ws ≠ []) : bestW ws ∈ ws := by
  cases ws with
  | nil => exact absurd rfl h
  | cons x r =>
    have h1 := best_mem (x :: r) x
    rcases List.mem_cons.1 h1 with h2 | h2
    · unfold bestW; rw [show (x :: r).headD ⟨0, 0, 0⟩ = x from rfl, h2]; simp
    · exact h2
/-- what holds of the masses while they are routed -/
structure RInv (n : Nat) (tot : Int) (s : List Int × List Int) : Prop where
  l1 : s.1.length = n
  l2 : s.2.length = n
  n1 : Nn s.1
  n2 : Nn s.2
  sum : s.1.sum + s.2.sum = tot
theorem RInv.start (n : Nat) : RInv n 0 (List.replicate n 0, List.replicate n 0) := ⟨by simp, by simp, nn_rep n, nn_rep n, by rw [sum_rep]; rfl⟩
theorem RInv.step {g : Gr} {fr m tot : Int} {n c : Nat} {s : List Int × List Int} (h : RInv n tot s) (hg : GrOk g) (hn : g.hs.length = n) (hf : 1 ≤ fr) (hm : 0 ≤ m) (hc : c < n) : RInv n (tot + m) (stepC g fr m c s) := by
  have hw := ways_ok (c := c) hg hf
  rw [hn] at hw
  unfold stepC
  split
  · exact ⟨h.l1, by rw [addAt_len]; exact h.l2, h.n1, h.n2.addAt hm (by rw [h.l2]; exact hc), by have := h.sum; simp only; rw [sum_addAt (by rw [h.l2]; exact hc)]; omega⟩
  · rename_i hne
    have hl : 0 < (waysL g c fr).length := List.length_pos_iff.2 hne
    have hT : 0 < totS (waysL g c fr) := by have := (totS_bd hw).1; omega
    obtain ⟨h1, h2⟩ := moveTo_ok hm hT hw h.l1 h.n1
    have hq := quoS_take hm hw hne (waysL g c fr).length
    rw [List.take_length] at hq
    obtain ⟨t, ht, htn⟩ := hw.cell _ (bestW_mem hne)
    have hl2 := moveTo_len m (totS (waysL g c fr)) (waysL g c fr) s.1
    have htl : (bestW (waysL g c fr)).cell.toNat < (moveTo m (totS (waysL g c fr)) s.1 (waysL g c fr)).length := by rw [hl2, h.l1]; omega
    refine ⟨by rw [addAt_len, hl2]; exact h.l1, h.l2, h1.addAt (by omega) htl, h.n2, ?_⟩
    have := h.sum
    simp only
    rw [sum_addAt htl, h2]; omega
theorem sum_take_succ (ms : List Int) (k : Nat) : (ms.take (k + 1)).sum = (ms.take k).sum + at0 ms k := by
  rw [List.take_add_one]
  unfold at0
  cases ms[k]? <;> simp
theorem routeTo_inv {g : Gr} {fr : Int} {ms : List Int} (hg : GrOk g) (hn : g.hs.length = ms.length) (hf : 1 ≤ fr) (hm : Nn ms) : ∀ k, k ≤ ms.length → RInv ms.length (ms.take k).sum (routeTo g fr ms k)
  | 0, _ => by simpa [routeTo] using RInv.start ms.length
  | k + 1, h => by
    rw [routeTo_succ, sum_take_succ]
    exact (routeTo_inv hg hn hf hm k (by omega)).step hg hn hf (hm k) (by omega)
theorem sum_take_le {ms : List Int} (hm : Nn ms) (k : Nat) : (ms.take k).sum ≤ ms.sum := by
  have e : ms.sum = (ms.take k).sum + (ms.drop k).sum := by
    conv => lhs; rw [← List.take_append_drop k ms]
    rw [List.sum_append]
  have h2 : Nn (ms.drop k) := fun j => by unfold at0; rw [List.getElem?_drop]; exact hm (k + j)
  have := h2.sum
  omega
/-- a mass of nothing changes nothing -/
theorem moveTo_nil (T : Int) : ∀ (ws : List Stp) (mv : List Int), moveTo 0 T mv ws = mv
  | [], mv => rfl
  | x :: ws, mv => by
    show moveTo 0 T (addAt mv x.cell.toNat (0 * x.slope / T)) ws = mv
    rw [show (0 : Int) * x.slope / T = 0 by rw [Int.zero_mul, Int.zero_ediv], addAt_zero, moveTo_nil T ws]
theorem stepC_zero (g : Gr) (fr : Int) (c : Nat) (s : List Int × List Int) : stepC g fr 0 c s = s := by
  unfold stepC
  split
  · rw [addAt_zero]
  · have e : ∀ (T : Int) (ws : List Stp), quoS 0 T ws = 0 := fun T ws => by
      unfold quoS
      induction ws with
      | nil => rfl
      | cons x ws ih => rw [List.map_cons, List.sum_cons, ih, Int.zero_mul, Int.zero_ediv]; rfl
    rw [moveTo_nil, e, show (0 : Int) - 0 = 0 from rfl, addAt_zero]
end Go.Proofs.Ytaoomildopmclaa
