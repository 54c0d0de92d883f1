/- Lists of structs step (all fields int64): words and the laws' own helpers. (Written by wip/tools/structs.py.) -/
import Derived.Test.YtihjlmlhipngmaaOwn
import Derived.Deep.LoopGhost
namespace Go.Proofs.Ytihjlmlhipngmaa
open Go.ChangeShapes Go.WideShapes Go.ChangeAt Go.RowKit
set_option linter.unusedVariables false

structure Stp where
  cell : Int
  dir : Int
  slope : Int
def Stp.cells (s : Stp) : List Value := [.int .i64 s.cell, .int .i64 s.dir, .int .i64 s.slope]
def Stp.val (s : Stp) : Value := .agg #[.int .i64 s.cell, .int .i64 s.dir, .int .i64 s.slope]
def stps (ss : List Stp) : List Value := ss.flatMap Stp.cells
theorem stps_len (ss : List Stp) : (stps ss).length = ss.length * 3 := by
  induction ss with
  | nil => rfl
  | cons s r ih => simp only [stps, List.flatMap_cons, List.length_append, List.length_cons] at ih ⊢; rw [ih]; simp [Stp.cells]; omega
theorem stps_app (a b : List Stp) : stps (a ++ b) = stps a ++ stps b := by simp [stps]
theorem stps_cons (s : Stp) (r : List Stp) : stps (s :: r) = s.cells ++ stps r := by simp [stps]
theorem stps_drop (ss : List Stp) (i : Nat) : (stps ss).drop (i * 3) = stps (ss.drop i) := by
  induction ss generalizing i with
  | nil => simp [stps]
  | cons s r ih =>
    cases i with
    | zero => simp
    | succ i =>
      rw [stps_cons, List.drop_succ_cons, ← ih i, List.drop_append, List.drop_of_length_le (by simp [Stp.cells]; omega)]
      simp only [List.nil_append]
      congr 1
      simp [Stp.cells]; omega
theorem stps_one (ss : List Stp) : ∀ u ∈ stps ss, u.oneCell' = true := by
  intro u hu
  simp only [stps, List.mem_flatMap, Stp.cells] at hu
  obtain ⟨s, _, hu⟩ := hu
  simp only [List.mem_cons, List.not_mem_nil, or_false] at hu
  rcases hu with rfl | rfl | rfl <;> simp [Value.oneCell']
theorem stps_get {ss : List Stp} {i : Nat} {s : Stp} (h : ss[i]? = some s) :
    (stps ss)[i * 3]? = some (.int .i64 s.cell) ∧ (stps ss)[i * 3 + 1]? = some (.int .i64 s.dir) ∧ (stps ss)[i * 3 + 2]? = some (.int .i64 s.slope) := by
  have e := drop_cons_get' h
  have hl : (stps (ss.take i)).length = i * 3 := by
    rw [stps_len, List.length_take]
    have := (List.getElem?_eq_some_iff.1 h).1
    omega
  rw [e, stps_app, stps_cons]
  refine ⟨?_, ?_, ?_⟩ <;> rw [List.getElem?_append_right (by omega), hl]
  · rw [show i * 3 - i * 3 = 0 from by omega]; rfl
  · rw [show i * 3 + 1 - i * 3 = 1 from by omega]; rfl
  · rw [show i * 3 + 2 - i * 3 = 2 from by omega]; rfl
theorem addr_field' (a : Addr) (i j : Nat) (hj : 0 < j) : (⟨(a.add i).block, (a.add i).off + j, none⟩ : Addr) = a.add (i + j) := by
  unfold Addr.add
  by_cases hi : i = 0
  · subst hi; rw [if_pos rfl, if_neg (by omega), Nat.zero_add]
  · rw [if_neg hi, if_neg (by omega)]; simp; omega
/-- element k at the address ad is s -/
def StpAt (w : World) (ad : Addr) (k : Nat) (s : Stp) : Prop := w.cell? (ad.add (k * 3)) = some (.int .i64 s.cell) ∧ w.cell? ⟨(ad.add (k * 3)).block, (ad.add (k * 3)).off + 1, none⟩ = some (.int .i64 s.dir) ∧ w.cell? ⟨(ad.add (k * 3)).block, (ad.add (k * 3)).off + 2, none⟩ = some (.int .i64 s.slope)
theorem Reads.stpLen {w : World} {B n : Nat} {A : Option Addr} {ss : List Stp} (h : Reads w B 3 A n (stps ss)) : ss.length = n := by
  have := h.1; rw [stps_len] at this; omega
/-- element k of a list in memory: its cells, at the walk's own addresses -/
theorem Reads.stp {w : World} {B n k : Nat} {A : Option Addr} {ss : List Stp} (h : Reads w B 3 A n (stps ss)) (hk : k < n) :
    ∃ ad s, A = some ad ∧ ad.block < B ∧ ss[k]? = some s ∧ StpAt w ad k s := by
  obtain ⟨ad, rfl, hb, hc⟩ := h.2 (by omega)
  have hl := h.stpLen
  have hs : ss[k]? = some ss[k] := List.getElem?_eq_getElem (by omega)
  obtain ⟨h0, h1, h2⟩ := stps_get hs
  refine ⟨ad, ss[k], rfl, hb, hs, hc _ _ h0, ?_, ?_⟩
  · rw [addr_field' _ _ _ (by omega)]; exact hc _ _ h1
  · rw [addr_field' _ _ _ (by omega)]; exact hc _ _ h2
/-- it stays so in every world that keeps what lies below B -/
theorem Reads.stpKept {w : World} {B n k : Nat} {A : Option Addr} {ss : List Stp} (h : Reads w B 3 A n (stps ss)) (hk : k < n) :
    ∃ ad s, A = some ad ∧ ss[k]? = some s ∧ ∀ W, Below B w W → StpAt W ad k s := by
  obtain ⟨ad, s, rfl, hb, hs, _⟩ := h.stp hk
  refine ⟨ad, s, rfl, hs, fun W hW => ?_⟩
  obtain ⟨ad', s', e, _, hs', hc⟩ := (h.below hW).stp hk
  obtain rfl : ad = ad' := by injection e
  obtain rfl : s = s' := by rw [hs] at hs'; injection hs'
  exact hc
theorem Reads.stpCut {w : World} {B n k cap : Nat} {A : Option Addr} {ss : List Stp} (h : Reads w B 3 A n (stps ss)) (hk : k ≤ n) (hc : n ≤ cap) :
    Reads w B 3 (if cap = k then A else A.map (·.add (k * 3))) (n - k) (stps (ss.drop k)) := by
  rw [← stps_drop]; exact h.cut hk hc

theorem info_stp : (Try.prog.info? 98).map (fun i => (i.zero, i.size, i.bytes)) = some (some (.agg #[.int .i64 0, .int .i64 0, .int .i64 0]), 3, 24) := by kernel_rfl
/-- what a row of n elements holds when the first k have been copied -/
def partStp (ss : List Stp) (n k : Nat) : Array Value := (stps (ss.take k) ++ List.replicate ((n - k) * 3) (Value.int .i64 0)).toArray
theorem partStp_zero (ss : List Stp) (n : Nat) : partStp ss n 0 = madeCells #[.int .i64 0, .int .i64 0, .int .i64 0] (n * 3) := by
  apply Array.ext'
  simp only [partStp, List.take_zero, stps, List.flatMap_nil, List.nil_append, Nat.sub_zero]
  apply List.ext_getElem?
  intro j
  by_cases hj : j < n * 3
  · have h3 : j % 3 = 0 ∨ j % 3 = 1 ∨ j % 3 = 2 := by omega
    simp [madeCells, hj]
    rcases h3 with h | h | h <;> simp [h]
  · simp [madeCells, hj]
theorem partStp_get {ss : List Stp} {n k j : Nat} (hl : ss.length = n) (hk : k < n) (hj : j < 3) : (partStp ss n k)[k * 3 + j]? = some (.int .i64 0) := by
  simp only [partStp, List.getElem?_toArray]
  have : (stps (ss.take k)).length = k * 3 := by rw [stps_len, List.length_take]; omega
  rw [List.getElem?_append_right (by omega), this, List.getElem?_replicate, if_pos (by omega)]
theorem partStp_set {ss : List Stp} {n k : Nat} {s : Stp} (hl : ss.length = n) (hk : k < n) (hs : ss[k]? = some s) :
    ((((partStp ss n k).setIfInBounds (k * 3) (.int .i64 s.cell)).setIfInBounds (k * 3 + 1) (.int .i64 s.dir)).setIfInBounds (k * 3 + 2) (.int .i64 s.slope)) = partStp ss n (k + 1) := by
  simp only [partStp, List.setIfInBounds_toArray]
  congr 1
  have hlen : (stps (ss.take k)).length = k * 3 := by rw [stps_len, List.length_take]; omega
  have e : (n - k) * 3 = (n - (k + 1)) * 3 + 1 + 1 + 1 := by omega
  have ht : ss.take (k + 1) = ss.take k ++ [s] := by rw [List.take_add_one, hs]; rfl
  rw [ht, stps_app, e, List.replicate_succ, List.replicate_succ, List.replicate_succ]
  rw [List.set_append_right _ _ (by omega), List.set_append_right _ _ (by omega), List.set_append_right _ _ (by omega), hlen,
    show k * 3 - k * 3 = 0 from by omega, show k * 3 + 1 - k * 3 = 1 from by omega, show k * 3 + 2 - k * 3 = 2 from by omega]
  simp [stps, Stp.cells]
theorem partStp_all (ss : List Stp) (n : Nat) (hl : ss.length = n) : partStp ss n n = (stps ss).toArray := by
  simp [partStp, List.take_of_length_le (show ss.length ≤ n by omega)]
end Go.Proofs.Ytihjlmlhipngmaa
