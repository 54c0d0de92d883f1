/- The laws' own helpers over lists of integers: copying, comparing, marking, holding. -/
import Derived.Test.YtjmnhmghpikknaaDoorMem
import Derived.Deep.LoopGhost
namespace Go.Proofs.YtjmnhmghpikknaaDoor
open Go.ChangeShapes Go.WideShapes Go.ChangeAt Go.RowKit
set_option linter.unusedVariables false

def ints (zs : List Int) : List Value := zs.map (Value.int .i64)

theorem drop_cons_get' {α : Type} {l : List α} {k : Nat} {z : α} (h : l[k]? = some z) : l = l.take k ++ z :: l.drop (k + 1) := by
  obtain ⟨hk, rfl⟩ := List.getElem?_eq_some_iff.1 h
  rw [← List.drop_eq_getElem_cons hk, List.take_append_drop]
theorem ints_len (zs : List Int) : (ints zs).length = zs.length := by simp [ints]
theorem ints_app (a b : List Int) : ints (a ++ b) = ints a ++ ints b := by simp [ints]
theorem ints_get {zs : List Int} {k : Nat} {u : Value} (h : (ints zs)[k]? = some u) : ∃ z, zs[k]? = some z ∧ u = .int .i64 z := by
  simp only [ints, List.getElem?_map, Option.map_eq_some_iff] at h
  obtain ⟨z, hz, rfl⟩ := h
  exact ⟨z, hz, rfl⟩

theorem Reads.len {w : World} {B n : Nat} {A : Option Addr} {zs : List Int} (h : Reads w B 1 A n (ints zs)) : zs.length = n := by
  have := h.1
  simpa [ints] using this

theorem Reads.int {w : World} {B n k : Nat} {A : Option Addr} {zs : List Int} (h : Reads w B 1 A n (ints zs)) (hk : k < n) :
    ∃ ad z, A = some ad ∧ ad.block < B ∧ zs[k]? = some z ∧ w.cell? (ad.add k) = some (.int .i64 z) := by
  obtain ⟨ad, u, h1, h2, h3, h4⟩ := h.at_ hk
  obtain ⟨z, hz, rfl⟩ := ints_get h3
  exact ⟨ad, z, h1, h2, hz, h4⟩

def eqB (zs ys : List Int) : Bool := decide (zs = ys)
theorem eqB_self (zs : List Int) : eqB zs zs = true := by simp [eqB]
theorem take_snoc_int {zs : List Int} {k : Nat} {z : Int} (h : zs[k]? = some z) : zs.take (k + 1) = zs.take k ++ [z] := by
  rw [List.take_add_one, h]; rfl
theorem eqB_ne {zs ys : List Int} {k : Nat} {z y : Int} (h : zs[k]? = some z) (h' : ys[k]? = some y) (hne : z ≠ y) : eqB zs ys = false := by
  simp only [eqB, decide_eq_false_iff_not]
  rintro rfl
  rw [h] at h'
  exact hne (by injection h')


def heldFrom (k : Int) : List Int → Int
  | [] => k
  | z :: r => if z = k then heldFrom (k + 1) r else -1
/-- the marks k, k + 1, .. (n of them) -/
def marks (k : Int) : Nat → List Int
  | 0 => []
  | n + 1 => k :: marks (k + 1) n
theorem marks_length (k : Int) (n : Nat) : (marks k n).length = n := by
  induction n generalizing k with
  | zero => rfl
  | succ n ih => simp [marks, ih]
theorem heldFrom_marks (k : Int) (n : Nat) : heldFrom k (marks k n) = k + n := by
  induction n generalizing k with
  | zero => simp [marks, heldFrom]
  | succ n ih => simp [marks, heldFrom, ih]; omega
theorem marks_get (k : Int) (n i : Nat) (h : i < n) : (marks k n)[i]? = some (k + i) := by
  induction n generalizing k i with
  | zero => omega
  | succ n ih =>
    cases i with
    | zero => simp [marks]
    | succ i => simp only [marks, List.getElem?_cons_succ]; rw [ih (k + 1) i (by omega)]; congr 1; omega



/-- what a row of n integers holds when the first k have been copied -/
def partRow (zs : List Int) (n k : Nat) : Array Value := (ints (zs.take k) ++ List.replicate (n - k) (Value.int .i64 0)).toArray
theorem partRow_get {zs : List Int} {n k : Nat} (hl : zs.length = n) (hk : k < n) : (partRow zs n k)[k]? = some (.int .i64 0) := by
  simp only [partRow, List.getElem?_toArray]
  rw [List.getElem?_append_right (by simp [ints_len]; omega)]
  simp [List.getElem?_replicate, ints_len]
  omega
theorem partRow_set {zs : List Int} {n k : Nat} {z : Int} (hl : zs.length = n) (hk : k < n) (hz : zs[k]? = some z) : (partRow zs n k).setIfInBounds k (.int .i64 z) = partRow zs n (k + 1) := by
  simp only [partRow, List.setIfInBounds_toArray]
  congr 1
  have e : n - k = (n - (k + 1)) + 1 := by omega
  rw [take_snoc_int hz, e, List.replicate_succ]
  simp only [ints, List.map_append, List.map_cons, List.map_nil, List.append_assoc, List.singleton_append]
  rw [List.set_append_right _ _ (by simp; omega)]
  congr 1
  have : k - (List.map (Value.int .i64) (List.take k zs)).length = 0 := by simp; omega
  rw [this]; rfl
theorem partRow_zero (zs : List Int) (n : Nat) : partRow zs n 0 = madeCells #[.int .i64 0] n := by
  apply Array.ext'
  rw [toList_madeCells_one]
  simp [partRow, ints]
theorem partRow_all (zs : List Int) (n : Nat) (hl : zs.length = n) : partRow zs n n = (ints zs).toArray := by
  simp [partRow, List.take_of_length_le (show zs.length ≤ n by omega)]

theorem info_i64 : (Tryd.prog.info? 2).map (fun i => (i.zero, i.size, i.bytes)) = some (some (.int .i64 0), 1, 8) := by kernel_rfl


end Go.Proofs.YtjmnhmghpikknaaDoor
