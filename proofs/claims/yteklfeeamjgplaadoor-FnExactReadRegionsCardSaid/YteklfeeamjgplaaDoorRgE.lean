/- Equal lists of texts, equal places, SameRegions by both. -/
import Derived.Test.YteklfeeamjgplaaDoorRgD
import Derived.Shelf.Abstract
namespace Go.Proofs.YteklfeeamjgplaaDoor
open Go.ChangeShapes Go.WideShapes Go.ChangeAt Go.RowKit
set_option linter.unusedVariables false

def tl (l : List ByteArray) : List (List UInt8) := l.map ByteArray.toList
def eqL (l m : List ByteArray) : Bool := decide (tl l = tl m)
def eqS (a b : ByteArray) : Bool := a.toList == b.toList
theorem tl_len (l : List ByteArray) : (tl l).length = l.length := by simp [tl]
theorem tl_take_snoc {l : List ByteArray} {k : Nat} {s : ByteArray} (h : l[k]? = some s) : (tl l).take (k + 1) = (tl l).take k ++ [s.toList] := by
  rw [List.take_add_one]; simp [tl, h]
theorem eqL_ne {l m : List ByteArray} {k : Nat} {a b : ByteArray} (h : l[k]? = some a) (h' : m[k]? = some b) (hne : a.toList ≠ b.toList) : eqL l m = false := by
  simp only [eqL, decide_eq_false_iff_not]
  intro e
  have h1 : (tl l)[k]? = some a.toList := by simp [tl, h]
  have h2 : (tl m)[k]? = some b.toList := by simp [tl, h']
  rw [e, h2] at h1
  injection h1 with h1
  exact hne h1.symm
theorem eqL_len {l m : List ByteArray} (h : l.length ≠ m.length) : eqL l m = false := by
  simp only [eqL, decide_eq_false_iff_not]
  intro e
  have := congrArg List.length e
  rw [tl_len, tl_len] at this; exact h this
def placeB (x y : Rg) : Bool := eqS x.id y.id && eqL x.near y.near
def sameB (x y : Rg) : Bool := decide (x.lv = y.lv) && placeB x y
/-- the first k pairs pass p -/
def allPairs (p : Rg → Rg → Bool) (rs ss : List Rg) : Bool := decide (rs.length = ss.length) && (rs.zip ss).all fun q => p q.1 q.2
theorem allPairs_take {p : Rg → Rg → Bool} {rs ss : List Rg} {k : Nat} {x y : Rg} (h1 : rs[k]? = some x) (h2 : ss[k]? = some y) : ((rs.zip ss).take (k + 1)).all (fun q => p q.1 q.2) = (((rs.zip ss).take k).all (fun q => p q.1 q.2) && p x y) := by
  rw [List.take_add_one, List.all_append]
  have : (rs.zip ss)[k]? = some (x, y) := by rw [List.getElem?_zip_eq_some]; exact ⟨h1, h2⟩
  rw [this]; simp
theorem allPairs_no {p : Rg → Rg → Bool} {rs ss : List Rg} {k : Nat} {x y : Rg} (h1 : rs[k]? = some x) (h2 : ss[k]? = some y) (h : p x y = false) : allPairs p rs ss = false := by
  have : (rs.zip ss)[k]? = some (x, y) := by rw [List.getElem?_zip_eq_some]; exact ⟨h1, h2⟩
  have e : ((rs.zip ss).all fun q => p q.1 q.2) = false := List.all_eq_false.2 ⟨(x, y), List.mem_of_getElem? this, by simp [h]⟩
  rw [allPairs, e, Bool.and_false]
def ClosRR (g : Nat) (lb : Array Value) (p : Rg → Rg → Bool) (w : World) : Prop :=
  Enters Tryd.prog g ∧ ∀ (x y : Rg) (BX BY : Nat) (W : World), Below w.heap.size w W → Near W BX x → Near W BY y → BX ≤ W.heap.size → BY ≤ W.heap.size → x.n ≤ 1152921504606846976 → y.n ≤ 1152921504606846976 → Calls Tryd.prog g (#[x.val, y.val] ++ lb) W fun e W' => e = .returned (.bool (p x y)) ∧ Below W.heap.size W W'
end Go.Proofs.YteklfeeamjgplaaDoor
