/- Lists of texts: the laws' own helpers (copying, comparing, measuring). -/
import Derived.Test.YtjmnhmghpikknaaDoorOwn
import Derived.Test.YtjmnhmghpikknaaDoorTa
import Derived.Test.YtjmnhmghpikknaaDoorOpen
import Derived.Deep.LoopGhost
import Derived.Deep.RegionHeld3
import Derived.Deep.Fields
import Derived.Deep.DeepCutAuto
namespace Go.Proofs.YtjmnhmghpikknaaDoor
open Go.ChangeShapes Go.WideShapes Go.ChangeAt Go.RowKit
set_option linter.unusedVariables false

def strs (l : List ByteArray) : List Value := l.map Value.string
theorem strs_len (l : List ByteArray) : (strs l).length = l.length := by simp [strs]
theorem strs_app (a b : List ByteArray) : strs (a ++ b) = strs a ++ strs b := by simp [strs]
theorem strs_get {l : List ByteArray} {k : Nat} {u : Value} (h : (strs l)[k]? = some u) : ∃ s, l[k]? = some s ∧ u = .string s := by
  simp only [strs, List.getElem?_map, Option.map_eq_some_iff] at h
  obtain ⟨z, hz, rfl⟩ := h
  exact ⟨z, hz, rfl⟩
theorem Reads.strLen {w : World} {B n : Nat} {A : Option Addr} {l : List ByteArray} (h : Reads w B 1 A n (strs l)) : l.length = n := by
  have := h.1
  simpa [strs] using this
theorem Reads.str {w : World} {B n k : Nat} {A : Option Addr} {l : List ByteArray} (h : Reads w B 1 A n (strs l)) (hk : k < n) :
    ∃ ad s, A = some ad ∧ ad.block < B ∧ l[k]? = some s ∧ w.cell? (ad.add k) = some (.string s) := by
  obtain ⟨ad, u, h1, h2, h3, h4⟩ := h.at_ hk
  obtain ⟨z, hz, rfl⟩ := strs_get h3
  exact ⟨ad, z, h1, h2, hz, h4⟩
theorem info_str : (Tryd.prog.info? 9).map (fun i => (i.zero, i.size, i.bytes)) = some (some (.string ⟨#[]⟩), 1, 16) := by kernel_rfl
theorem made_size (z : Array Value) (m : Nat) : (madeCells z m).size = m := by simp [madeCells]
theorem list_of_cells {C : Array Value} {l : List Value} (hs : C.size = l.length) (h : ∀ (i : Nat) (u : Value), l[i]? = some u → C[i]? = some u) : C.toList = l := by
  apply List.ext_getElem?
  intro i
  rw [Array.getElem?_toList]
  by_cases hi : i < l.length
  · rw [List.getElem?_eq_getElem hi]; exact h i _ (List.getElem?_eq_getElem hi)
  · rw [List.getElem?_eq_none (by omega), Array.getElem?_eq_none (by omega)]
end Go.Proofs.YtjmnhmghpikknaaDoor
