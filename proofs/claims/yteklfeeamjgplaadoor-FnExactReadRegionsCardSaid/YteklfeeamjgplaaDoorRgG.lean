/- Values that hang on the data alone; SameRegions in that form. -/
import Derived.Test.YteklfeeamjgplaaDoorRgF
namespace Go.Proofs.YteklfeeamjgplaaDoor
open Go.ChangeShapes Go.WideShapes Go.ChangeAt Go.RowKit
set_option linter.unusedVariables false

abbrev Dat := ByteArray × Int × List ByteArray
theorem dat_mem {ps rs : List Rg} (e : ps.map Rg.dat = rs.map Rg.dat) {x : Rg} (h : x ∈ ps) : ∃ y, y ∈ rs ∧ y.dat = x.dat := by
  have : x.dat ∈ rs.map Rg.dat := by rw [← e]; exact List.mem_map_of_mem h
  obtain ⟨y, hy, e⟩ := List.mem_map.1 this
  exact ⟨y, hy, e⟩
theorem own_fit {w w' : World} {lo hi n B n' M : Nat} {v : Value} {A' : Option Addr} {ps rs : List Rg} (h : OwnRegs w lo hi v n ps) (hr : Regs w' B A' n' rs) (e : ps.map Rg.dat = rs.map Rg.dat) (hx : ∀ x ∈ rs, x.n ≤ M) : ∀ x ∈ ps, x.n ≤ M := by
  intro x hxp
  obtain ⟨y, hy, e2⟩ := dat_mem e hxp
  have h1 : x.near.length = x.n := (Own.reads (h.inn x hxp)).strLen
  have h2 : y.near.length = y.n := Reads.strLen (hr.near y hy)
  have h3 : y.near = x.near := congrArg (fun q => q.2.2) e2
  have h4 := hx y hy
  rw [h3] at h2
  omega
def sameD (a b : Dat) : Bool := decide (a.2.1 = b.2.1) && (eqS a.1 b.1 && eqL a.2.2 b.2.2)
def placeD (a b : Dat) : Bool := eqS a.1 b.1 && eqL a.2.2 b.2.2
def pairsD (p : Dat → Dat → Bool) (l m : List Dat) : Bool := decide (l.length = m.length) && (l.zip m).all fun q => p q.1 q.2
theorem allPairs_dat (p : Dat → Dat → Bool) (rs ss : List Rg) : allPairs (fun x y => p x.dat y.dat) rs ss = pairsD p (rs.map Rg.dat) (ss.map Rg.dat) := by
  unfold allPairs pairsD
  rw [List.length_map, List.length_map, List.zip_map, List.all_map]
  rfl
def sameRegionsV (l m : List Dat) : Bool := pairsD sameD l m
theorem sameV (rs ss : List Rg) : allPairs sameB rs ss = sameRegionsV (rs.map Rg.dat) (ss.map Rg.dat) := allPairs_dat sameD rs ss
end Go.Proofs.YteklfeeamjgplaaDoor
