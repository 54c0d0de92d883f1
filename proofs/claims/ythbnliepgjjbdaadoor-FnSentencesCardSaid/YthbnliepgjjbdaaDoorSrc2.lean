/- More about the source of choices: what keeps it, among, blocks of the call's own. -/
import Derived.Test.YthbnliepgjjbdaaDoorSrc
namespace Go.Proofs.YthbnliepgjjbdaaDoor
open Go.ChangeShapes Go.WideShapes Go.ChangeAt Go.RowKit
set_option linter.unusedVariables false

theorem Only.alloc' {w w' : World} {lo hi : Nat} (h : Only lo hi w w') (o : Obj) : Only lo hi w (w'.alloc o) :=
  ⟨h.os, h.tape, h.output, Nat.le_trans h.size (by simp), fun k hk hc => (Below.heap_alloc w' o k (Nat.lt_of_lt_of_le hk h.size)).trans (h.block k hk hc)⟩
theorem Only.setNew {w w' : World} {lo hi : Nat} (h : Only lo hi w w') {p : Addr} (hp : w.heap.size ≤ p.block) (u : Value) : Only lo hi w (w'.setCell p u) :=
  ⟨h.os, h.tape, h.output, by simpa using h.size, fun k hk hc => (Below.heap_setCell w' p u k (by omega)).trans (h.block k hk hc)⟩
theorem Blk.only' {w w' : World} {g lo hi : Nat} {T : TypeId} {cs : Array Value} (h : Blk w g T cs) (ho : Only lo hi w w') (hd : g < lo ∨ hi ≤ g) : Blk w' g T cs := (ho.block g h.lt hd).trans h
theorem Src.alloc {w : World} {g M : Nat} (h : Src w g M) (o : Obj) : Src (w.alloc o) g M := h.below ((Below.refl _ _).alloc (Nat.le_refl _) o) h.lt
theorem Src.set {w : World} {g M : Nat} (h : Src w g M) {p : Addr} (hp : g < p.block) (u : Value) : Src (w.setCell p u) g M :=
  h.below ((Below.refl (g + 1) w).setCell (by omega) u) (by omega)
end Go.Proofs.YthbnliepgjjbdaaDoor
