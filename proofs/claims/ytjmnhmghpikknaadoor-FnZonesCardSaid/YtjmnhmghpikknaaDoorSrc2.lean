/- More about the source of choices: what keeps it, among, blocks of the call's own. -/
import Derived.Test.YtjmnhmghpikknaaDoorSrc
namespace Go.Proofs.YtjmnhmghpikknaaDoor
open Go.ChangeShapes Go.WideShapes Go.ChangeAt Go.RowKit
set_option linter.unusedVariables false

theorem Only.alloc' {w w' : World} {lo hi : Nat} (h : Only lo hi w w') (o : Obj) : Only lo hi w (w'.alloc o) :=
  ⟨h.os, h.tape, h.output, Nat.le_trans h.size (by simp), fun k hk hc => (Below.heap_alloc w' o k (Nat.lt_of_lt_of_le hk h.size)).trans (h.block k hk hc)⟩
theorem Only.setNew {w w' : World} {lo hi : Nat} (h : Only lo hi w w') {p : Addr} (hp : w.heap.size ≤ p.block) (u : Value) : Only lo hi w (w'.setCell p u) :=
  ⟨h.os, h.tape, h.output, by simpa using h.size, fun k hk hc => (Below.heap_setCell w' p u k (by omega)).trans (h.block k hk hc)⟩
theorem Blk.only' {w w' : World} {g lo hi : Nat} {T : TypeId} {cs : Array Value} (h : Blk w g T cs) (ho : Only lo hi w w') (hd : g < lo ∨ hi ≤ g) : Blk w' g T cs := (ho.block g h.lt hd).trans h
theorem Src.alloc {w : World} {g M : Nat} (h : Src w g M) (o : Obj) : Src (w.alloc o) g M := h.below ((Below.refl _ _).alloc (Nat.le_refl _) o) h.lt
theorem Src.set {w : World} {g M : Nat} (h : Src w g M) {p : Addr} (hp : g < p.block) (u : Value) : Src (w.setCell p u) g M :=
  h.below ((Below.refl (g + 1) w).setCell (by omega) u) (by omega)
def AmongPost (w : World) (g M : Nat) (zs : List Int) (e : Ending) (w' : World) : Prop :=
  ∃ v : Int, e = .returned (.int .i64 v) ∧ v ∈ zs ∧ Src w' g M ∧ Only g (g + 1) w w'
theorem among_c (g gl M n : Nat) (zs : List Int) (w : World) (h : Src w g M) (hk : Blk w gl 2 (ints zs).toArray) (hne : gl ≠ g) (hl : zs.length = n) (hn : 0 < n) (hn2 : n ≤ 1000000000) (hM : M ≤ 500000000000000000) :
    Calls Tryd.prog 16 #[.pointer (some ⟨g, 0, none⟩), .slice (some ⟨gl, 0, none⟩) n n] w (AmongPost w g (M + 2) zs) := by
  have HS := Lib.hid h; clear h
  have HK := Lib.hid hk; clear hk
  have HL := Lib.hid hl; clear hl
  go_enter Tryd.func16, Tryd.ntmps16
  go_wp2_with fail
  refine (pick_c g M n w HS.out (by omega) (by omega)).mono ?_
  rintro e w1 ⟨v, rfl, hv0, hv1, S1, Y1⟩
  obtain ⟨j, rfl⟩ : ∃ j : Nat, v = j := ⟨v.toNat, by omega⟩
  have hj : j < n := by omega
  have K1 := HK.out.only' Y1 (by omega)
  have hz : zs[j]? = some (zs[j]'(by rw [HL.out]; omega)) := List.getElem?_eq_getElem _
  have c1 : w1.cell? ⟨gl, j, none⟩ = some (.int .i64 (zs[j]'(by rw [HL.out]; omega))) := (K1.cell j).trans (by simp [ints, hz])
  have hm : zs[j]'(by rw [HL.out]; omega) ∈ zs := List.getElem_mem _
  generalize zs[j]'(by rw [HL.out]; omega) = z at c1 hm
  have S1' := Lib.hid S1
  have Y1' := Lib.hid Y1
  clear S1 Y1 K1 hz hv1
  go_wp2
  go_ret
  exact ⟨z, rfl, hm, S1'.out, Y1'.out⟩
end Go.Proofs.YtjmnhmghpikknaaDoor
