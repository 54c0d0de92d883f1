/- Structs Grid (int64s and one []int64): words and the laws' own helpers. (Written by wip/tools/structv.py.) -/
import Derived.Test.YtaoomildopmclaaOwn
import Derived.Test.YtaoomildopmclaaOpen
import Derived.Deep.Fields
import Derived.Deep.DeepCutAuto
namespace Go.Proofs.Ytaoomildopmclaa
open Go.ChangeShapes Go.WideShapes Go.ChangeAt Go.RowKit Go.Deep
set_option linter.unusedVariables false

structure Gr where
  rows : Int
  cols : Int
  size : Int
  hs : List Int
theorem Own.setOut {w : World} {lo hi s n : Nat} {T : TypeId} {v : Value} {xs : List Value} (h : Own w lo hi T s v n xs) {p : Addr} (hp : p.block < lo) (u : Value) : Own (w.setCell p u) lo hi T s v n xs :=
  h.only (lo' := p.block) (hi' := p.block + 1) ⟨rfl, rfl, rfl, by simp, fun k hk hc => Below.heap_setCell _ _ _ _ (by omega)⟩ (.inr hp)
theorem Only.allocd {w w' : World} {lo hi : Nat} (h : Only lo hi w w') (o : Obj) : Only lo hi w (w'.alloc o) :=
  ⟨h.os, h.tape, h.output, Nat.le_trans h.size (by simp), fun k hk hc => (Below.heap_alloc w' o k (Nat.lt_of_lt_of_le hk h.size)).trans (h.block k hk hc)⟩
def Gr.cells (g : Gr) (A : Option Addr) (n c : Nat) : Array Value := #[.int .i64 g.rows, .int .i64 g.cols, .int .i64 g.size, .slice A n c]
def Gr.val (g : Gr) (A : Option Addr) (n c : Nat) : Value := .agg (g.cells A n c)
theorem szInt64S_c' (A : Option Addr) (n c : Nat) (left : Int) (w : World) (h0 : 0 ≤ left) (h1 : left ≤ 1048576) (hn : n ≤ 9223372036854775807) :
    Calls Try.prog 58 #[.slice A n c, .int .i64 left] w fun e w' => e = .returned (.int .i64 (if left < n then -1 else left - n)) ∧ w = w' := by
  by_cases h : left < (n : Int)
  · rw [if_pos h]
    go_enter Try.func58, Try.ntmps58
    go_wp2
    go_ret
    exact ⟨rfl, rfl⟩
  · rw [if_neg h]
    go_enter Try.func58, Try.ntmps58
    go_wp2
    go_ret
    exact ⟨rfl, rfl⟩
theorem szGrid_c (g : Gr) (A : Option Addr) (n c : Nat) (left : Int) (w : World) (h0 : 0 ≤ left) (h1 : left ≤ 1048576) (hn : n ≤ 9223372036854775807) :
    Calls Try.prog 23 #[g.val A n c, .int .i64 left] w fun e w' => e = .returned (.int .i64 (if left < n then -1 else left - n)) ∧ Below w.heap.size w w' := by
  have hs := fun W => szInt64S_c' A n c left W h0 h1 hn
  obtain ⟨rv, hrv⟩ : ∃ rv : Int, rv = (if left < (n : Int) then -1 else left - n) := ⟨_, rfl⟩
  have hr2 : rv = -1 ∨ 0 ≤ rv := by rw [hrv]; split <;> omega
  rw [← hrv] at hs ⊢
  clear hrv
  have HS := Lib.hid hs; clear hs
  obtain ⟨x0, x1, x2, hs'⟩ := g
  simp only [Gr.val, Gr.cells]
  rcases hr2 with rfl | h
  all_goals
    go_enter Try.func23, Try.ntmps23
    go_wp2_with fail
    refine (HS.out _).mono ?_
    rintro e w' ⟨rfl, rfl⟩
    go_wp2
    go_ret
    exact ⟨rfl, by go_grown⟩
def ToGrPost (g : Gr) (n : Nat) (w : World) (e : Ending) (w' : World) : Prop :=
  ∃ D d, e = .returned (g.val D n d) ∧ Own w' w.heap.size w'.heap.size 2 1 (.slice D n d) n (ints g.hs) ∧ Below w.heap.size w w'
set_option maxHeartbeats 2000000 in
theorem toGrid_c (g : Gr) (A : Option Addr) (n c BA : Nat) (w : World) (ha : Reads w BA 1 A n (ints g.hs)) (hB : BA ≤ w.heap.size) (hn : n ≤ 1048576) :
    Calls Try.prog 25 #[g.val A n c] w (ToGrPost g n w) := by
  have HA := Lib.hid ha; clear ha
  obtain ⟨x0, x1, x2, hs⟩ := g
  simp only [Gr.val, Gr.cells] at *
  go_enter Try.func25, Try.ntmps25
  go_upto_region 5 with (fail)
  obtain ⟨W, hW⟩ : ∃ W, W = ((w.alloc (.cells #[.int .i64 x0, .int .i64 x1, .int .i64 x2, .slice A n c] 41)).alloc (.cells #[.int .i64 0, .int .i64 0, .int .i64 0, .slice none 0 0] 26)).alloc (.cells #[.int .i64 x0, .int .i64 x1, .int .i64 x2, .slice none 0 0] 26) := ⟨_, rfl⟩
  rw [← hW]
  have hsz : W.heap.size = w.heap.size + 1 + 1 + 1 := by rw [hW]; simp
  have K0 : Blk W w.heap.size 41 #[.int .i64 x0, .int .i64 x1, .int .i64 x2, .slice A n c] := by
    rw [hW]; exact ((Blk.new w 41 #[.int .i64 x0, .int .i64 x1, .int .i64 x2, .slice A n c]).alloc _).alloc _
  have K1 : Blk W (w.heap.size + 1) 26 #[.int .i64 0, .int .i64 0, .int .i64 0, .slice none 0 0] := by
    rw [hW]; exact (by have h := (Blk.new (w.alloc (.cells #[.int .i64 x0, .int .i64 x1, .int .i64 x2, .slice A n c] 41)) 26 #[.int .i64 0, .int .i64 0, .int .i64 0, .slice none 0 0]).alloc (.cells #[.int .i64 x0, .int .i64 x1, .int .i64 x2, .slice none 0 0] 26); simpa using h)
  have K2 : Blk W (w.heap.size + 1 + 1) 26 #[.int .i64 x0, .int .i64 x1, .int .i64 x2, .slice none 0 0] := by
    rw [hW]; exact (by have h := Blk.new ((w.alloc (.cells #[.int .i64 x0, .int .i64 x1, .int .i64 x2, .slice A n c] 41)).alloc (.cells #[.int .i64 0, .int .i64 0, .int .i64 0, .slice none 0 0] 26)) 26 #[.int .i64 x0, .int .i64 x1, .int .i64 x2, .slice none 0 0]; simpa using h)
  have T0 : Below w.heap.size w W := by rw [hW]; exact ((((Below.refl _ _).alloc (Nat.le_refl _) _).alloc (by simp) _).alloc (by simp; omega) _)
  clear hW
  have HK0 := Lib.hid K0
  have HK1 := Lib.hid K1
  have HK2 := Lib.hid K2
  have HT0 := Lib.hid T0
  have x3 : W.cell? ⟨w.heap.size, 3, none⟩ = some (.slice A n c) := K0.cell 3
  clear K0 K1 K2 T0
  go_wp2_with fail
  refine (toInt64S_own A n c BA hs W (HA.out.below (HT0.out.mono hB)) (by omega) hn).mono ?_
  rintro e W1 ⟨D, d, rfl, O1, B1⟩
  have HK1' := Lib.hid (HK1.out.below B1 (by omega))
  have HK2' := Lib.hid (HK2.out.below B1 (by omega))
  have HO := Lib.hid O1
  have HT1 := Lib.hid (HT0.out.trans (B1.mono (by omega)))
  have hs1 := B1.size
  clear B1 O1 x3 HK0 HK1 HK2 HT0
  have y0 : W1.cell? ⟨w.heap.size + 1 + 1, 0, none⟩ = some (.int .i64 x0) := HK2'.out.cell 0
  have y1 : W1.cell? ⟨w.heap.size + 1 + 1, 1, none⟩ = some (.int .i64 x1) := HK2'.out.cell 1
  have y2 : W1.cell? ⟨w.heap.size + 1 + 1, 2, none⟩ = some (.int .i64 x2) := HK2'.out.cell 2
  have y3 : W1.cell? ⟨w.heap.size + 1 + 1, 3, none⟩ = some (.slice none 0 0) := HK2'.out.cell 3
  have f3 := HK2'.out.frozen 3
  have r0 : W1.cell? ⟨w.heap.size + 1, 0, none⟩ = some (.int .i64 0) := HK1'.out.cell 0
  have s0 := HK1'.out.frozen 0
  have r1 : W1.cell? ⟨w.heap.size + 1, 1, none⟩ = some (.int .i64 0) := HK1'.out.cell 1
  have s1 := HK1'.out.frozen 1
  have r2 : W1.cell? ⟨w.heap.size + 1, 2, none⟩ = some (.int .i64 0) := HK1'.out.cell 2
  have s2 := HK1'.out.frozen 2
  have r3 : W1.cell? ⟨w.heap.size + 1, 3, none⟩ = some (.slice none 0 0) := HK1'.out.cell 3
  have s3 := HK1'.out.frozen 3
  go_wp2
  refine bodyPost_ret (v := .agg #[.int .i64 x0, .int .i64 x1, .int .i64 x2, .slice D n d]) (by simp [results, Try.results25, go_sem, r0, r1, r2, r3]) rfl ?_
  exact ⟨D, d, rfl, (((((HO.out.setOut (p := ⟨w.heap.size + 1 + 1, 3, none⟩) (by show w.heap.size + 1 + 1 < W.heap.size; omega) _).setOut (p := ⟨w.heap.size + 1, 0, none⟩) (by show w.heap.size + 1 < W.heap.size; omega) _).setOut (p := ⟨w.heap.size + 1, 1, none⟩) (by show w.heap.size + 1 < W.heap.size; omega) _).setOut (p := ⟨w.heap.size + 1, 2, none⟩) (by show w.heap.size + 1 < W.heap.size; omega) _).setOut (p := ⟨w.heap.size + 1, 3, none⟩) (by show w.heap.size + 1 < W.heap.size; omega) _).widen (by omega) (by simp), (((((HT1.out.setCell (p := ⟨w.heap.size + 1 + 1, 3, none⟩) (by show w.heap.size ≤ w.heap.size + 1 + 1; omega) _).setCell (p := ⟨w.heap.size + 1, 0, none⟩) (by show w.heap.size ≤ w.heap.size + 1; omega) _).setCell (p := ⟨w.heap.size + 1, 1, none⟩) (by show w.heap.size ≤ w.heap.size + 1; omega) _).setCell (p := ⟨w.heap.size + 1, 2, none⟩) (by show w.heap.size ≤ w.heap.size + 1; omega) _).setCell (p := ⟨w.heap.size + 1, 3, none⟩) (by show w.heap.size ≤ w.heap.size + 1; omega) _)⟩
set_option maxHeartbeats 1000000 in
theorem eqGrid_same (g : Gr) (A D : Option Addr) (n m c d BA BD : Nat) (w : World) (ha : Reads w BA 1 A n (ints g.hs)) (hd : Reads w BD 1 D m (ints g.hs)) (hA : BA ≤ w.heap.size) (hD : BD ≤ w.heap.size) (hn : n ≤ 1152921504606846976) :
    Calls Try.prog 27 #[g.val A n c, g.val D m d] w fun e w' => e = .returned (.bool true) ∧ Below w.heap.size w w' := by
  have HE := Lib.hid fun W (hW : Below w.heap.size w W) => eqInt64S_same A D n m c d BA BD g.hs W (ha.below (hW.mono hA)) (hd.below (hW.mono hD)) hn
  clear ha hd
  obtain ⟨x0, x1, x2, hs⟩ := g
  simp only [Gr.val, Gr.cells] at *
  go_enter Try.func27, Try.ntmps27
  go_wp2_with fail
  refine (HE.out _ (((Below.refl _ _).alloc (Nat.le_refl _) _).alloc (by simp) _)).mono ?_
  rintro e w1 ⟨rfl, B1⟩
  have HB := Lib.hid B1; clear B1
  go_wp2
  go_ret
  exact ⟨rfl, (((Below.refl _ _).alloc (Nat.le_refl _) _).alloc (by simp) _).trans (HB.out.mono (by simp; omega))⟩
theorem markGrid_c (g : Gr) (A : Option Addr) (n c lo hi : Nat) (xs : List Value) (k : Int) (w : World) (h : Own w lo hi 2 1 (.slice A n c) n xs) (hh : hi ≤ w.heap.size) (hn : n ≤ 1152921504606846976) (hk0 : 0 ≤ k) (hk1 : k ≤ 1152921504606846976) :
    Calls Try.prog 31 #[g.val A n c, .int .i64 k] w fun e w' => e = .returned (.int .i64 (k + n)) ∧ Own w' lo hi 2 1 (.slice A n c) n (ints (marks k n)) ∧ Only lo hi w w' := by
  have HM := Lib.hid fun W (hW : Own W lo hi 2 1 (.slice A n c) n xs) => markInt64S_c A n c lo hi xs k W hW hn hk0 hk1
  have HO := Lib.hid h; clear h
  obtain ⟨x0, x1, x2, hs⟩ := g
  simp only [Gr.val, Gr.cells] at *
  have HO1 := Lib.hid (HO.out.below ((Below.refl w.heap.size w).alloc (Nat.le_refl _) (.cells #[.int .i64 x0, .int .i64 x1, .int .i64 x2, .slice A n c] 26)) hh)
  go_enter Try.func31, Try.ntmps31
  go_wp2_with fail
  refine (HM.out _ HO1.out).mono ?_
  rintro e w1 ⟨rfl, O1, Y1⟩
  have HO2 := Lib.hid O1
  have HY := Lib.hid Y1
  clear O1 Y1
  go_wp2
  go_ret
  exact ⟨rfl, HO2.out, (Only.allocd (Only.refl lo hi w) _).trans HY.out⟩
theorem heldGrid_c (g : Gr) (A : Option Addr) (n c BA : Nat) (k : Int) (w : World) (ha : Reads w BA 1 A n (ints (marks k n))) (hB : BA ≤ w.heap.size) (hn : n ≤ 1152921504606846976) (hk0 : 0 ≤ k) (hk1 : k ≤ 1152921504606846976) :
    Calls Try.prog 32 #[g.val A n c, .int .i64 k] w fun e w' => e = .returned (.int .i64 (k + n)) ∧ Below w.heap.size w w' := by
  have HM := Lib.hid fun W (hW : Below w.heap.size w W) => heldInt64S_c A n c BA k W (ha.below (hW.mono hB)) hn hk0 hk1
  clear ha
  obtain ⟨x0, x1, x2, hs⟩ := g
  simp only [Gr.val, Gr.cells] at *
  go_enter Try.func32, Try.ntmps32
  go_wp2_with fail
  refine (HM.out _ ((Below.refl _ _).alloc (Nat.le_refl _) _)).mono ?_
  rintro e w1 ⟨rfl, B1⟩
  have HB := Lib.hid B1; clear B1
  go_wp2
  go_ret
  exact ⟨rfl, ((Below.refl _ _).alloc (Nat.le_refl _) _).trans (HB.out.mono (by simp))⟩
def wit_grv : Value := .agg #[.int .i64 0, .int .i64 0, .int .i64 0, .slice none 0 0]
section
variable {H : Type} {enc : TypeId × Value → H} {w : World} {base : Nat} {spare : Nat → Bool} {held : Bool}
set_option maxRecDepth 1000000 in
theorem open_grv {v : Value} {d : DataW H} {p : List MemPlace} {r : Reach} {b0 : Nat} (hv : Value.okWide Try.prog w r b0 41 v) (h : DataW.Trod enc Try.prog w base spare held 41 v d p) :
    ∃ x : Gr × Option Addr × Nat × Nat, v = x.1.val x.2.1 x.2.2.1 x.2.2.2 ∧ Reads w w.heap.size 1 x.2.1 x.2.2.1 (ints x.1.hs) ∧ x.2.2.1 ≤ x.2.2.2 ∧ x.2.2.1 ≤ 9223372036854775807 := by
  obtain ⟨c0, c1, c2, c3, y0, y1, y2, y3, m, rfl, -, -, h0, h1, h2, h3⟩ := Go.Joins.open_agg4 Try.underlying41 (by kernel_rfl) (by kernel_rfl) hv h
  obtain ⟨a0, e0, -, w0⟩ := DataW.trod_int Try.underlying2 h0
  obtain ⟨a1, e1, -, w1⟩ := DataW.trod_int Try.underlying2 h1
  obtain ⟨a2, e2, -, w2⟩ := DataW.trod_int Try.underlying2 h2
  simp at e0 e1 e2
  subst e0 e1 e2
  rcases open_ints Try.underlying24 Try.underlying2 cells_i64 h3 with ⟨hcs, _⟩ | ⟨x, l, c, zs, hcs, _, hl, hm, hz, _, hcell, hwz⟩
  · simp at hcs
    subst hcs
    exact ⟨(⟨a0, a1, a2, []⟩, none, 0, 0), rfl, Reads.none_, Nat.le_refl _, by simp⟩
  · simp at hcs
    subst hcs
    have hzl : l ≤ zs.length := by rw [hz]; split <;> omega
    refine ⟨(⟨a0, a1, a2, zs.take l⟩, some x, l, c), rfl, ⟨by simp [ints]; omega, fun hn => ⟨x, rfl, ?_, fun j u hu => ?_⟩⟩, hl, by unfold maxLen at hm; simp only; omega⟩
    · have := World.block_lt_of_cell? _ _ (hcell 0 (by simp at hn; omega))
      rwa [block_of_add] at this
    · obtain ⟨z, hzj, rfl⟩ := ints_get hu
      have hj : j < l := by
        have := (List.getElem?_eq_some_iff.1 hzj).1
        simp at this; omega
      rw [hcell j (by omega)]
      simp only [List.getElem?_take, if_pos hj] at hzj
      simp [hzj]
end
end Go.Proofs.Ytaoomildopmclaa
