/- A grid with a raised cell: l00Own, l15Raise. -/
import Derived.Test.YtaoomildopmclaaGrW
namespace Go.Proofs.Ytaoomildopmclaa
open Go.ChangeShapes Go.WideShapes Go.ChangeAt Go.RowKit
set_option linter.unusedVariables false

set_option maxHeartbeats 2000000 in
theorem l00Own_c (A : Option Addr) (n c B : Nat) (l : List Int) (w : World) (ha : Reads w B 1 A n (ints l)) (hB : B ≤ w.heap.size) (hn : n ≤ 1048576) :
    Calls Try.prog 83 #[.slice A n c] w fun e w' => ∃ D d, e = .returned (.slice D n d) ∧ Own w' w.heap.size w'.heap.size 2 1 (.slice D n d) n (ints l) ∧ Below w.heap.size w w' := by
  have HA := Lib.hid ha
  clear ha
  have O1 : Hid ((w.alloc (.cells #[] 2)).ownsRow w.heap.size 2 1 (.slice (some ⟨w.heap.size, 0, none⟩) 0 0) 0 (ints [])) := Lib.hid (World.ownsRow_lit (w := w) (base := w.heap.size) (e := 2) (size := 1) #[] 0 (Nat.le_refl _) (by simp [maxLen]) (by simp))
  go_enter Try.func83, Try.ntmps83
  go_wp2_with (at_builtin; refine app_i64s rfl (.tmp 3) (.tmp 4) rfl w.heap.size _ 0 [] l B A n c rfl O1.out rfl (HA.out.alloc hB _) (by omega) (by simp) ?_)
  intro v' w' O4 B4 hs4
  have B5 := Lib.hid ((((Below.refl w.heap.size w).alloc (Nat.le_refl _) _)).trans B4)
  obtain ⟨D, d, hv, _, _⟩ := (Own.of_owns O4 (Nat.le_refl _)).slice
  subst hv
  have O5 : Hid (Own w' w.heap.size w'.heap.size 2 1 (.slice D (0 + n) d) (0 + n) (ints l)) := Lib.hid (by have h := Own.of_owns O4 (Nat.le_refl _); simpa using h)
  clear O4 B4 hs4
  go_wp2
  go_ret
  refine ⟨D, d, by simp, ?_, B5.out⟩
  have h := O5.out
  rw [Nat.zero_add] at h
  exact h
def set4 (w : World) (b : Nat) (u0 u1 u2 u3 : Value) : World := (set3 w b u0 u1 u2).setCell ⟨b, 3, none⟩ u3
theorem set4_size (w : World) (b : Nat) (u0 u1 u2 u3 : Value) : (set4 w b u0 u1 u2 u3).heap.size = w.heap.size := by simp [set4, set3]
theorem set4_below {w0 w : World} {lo b : Nat} (h : Below lo w0 w) (hb : lo ≤ b) (u0 u1 u2 u3 : Value) : Below lo w0 (set4 w b u0 u1 u2 u3) := (set3_below h hb u0 u1 u2).setCell (p := ⟨b, 3, none⟩) hb u3
theorem set4_own {w : World} {lo hi s n b : Nat} {T : TypeId} {v : Value} {xs : List Value} (h : Own w lo hi T s v n xs) (hb : b < lo) (u0 u1 u2 u3 : Value) : Own (set4 w b u0 u1 u2 u3) lo hi T s v n xs := (set3_own h hb u0 u1 u2).setOut (p := ⟨b, 3, none⟩) hb u3
def raisedG (g : Gr) (k : Nat) (v : Int) : Gr := ⟨g.rows, g.cols, g.size, g.hs.set k (hAt g k + v)⟩
def RaisedPost (g : Gr) (k : Nat) (v : Int) (n : Nat) (w : World) (e : Ending) (w' : World) : Prop :=
  ∃ D d, e = .returned ((raisedG g k v).val D n d) ∧ Own w' w.heap.size w'.heap.size 2 1 (.slice D n d) n (ints (raisedG g k v).hs) ∧ Below w.heap.size w w'
theorem raised_ints (g : Gr) (k : Nat) (v : Int) : ints (raisedG g k v).hs = (ints g.hs).set k (.int .i64 (hAt g k + v)) := by simp [raisedG, ints, List.map_set]
set_option maxHeartbeats 4000000 in
theorem l15Raise_c (g : Gr) (b : Nat) (A : Option Addr) (n c B : Nat) (k : Nat) (v : Int) (w : World) (hg : GP w b B g A n c) (hok : g.ok = true) (hk : k < n) (hv0 : 0 ≤ v) (hv1 : v ≤ 100) :
    Calls Try.prog 63 #[.pointer (some ⟨b, 0, none⟩), .int .i64 k, .int .i64 v] w (RaisedPost g k v n w) := by
  have x0 := hg.r
  have x1 := hg.c
  have x2 := hg.s
  have x3 := hg.h
  have hbl := hg.blk.lt
  have HG := Lib.hid hg.gs
  have HPB := Lib.hid hg.blk
  have HL := Lib.hid hg.gs.len
  have hbd := hAt_bd (Gr.ok_bd hok) k
  have hbig := hg.gs.big
  clear hg hok
  obtain ⟨W, hW⟩ : ∃ W, W = (w.alloc (.cells #[.int .i64 0, .int .i64 0, .int .i64 0, .slice none 0 0] 26)).alloc (.cells #[.int .i64 g.rows, .int .i64 g.cols, .int .i64 g.size, .slice A n c] 26) := ⟨_, rfl⟩
  have HT : Hid (Below w.heap.size w W) := Lib.hid (by rw [hW]; exact ((Below.refl w.heap.size w).alloc (Nat.le_refl _) _).alloc (by simp) _)
  have hs : W.heap.size = w.heap.size + 1 + 1 := by rw [hW]; simp
  have K1 : Hid (Blk W w.heap.size 26 #[.int .i64 0, .int .i64 0, .int .i64 0, .slice none 0 0]) := Lib.hid (by rw [hW]; exact (Blk.new _ _ _).alloc _)
  have K2 : Hid (Blk W (w.heap.size + 1) 26 #[.int .i64 g.rows, .int .i64 g.cols, .int .i64 g.size, .slice A n c]) := Lib.hid (by
    have h := Blk.new (w.alloc (.cells #[.int .i64 0, .int .i64 0, .int .i64 0, .slice none 0 0] 26)) 26 #[.int .i64 g.rows, .int .i64 g.cols, .int .i64 g.size, .slice A n c]
    rw [hW]; simpa using h)
  have HW := Lib.hid hW
  clear hW
  have HOWN := Lib.hid (l00Own_c A n c B g.hs W (HG.out.below HT.out).rd (by have := HG.out.hB; omega) hbig)
  go_enter Try.func63, Try.ntmps63
  go_wp2_with fail
  rw [← HW.out]
  refine HOWN.out.mono ?_
  rintro e w1 ⟨D, d, rfl, O1, B1⟩
  have hs1 := B1.size
  have HT1 := Lib.hid (HT.out.trans (B1.mono HT.out.size))
  replace K1 := Lib.hid (K1.out.below B1 (by omega))
  replace K2 := Lib.hid (K2.out.below B1 (by omega))
  obtain ⟨gb, rfl, hg1, hg2, hg3⟩ := O1.at_ (by omega)
  have HO := Lib.hid O1
  clear O1 B1 x0 x1 x2 x3 HW HOWN HT
  have a0 : w1.cell? ⟨gb, k, none⟩ = some (.int .i64 (hAt g k)) := by
    obtain ⟨ad, z, e1, _, hz, hc⟩ := HO.out.reads.int hk
    injection e1 with e1
    subst e1
    rw [hAt_get hz]
    have e2 : (⟨gb, 0, none⟩ : Addr).add k = ⟨gb, k, none⟩ := by unfold Addr.add; split <;> simp_all
    rw [e2] at hc
    exact hc
  have y3 : w1.cell? ⟨w.heap.size + 1, 3, none⟩ = some (.slice A n c) := K2.out.cell 3
  have f3 := K2.out.frozen 3
  go_upto_region 3 with (fail)
  obtain ⟨W2, hW2⟩ : ∃ W2, W2 = w1.setCell ⟨w.heap.size + 1, 3, none⟩ (.slice (some ⟨gb, 0, none⟩) n d) := ⟨_, rfl⟩
  rw [← hW2]
  have K2' : Hid (Blk W2 (w.heap.size + 1) 26 #[.int .i64 g.rows, .int .i64 g.cols, .int .i64 g.size, .slice (some ⟨gb, 0, none⟩) n d]) := Lib.hid (by rw [hW2]; simpa using K2.out.set_ 3 (.slice (some ⟨gb, 0, none⟩) n d))
  have K1' : Hid (Blk W2 w.heap.size 26 #[.int .i64 0, .int .i64 0, .int .i64 0, .slice none 0 0]) := Lib.hid (by rw [hW2]; exact K1.out.far (p := ⟨w.heap.size + 1, 3, none⟩) (by show w.heap.size ≠ w.heap.size + 1; omega) _)
  have HO2 : Hid (Own W2 W.heap.size w1.heap.size 2 1 (.slice (some ⟨gb, 0, none⟩) n d) n (ints g.hs)) := Lib.hid (by rw [hW2]; exact HO.out.setOut (p := ⟨w.heap.size + 1, 3, none⟩) (by show w.heap.size + 1 < W.heap.size; omega) _)
  have HT2 : Hid (Below w.heap.size w W2) := Lib.hid (by rw [hW2]; exact HT1.out.setCell (p := ⟨w.heap.size + 1, 3, none⟩) (by show w.heap.size ≤ w.heap.size + 1; omega) _)
  have hs2 : W2.heap.size = w1.heap.size := by rw [hW2]; simp
  clear a0 y3 f3 hW2 K1 K2 HO HT1
  have a0 : W2.cell? ⟨gb, k, none⟩ = some (.int .i64 (hAt g k)) := by
    obtain ⟨ad, z, e1, _, hz, hc⟩ := HO2.out.reads.int hk
    injection e1 with e1
    subst e1
    rw [hAt_get hz]
    have e2 : (⟨gb, 0, none⟩ : Addr).add k = ⟨gb, k, none⟩ := by unfold Addr.add; split <;> simp_all
    rw [e2] at hc
    exact hc
  have y3 : W2.cell? ⟨w.heap.size + 1, 3, none⟩ = some (.slice (some ⟨gb, 0, none⟩) n d) := K2'.out.cell 3
  have f0 : W2.frozen? ⟨gb, k, none⟩ = false := HO2.out.1.frozenAt k
  have hk' : (k : Int) < (n : Int) := by omega
  go_upto_region 4 with (fail)
  obtain ⟨W3, hW3⟩ : ∃ W3, W3 = W2.setCell ⟨gb, k, none⟩ (.int .i64 (hAt g k + v)) := ⟨_, rfl⟩
  rw [← hW3]
  have hgbW : W.heap.size ≤ gb := hg1
  have K23 : Hid (Blk W3 (w.heap.size + 1) 26 #[.int .i64 g.rows, .int .i64 g.cols, .int .i64 g.size, .slice (some ⟨gb, 0, none⟩) n d]) := Lib.hid (by rw [hW3]; exact K2'.out.far (p := ⟨gb, k, none⟩) (by show w.heap.size + 1 ≠ gb; omega) _)
  have K13 : Hid (Blk W3 w.heap.size 26 #[.int .i64 0, .int .i64 0, .int .i64 0, .slice none 0 0]) := Lib.hid (by rw [hW3]; exact K1'.out.far (p := ⟨gb, k, none⟩) (by show w.heap.size ≠ gb; omega) _)
  have HO3 : Hid (Own W3 W.heap.size w1.heap.size 2 1 (.slice (some ⟨gb, 0, none⟩) n d) n (ints (raisedG g k v).hs)) := Lib.hid (by rw [hW3, raised_ints]; exact (HO2.out.stored _).1)
  have HT3 : Hid (Below w.heap.size w W3) := Lib.hid (by rw [hW3]; exact HT2.out.setCell (p := ⟨gb, k, none⟩) (by show w.heap.size ≤ gb; omega) _)
  have hs3 : W3.heap.size = w1.heap.size := by rw [hW3]; simp [hs2]
  clear a0 y3 f0 hW3
  have y0 : W3.cell? ⟨w.heap.size + 1, 0, none⟩ = some (.int .i64 g.rows) := K23.out.cell 0
  have y1 : W3.cell? ⟨w.heap.size + 1, 1, none⟩ = some (.int .i64 g.cols) := K23.out.cell 1
  have y2 : W3.cell? ⟨w.heap.size + 1, 2, none⟩ = some (.int .i64 g.size) := K23.out.cell 2
  have y3 : W3.cell? ⟨w.heap.size + 1, 3, none⟩ = some (.slice (some ⟨gb, 0, none⟩) n d) := K23.out.cell 3
  have r0 : W3.cell? ⟨w.heap.size, 0, none⟩ = some (.int .i64 0) := K13.out.cell 0
  have r1 : W3.cell? ⟨w.heap.size, 1, none⟩ = some (.int .i64 0) := K13.out.cell 1
  have r2 : W3.cell? ⟨w.heap.size, 2, none⟩ = some (.int .i64 0) := K13.out.cell 2
  have r3 : W3.cell? ⟨w.heap.size, 3, none⟩ = some (.slice none 0 0) := K13.out.cell 3
  have s0 := K13.out.frozen 0
  have s1 := K13.out.frozen 1
  have s2 := K13.out.frozen 2
  have s3 := K13.out.frozen 3
  go_wp2
  refine bodyPost_ret (v := .agg #[.int .i64 g.rows, .int .i64 g.cols, .int .i64 g.size, .slice (some ⟨gb, 0, none⟩) n d]) (by simp [results, Try.results63, go_sem, r0, r1, r2, r3]) rfl ?_
  exact ⟨_, d, rfl, ((set4_own HO3.out (by omega) _ _ _ _).widen (by omega) (by show w1.heap.size ≤ (set4 W3 w.heap.size _ _ _ _).heap.size; rw [set4_size]; omega)), set4_below HT3.out (Nat.le_refl _) _ _ _ _⟩
set_option maxHeartbeats 2000000 in
set_option maxRecDepth 100000 in
theorem sclone_c (ad : Addr) (n c B : Nat) (l : List Int) (w : World) (ha : Reads w B 1 (some ad) n (ints l)) (hB : B ≤ w.heap.size) (hn : n ≤ 1048576) :
    Calls Try.prog 85 #[.slice (some ad) n c] w fun e w' => ∃ D d, e = .returned (.slice D n d) ∧ Own w' w.heap.size w'.heap.size 2 1 (.slice D n d) n (ints l) ∧ Below w.heap.size w w' := by
  have HA := Lib.hid ha
  clear ha
  have O1 : Hid ((w.alloc (.cells #[] 2)).ownsRow w.heap.size 2 1 (.slice (some ⟨w.heap.size, 0, none⟩) 0 0) 0 (ints [])) := Lib.hid (World.ownsRow_lit (w := w) (base := w.heap.size) (e := 2) (size := 1) #[] 0 (Nat.le_refl _) (by simp [maxLen]) (by simp))
  have hq : ∀ w : World, (Go.binOp .eql 24 (.slice (some ad) n c) (.slice none 0 0)).run Try.prog w = .ok (.bool false) w := fun w => by kernel_rfl
  go_enter Try.func85, Try.ntmps85
  go_wp2_with (at_builtin; refine app_i64s rfl (.tmp 5) (.tmp 6) rfl w.heap.size _ 0 [] l B (some ad) n c rfl O1.out rfl (HA.out.alloc hB _) (by omega) (by simp) ?_)
  intro v' w' O4 B4 hs4
  have B5 := Lib.hid ((((Below.refl w.heap.size w).alloc (Nat.le_refl _) _)).trans B4)
  obtain ⟨D, d, hv, _, _⟩ := (Own.of_owns O4 (Nat.le_refl _)).slice
  subst hv
  have O5 : Hid (Own w' w.heap.size w'.heap.size 2 1 (.slice D (0 + n) d) (0 + n) (ints l)) := Lib.hid (by have h := Own.of_owns O4 (Nat.le_refl _); simpa using h)
  clear O4 B4 hs4
  go_wp2
  go_ret
  refine ⟨D, d, by simp, ?_, B5.out⟩
  have h := O5.out
  rw [Nat.zero_add] at h
  exact h
set_option maxHeartbeats 4000000 in
theorem raised_c (g : Gr) (A : Option Addr) (n c B : Nat) (k : Nat) (v : Int) (w : World) (hg : GS w B g A n c) (hok : g.ok = true) (hk : k < n) (hv0 : 0 ≤ v) (hv1 : v ≤ 100) :
    Calls Try.prog 66 #[g.val A n c, .int .i64 k, .int .i64 v] w (RaisedPost g k v n w) := by
  have HG := Lib.hid hg
  have HL := Lib.hid hg.len
  have hbd := hAt_bd (Gr.ok_bd hok) k
  have hbig := hg.big
  obtain ⟨aA, rfl, _, _⟩ := hg.at_ hk
  simp only [Gr.val, Gr.cells] at *
  clear hg hok
  obtain ⟨W, hW⟩ : ∃ W, W = (w.alloc (.cells #[.int .i64 g.rows, .int .i64 g.cols, .int .i64 g.size, .slice (some aA) n c] 26)).alloc (.cells #[.int .i64 0, .int .i64 0, .int .i64 0, .slice none 0 0] 26) := ⟨_, rfl⟩
  have HT : Hid (Below w.heap.size w W) := Lib.hid (by rw [hW]; exact ((Below.refl w.heap.size w).alloc (Nat.le_refl _) _).alloc (by simp) _)
  have hs : W.heap.size = w.heap.size + 1 + 1 := by rw [hW]; simp
  have K2 : Hid (Blk W w.heap.size 26 #[.int .i64 g.rows, .int .i64 g.cols, .int .i64 g.size, .slice (some aA) n c]) := Lib.hid (by rw [hW]; exact (Blk.new _ _ _).alloc _)
  have K1 : Hid (Blk W (w.heap.size + 1) 26 #[.int .i64 0, .int .i64 0, .int .i64 0, .slice none 0 0]) := Lib.hid (by
    have h := Blk.new (w.alloc (.cells #[.int .i64 g.rows, .int .i64 g.cols, .int .i64 g.size, .slice (some aA) n c] 26)) 26 #[.int .i64 0, .int .i64 0, .int .i64 0, .slice none 0 0]
    rw [hW]; simpa using h)
  have HW := Lib.hid hW
  clear hW
  have HOWN := Lib.hid (sclone_c aA n c B g.hs W (HG.out.below HT.out).rd (by have := HG.out.hB; omega) hbig)
  go_enter Try.func66, Try.ntmps66
  go_wp2_with fail
  rw [← HW.out]
  refine HOWN.out.mono ?_
  rintro e w1 ⟨D, d, rfl, O1, B1⟩
  have hs1 := B1.size
  have HT1 := Lib.hid (HT.out.trans (B1.mono HT.out.size))
  replace K1 := Lib.hid (K1.out.below B1 (by omega))
  replace K2 := Lib.hid (K2.out.below B1 (by omega))
  obtain ⟨gb, rfl, hg1, hg2, hg3⟩ := O1.at_ (by omega)
  have HO := Lib.hid O1
  clear O1 B1 HW HOWN HT
  have a0 : w1.cell? ⟨gb, k, none⟩ = some (.int .i64 (hAt g k)) := by
    obtain ⟨ad, z, e1, _, hz, hc⟩ := HO.out.reads.int hk
    injection e1 with e1
    subst e1
    rw [hAt_get hz]
    have e2 : (⟨gb, 0, none⟩ : Addr).add k = ⟨gb, k, none⟩ := by unfold Addr.add; split <;> simp_all
    rw [e2] at hc
    exact hc
  have y3 : w1.cell? ⟨w.heap.size, 3, none⟩ = some (.slice (some aA) n c) := K2.out.cell 3
  have f3 := K2.out.frozen 3
  go_upto_region 2 with (fail)
  obtain ⟨W2, hW2⟩ : ∃ W2, W2 = w1.setCell ⟨w.heap.size, 3, none⟩ (.slice (some ⟨gb, 0, none⟩) n d) := ⟨_, rfl⟩
  rw [← hW2]
  have K2' : Hid (Blk W2 w.heap.size 26 #[.int .i64 g.rows, .int .i64 g.cols, .int .i64 g.size, .slice (some ⟨gb, 0, none⟩) n d]) := Lib.hid (by rw [hW2]; simpa using K2.out.set_ 3 (.slice (some ⟨gb, 0, none⟩) n d))
  have K1' : Hid (Blk W2 (w.heap.size + 1) 26 #[.int .i64 0, .int .i64 0, .int .i64 0, .slice none 0 0]) := Lib.hid (by rw [hW2]; exact K1.out.far (p := ⟨w.heap.size, 3, none⟩) (by show w.heap.size + 1 ≠ w.heap.size; omega) _)
  have HO2 : Hid (Own W2 W.heap.size w1.heap.size 2 1 (.slice (some ⟨gb, 0, none⟩) n d) n (ints g.hs)) := Lib.hid (by rw [hW2]; exact HO.out.setOut (p := ⟨w.heap.size, 3, none⟩) (by show w.heap.size < W.heap.size; omega) _)
  have HT2 : Hid (Below w.heap.size w W2) := Lib.hid (by rw [hW2]; exact HT1.out.setCell (p := ⟨w.heap.size, 3, none⟩) (by show w.heap.size ≤ w.heap.size; omega) _)
  have hs2 : W2.heap.size = w1.heap.size := by rw [hW2]; simp
  clear a0 y3 f3 hW2 K1 K2 HO HT1
  have a0 : W2.cell? ⟨gb, k, none⟩ = some (.int .i64 (hAt g k)) := by
    obtain ⟨ad, z, e1, _, hz, hc⟩ := HO2.out.reads.int hk
    injection e1 with e1
    subst e1
    rw [hAt_get hz]
    have e2 : (⟨gb, 0, none⟩ : Addr).add k = ⟨gb, k, none⟩ := by unfold Addr.add; split <;> simp_all
    rw [e2] at hc
    exact hc
  have y3 : W2.cell? ⟨w.heap.size, 3, none⟩ = some (.slice (some ⟨gb, 0, none⟩) n d) := K2'.out.cell 3
  have f0 : W2.frozen? ⟨gb, k, none⟩ = false := HO2.out.1.frozenAt k
  have hk' : (k : Int) < (n : Int) := by omega
  go_upto_region 3 with (fail)
  obtain ⟨W3, hW3⟩ : ∃ W3, W3 = W2.setCell ⟨gb, k, none⟩ (.int .i64 (hAt g k + v)) := ⟨_, rfl⟩
  rw [← hW3]
  have hgbW : W.heap.size ≤ gb := hg1
  have K23 : Hid (Blk W3 w.heap.size 26 #[.int .i64 g.rows, .int .i64 g.cols, .int .i64 g.size, .slice (some ⟨gb, 0, none⟩) n d]) := Lib.hid (by rw [hW3]; exact K2'.out.far (p := ⟨gb, k, none⟩) (by show w.heap.size ≠ gb; omega) _)
  have K13 : Hid (Blk W3 (w.heap.size + 1) 26 #[.int .i64 0, .int .i64 0, .int .i64 0, .slice none 0 0]) := Lib.hid (by rw [hW3]; exact K1'.out.far (p := ⟨gb, k, none⟩) (by show w.heap.size + 1 ≠ gb; omega) _)
  have HO3 : Hid (Own W3 W.heap.size w1.heap.size 2 1 (.slice (some ⟨gb, 0, none⟩) n d) n (ints (raisedG g k v).hs)) := Lib.hid (by rw [hW3, raised_ints]; exact (HO2.out.stored _).1)
  have HT3 : Hid (Below w.heap.size w W3) := Lib.hid (by rw [hW3]; exact HT2.out.setCell (p := ⟨gb, k, none⟩) (by show w.heap.size ≤ gb; omega) _)
  have hs3 : W3.heap.size = w1.heap.size := by rw [hW3]; simp [hs2]
  clear a0 y3 f0 hW3
  have y0 : W3.cell? ⟨w.heap.size, 0, none⟩ = some (.int .i64 g.rows) := K23.out.cell 0
  have y1 : W3.cell? ⟨w.heap.size, 1, none⟩ = some (.int .i64 g.cols) := K23.out.cell 1
  have y2 : W3.cell? ⟨w.heap.size, 2, none⟩ = some (.int .i64 g.size) := K23.out.cell 2
  have y3 : W3.cell? ⟨w.heap.size, 3, none⟩ = some (.slice (some ⟨gb, 0, none⟩) n d) := K23.out.cell 3
  have r0 : W3.cell? ⟨w.heap.size + 1, 0, none⟩ = some (.int .i64 0) := K13.out.cell 0
  have r1 : W3.cell? ⟨w.heap.size + 1, 1, none⟩ = some (.int .i64 0) := K13.out.cell 1
  have r2 : W3.cell? ⟨w.heap.size + 1, 2, none⟩ = some (.int .i64 0) := K13.out.cell 2
  have r3 : W3.cell? ⟨w.heap.size + 1, 3, none⟩ = some (.slice none 0 0) := K13.out.cell 3
  have s0 := K13.out.frozen 0
  have s1 := K13.out.frozen 1
  have s2 := K13.out.frozen 2
  have s3 := K13.out.frozen 3
  go_wp2
  refine bodyPost_ret (v := .agg #[.int .i64 g.rows, .int .i64 g.cols, .int .i64 g.size, .slice (some ⟨gb, 0, none⟩) n d]) (by simp [results, Try.results66, go_sem, r0, r1, r2, r3]) rfl ?_
  exact ⟨_, d, rfl, ((set4_own HO3.out (by omega) _ _ _ _).widen (by omega) (by show w1.heap.size ≤ (set4 W3 (w.heap.size + 1) _ _ _ _).heap.size; rw [set4_size]; omega)), set4_below HT3.out (Nat.le_succ _) _ _ _ _⟩
end Go.Proofs.Ytaoomildopmclaa
