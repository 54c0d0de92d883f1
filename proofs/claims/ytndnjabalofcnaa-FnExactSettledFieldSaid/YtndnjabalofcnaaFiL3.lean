/- Exact laws over fields: WorstWind, SettledField. -/
import Derived.Test.YtndnjabalofcnaaFiM
import Derived.Deep.RegionHeld3
namespace Go.Proofs.Ytndnjabalofcnaa
open Go.ChangeShapes Go.WideShapes Go.ChangeAt Go.RowKit
set_option linter.unusedVariables false
theorem Blk.onlyB {w w' : World} {g lo hi : Nat} {T : TypeId} {cs : Array Value} (h : Blk w g T cs) (ho : Only lo hi w w') (hd : g < lo ∨ hi ≤ g) : Blk w' g T cs := (ho.block g h.lt hd).trans h

set_option maxHeartbeats 8000000 in
theorem wWorstWind (w : World) (x : Fi × Option Addr × Nat × Nat) (R : Reads w w.heap.size 1 x.2.1 x.2.2.1 (ints x.1.hs) ∧ x.2.2.1 ≤ x.2.2.2 ∧ x.2.2.1 ≤ 9223372036854775807) (a0 : Int) (_ : (Lit.int .i64 a0).wf = true) (a1 : Int) (_ : (Lit.int .i64 a1).wf = true) :
    Calls Try.prog 4 #[x.1.val x.2.1 x.2.2.1 x.2.2.2, .int .i64 a0, .int .i64 a1] w fun e w' => e = .returned (.bool true) ∧ Below w.heap.size w w' := by
  obtain ⟨g, A, n, c⟩ := x
  obtain ⟨ha, hnc, hm⟩ := R
  simp only at ha hnc hm ⊢
  have hsz := fun W => szField_c g A n c 1048576 W (by omega) (by omega) hm
  obtain ⟨r, co, hs⟩ := g
  simp only [Fi.val, Fi.cells] at *
  by_cases h20 : 1048576 < n
  · rw [if_pos (by omega)] at hsz
    have HSZ := Lib.hid hsz
    clear ha hsz
    go_enter Try.func4, Try.ntmps4
    go_wp2_with fail
    refine (HSZ.out _).mono ?_
    rintro e w0 ⟨rfl, B0⟩
    have HB := Lib.hid B0; clear B0
    go_wp2
    go_ret
    exact ⟨rfl, ((Below.refl _ _).alloc (Nat.le_refl _) _).trans (HB.out.mono (by simp))⟩
  · rw [if_neg (by omega)] at hsz
    have hpos : ¬ (1048576 - (n : Int) < 0) := by omega
    have RA := Lib.hid ha; clear ha
    have HSZ := Lib.hid hsz; clear hsz
    go_enter Try.func4, Try.ntmps4
    go_wp2_with fail
    refine (HSZ.out _).mono ?_
    rintro e w0 ⟨rfl, B0⟩
    have KB : Hid (Blk w0 w.heap.size 24 #[.int .i64 r, .int .i64 co, .slice A n c]) := Lib.hid ((Blk.new _ _ _).below B0 (by simp))
    have T : Hid (Below w.heap.size w w0) := Lib.hid (((Below.refl _ _).alloc (Nat.le_refl _) _).trans (B0.mono (by simp)))
    have hs0 : w.heap.size + 1 ≤ w0.heap.size := by have := B0.size; simpa using this
    have hKBl := KB.out.lt
    clear B0 HSZ
    have yKB0 : w0.cell? ⟨w.heap.size, 0, none⟩ = some (.int .i64 r) := KB.out.cell 0
    have yKB1 : w0.cell? ⟨w.heap.size, 1, none⟩ = some (.int .i64 co) := KB.out.cell 1
    have yKB2 : w0.cell? ⟨w.heap.size, 2, none⟩ = some (.slice A n c) := KB.out.cell 2
    go_wp2_with fail
    refine (toField_c ⟨r, co, hs⟩ A n c _ w0 (RA.out.below T.out) (by have := T.out.size; omega) (by omega)).mono ?_
    rintro e w1 ⟨DG1, dg1, rfl, OG1, B1⟩
    simp only [Fi.val, Fi.cells]
    have hs1 := B1.size
    clear yKB0 yKB1 yKB2
    replace T := Lib.hid (T.out.trans (B1.mono T.out.size))
    replace KB := Lib.hid (KB.out.below B1 (by omega))
    have hKBl := KB.out.lt
    replace OG1 := Lib.hid OG1
    clear B1
    go_wp2_with fail
    refine (sWorstWind_c ⟨r, co, hs⟩ DG1 n dg1 _ a0 a1 w1 (.of_own OG1.out (by omega) (by omega))).mono ?_
    rintro e w2 ⟨rfl, B2⟩
    have hs2 := B2.size
    replace T := Lib.hid (T.out.trans (B2.mono T.out.size))
    replace OG1 := Lib.hid (OG1.out.below B2 (by omega))
    replace KB := Lib.hid (KB.out.below B2 (by omega))
    have hKBl := KB.out.lt
    clear B2
    have yKB0 : w2.cell? ⟨w.heap.size, 0, none⟩ = some (.int .i64 r) := KB.out.cell 0
    have yKB1 : w2.cell? ⟨w.heap.size, 1, none⟩ = some (.int .i64 co) := KB.out.cell 1
    have yKB2 : w2.cell? ⟨w.heap.size, 2, none⟩ = some (.slice A n c) := KB.out.cell 2
    go_wp2_with fail
    refine (toField_c ⟨r, co, hs⟩ A n c _ w2 (RA.out.below T.out) (by have := T.out.size; omega) (by omega)).mono ?_
    rintro e w3 ⟨DG2, dg2, rfl, OG2, B3⟩
    simp only [Fi.val, Fi.cells]
    have hs3 := B3.size
    clear yKB0 yKB1 yKB2
    replace T := Lib.hid (T.out.trans (B3.mono T.out.size))
    replace OG1 := Lib.hid (OG1.out.below B3 (by omega))
    replace KB := Lib.hid (KB.out.below B3 (by omega))
    have hKBl := KB.out.lt
    replace OG2 := Lib.hid OG2
    clear B3
    obtain ⟨w4, hX4⟩ : ∃ X, X = w3.alloc (.cells #[.int .i64 r, .int .i64 co, .slice DG2 n dg2] 26) := ⟨_, rfl⟩
    have B4 : Below w3.heap.size w3 w4 := by rw [hX4]; exact (Below.refl _ _).alloc (Nat.le_refl _) _
    have KX : Hid (Blk w4 w3.heap.size 26 #[.int .i64 r, .int .i64 co, .slice DG2 n dg2]) := Lib.hid (by rw [hX4]; exact Blk.new _ _ _)
    have hs4 : w3.heap.size + 1 = w4.heap.size := by rw [hX4]; simp
    replace T := Lib.hid (T.out.trans (B4.mono T.out.size))
    replace OG1 := Lib.hid (OG1.out.below B4 (by omega))
    replace OG2 := Lib.hid (OG2.out.below B4 (by omega))
    replace KB := Lib.hid (KB.out.below B4 (by omega))
    have hKBl := KB.out.lt
    have hKXl := KX.out.lt
    clear B4
    have yKX0 : w4.cell? ⟨w3.heap.size, 0, none⟩ = some (.int .i64 r) := KX.out.cell 0
    have yKX1 : w4.cell? ⟨w3.heap.size, 1, none⟩ = some (.int .i64 co) := KX.out.cell 1
    have yKX2 : w4.cell? ⟨w3.heap.size, 2, none⟩ = some (.slice DG2 n dg2) := KX.out.cell 2
    go_wp2_with fail
    rw [← hX4]
    clear hX4
    refine (iWorstWind_c ⟨r, co, hs⟩ DG2 n dg2 _ a0 a1 w4 (.of_own OG2.out (by omega) (by omega))).mono ?_
    rintro e w5 ⟨rfl, B5⟩
    have hs5 := B5.size
    clear yKX0 yKX1 yKX2
    replace T := Lib.hid (T.out.trans (B5.mono T.out.size))
    replace OG1 := Lib.hid (OG1.out.below B5 (by omega))
    replace OG2 := Lib.hid (OG2.out.below B5 (by omega))
    replace KB := Lib.hid (KB.out.below B5 (by omega))
    have hKBl := KB.out.lt
    replace KX := Lib.hid (KX.out.below B5 (by omega))
    have hKXl := KX.out.lt
    clear B5
    have yKB0 : w5.cell? ⟨w.heap.size, 0, none⟩ = some (.int .i64 r) := KB.out.cell 0
    have yKB1 : w5.cell? ⟨w.heap.size, 1, none⟩ = some (.int .i64 co) := KB.out.cell 1
    have yKB2 : w5.cell? ⟨w.heap.size, 2, none⟩ = some (.slice A n c) := KB.out.cell 2
    have yKX0 : w5.cell? ⟨w3.heap.size, 0, none⟩ = some (.int .i64 r) := KX.out.cell 0
    have yKX1 : w5.cell? ⟨w3.heap.size, 1, none⟩ = some (.int .i64 co) := KX.out.cell 1
    have yKX2 : w5.cell? ⟨w3.heap.size, 2, none⟩ = some (.slice DG2 n dg2) := KX.out.cell 2
    have HS : Hid (∀ W, Below w5.heap.size w5 W → (W.cell? ⟨w.heap.size, 0, none⟩ = some (.int .i64 r) ∧ W.cell? ⟨w.heap.size, 1, none⟩ = some (.int .i64 co) ∧ W.cell? ⟨w.heap.size, 2, none⟩ = some (.slice A n c) ∧ W.cell? ⟨w3.heap.size, 0, none⟩ = some (.int .i64 r) ∧ W.cell? ⟨w3.heap.size, 1, none⟩ = some (.int .i64 co) ∧ W.cell? ⟨w3.heap.size, 2, none⟩ = some (.slice DG2 n dg2))) := Lib.hid fun W hW => by
      have z1 := KX.out.below hW (by omega)
      have z2 := KB.out.below hW (by omega)
      exact ⟨z2.cell 0, z2.cell 1, z2.cell 2, z1.cell 0, z1.cell 1, z1.cell 2⟩
    have hB := Below.refl w5.heap.size w5
    go_wp2
    go_region_held3 (fun w' => Below w5.heap.size w5 w' ∧ (w'.cell? ⟨w.heap.size, 0, none⟩ = some (.int .i64 r) ∧ w'.cell? ⟨w.heap.size, 1, none⟩ = some (.int .i64 co) ∧ w'.cell? ⟨w.heap.size, 2, none⟩ = some (.slice A n c) ∧ w'.cell? ⟨w3.heap.size, 0, none⟩ = some (.int .i64 r) ∧ w'.cell? ⟨w3.heap.size, 1, none⟩ = some (.int .i64 co) ∧ w'.cell? ⟨w3.heap.size, 2, none⟩ = some (.slice DG2 n dg2))) (first | exact keepB HS.out (by assumption) (by first | assumption | exact And.left (by assumption)) | exact keepD HS.out (by assumption) | (go_keep; done)) (first | (go_at_call 12; refine (toField_c ⟨r, co, hs⟩ A n c _ _ (RA.out.below (T.out.trans (Below.mono (by first | assumption | exact And.left (by assumption)) T.out.size))) (Nat.le_trans T.out.size (Below.size (by first | assumption | exact And.left (by assumption)))) (by omega)).mono ?_; rintro e wq ⟨DQ, dq, rfl, OQ, hb⟩; simp only [Fi.val, Fi.cells]) | (go_at_call 14; refine (eqField_same ⟨r, co, hs⟩ DG2 DQ n n dg2 dq _ _ _ (OG2.out.reads.below (Below.mono (by first | assumption | exact And.left (by assumption)) (by omega))) OQ.reads (Nat.le_trans (by omega : _ ≤ w5.heap.size) (Below.size (by first | assumption | exact And.left (by assumption)))) (Nat.le_refl _) (by omega)).mono ?_; rintro e w6 ⟨rfl, hbe⟩))
    have B6 : Below w5.heap.size w5 w6 := And.left (by assumption)
    have hs6 := B6.size
    clear HS hB OQ hbe yKB0 yKB1 yKB2 yKX0 yKX1 yKX2
    replace T := Lib.hid (T.out.trans (B6.mono T.out.size))
    replace OG1 := Lib.hid (OG1.out.below B6 (by omega))
    replace OG2 := Lib.hid (OG2.out.below B6 (by omega))
    replace KB := Lib.hid (KB.out.below B6 (by omega))
    have hKBl := KB.out.lt
    replace KX := Lib.hid (KX.out.below B6 (by omega))
    have hKXl := KX.out.lt
    clear B6
    go_wp2
    go_ret
    exact ⟨rfl, T.out⟩
namespace fnExactWorstWind
set_option maxRecDepth 100000 in
theorem lifted (os : Os) (started : os.Started) (H : Type) (enc : TypeId × Value → H) :
    ReturnsInHanded {} Try.checked os 4 .any (Rows.fnExactWorstWindSpec.pre6 enc Try.prog Try.f4 Rows.fnExactWorstWindRow.domain false) (Rows.fnExactWorstWindSpec.post enc Try.prog Try.f4 false true false false) := by
  refine returnsInHanded_of_change (C := Try.checked) ownKnobNone started (by kernel_rfl) Try.func4
    (ChangeSpec.witness6 (enc := enc) (C := Try.checked) false ⟨#[], #[wit_fiv, .int .i64 0, .int .i64 0], []⟩ 8 (by kernel_rfl) (by kernel_rfl) (by kernel_rfl) (by kernel_rfl)) ?_
  intro W base args ds gs before hval0 hW hcnd _
  have hval : ∀ (j : Nat) t v, Try.f4.params[j]? = some t → args[j]? = some v → Value.okWide Try.prog W .any base t v := hval0
  have hW' := hW
  obtain ⟨p, q, hA0, hV, rfl, hfz, hnd⟩ := hW
  have hA : DataW.TrodAll enc Try.prog W 0 (fun _ => true) true Try.f4.params.toList args.toList ds p := hA0
  rw [Try.params4] at hA hval
  obtain ⟨v0, vs0, d0, ds0, p0, q0, hargs, rfl, rfl, h0, r0⟩ := trodAll_cons hA
  obtain ⟨v1, vs1, d1, ds1, p1, q1, rfl, rfl, rfl, h1, r1⟩ := trodAll_cons r0
  obtain ⟨v2, vs2, d2, ds2, p2, q2, rfl, rfl, rfl, h2, r2⟩ := trodAll_cons r1
  obtain ⟨rfl, rfl, rfl⟩ := trodAll_nil r2
  obtain rfl : args = #[v0, v1, v2] := by cases args; simp_all
  obtain ⟨rfl, rfl⟩ := trodVars_none hV
  have k0 := h0
  have lt0 : ∀ x ∈ p0, x.block < W.heap.size := by obtain ⟨m, hm⟩ := k0; exact DataW.trod_lt m _ _ _ hm
  have k1 := h1
  have lt1 : ∀ x ∈ p1, x.block < W.heap.size := by obtain ⟨m, hm⟩ := k1; exact DataW.trod_lt m _ _ _ hm
  have k2 := h2
  have lt2 : ∀ x ∈ p2, x.block < W.heap.size := by obtain ⟨m, hm⟩ := k2; exact DataW.trod_lt m _ _ _ hm
  obtain ⟨x0, rfl, R0⟩ := open_fiv (hval 0 24 v0 rfl rfl) h0
  obtain ⟨a1, rfl, -, -, wf1⟩ := open_int Try.underlying2 (hval 1 2 v1 rfl rfl) h1
  obtain ⟨a2, rfl, -, -, wf2⟩ := open_int Try.underlying2 (hval 2 2 v2 rfl rfl) h2
  clear hA0 hval0
  refine (wWorstWind W x0 R0 a1 wf1 a2 wf2).mono fun e W' ⟨he, bel⟩ => ?_
  subst he
  exact ⟨_, rfl, _, _, _, [], _, [], hW', trodAll_mk1 (shut_bool Try.underlying4 _), (trodAll_cons_mk (Below.trod laidOut (by kernel_rfl) (of_decide_eq_true (by kernel_rfl)) k0 bel lt0) (trodAll_cons_mk (Below.trod laidOut (by kernel_rfl) (of_decide_eq_true (by kernel_rfl)) k1 bel lt1) (trodAll_cons_mk (Below.trod laidOut (by kernel_rfl) (of_decide_eq_true (by kernel_rfl)) k2 bel lt2) trodAll_mk0))), rfl, bel.frame _, fun h => by cases h⟩
theorem over : Rows.fnExactWorstWindRow.holds Try.pinned (OpenSpec.ofChange Rows.fnExactWorstWindSpec) :=
  OpenClaim.holds_of_wide 4 Try.f4 rfl rfl rfl rfl rfl rfl rfl ⟨rfl, rfl, rfl, rfl, rfl⟩ rfl rfl rfl rfl rfl (by kernel_rfl) Try.func4 (by kernel_rfl)
    (of_decide_eq_true (by kernel_rfl)) (by unfold Func.isWrapper; first | (rw [if_pos (by decide +kernel)]; kernel_rfl) | (rw [if_neg (by decide +kernel)]; exact ⟨rfl, rfl⟩))
    (fun os started H enc _ => lifted os started H enc)
theorem proved : Rows.FnExactWorstWindSaid := over
end fnExactWorstWind

set_option maxHeartbeats 8000000 in
theorem wSettledField (w : World) (x : Fi × Option Addr × Nat × Nat) (R : Reads w w.heap.size 1 x.2.1 x.2.2.1 (ints x.1.hs) ∧ x.2.2.1 ≤ x.2.2.2 ∧ x.2.2.1 ≤ 9223372036854775807) (a0 : Int) (_ : (Lit.int .i64 a0).wf = true) (a1 : Int) (_ : (Lit.int .i64 a1).wf = true) :
    Calls Try.prog 5 #[x.1.val x.2.1 x.2.2.1 x.2.2.2, .int .i64 a0, .int .i64 a1] w fun e w' => e = .returned (.bool true) ∧ Below w.heap.size w w' := by
  obtain ⟨g, A, n, c⟩ := x
  obtain ⟨ha, hnc, hm⟩ := R
  simp only at ha hnc hm ⊢
  have hsz := fun W => szField_c g A n c 1048576 W (by omega) (by omega) hm
  obtain ⟨r, co, hs⟩ := g
  simp only [Fi.val, Fi.cells] at *
  by_cases h20 : 1048576 < n
  · rw [if_pos (by omega)] at hsz
    have HSZ := Lib.hid hsz
    clear ha hsz
    go_enter Try.func5, Try.ntmps5
    go_wp2_with fail
    refine (HSZ.out _).mono ?_
    rintro e w0 ⟨rfl, B0⟩
    have HB := Lib.hid B0; clear B0
    go_wp2
    go_ret
    exact ⟨rfl, ((Below.refl _ _).alloc (Nat.le_refl _) _).trans (HB.out.mono (by simp))⟩
  · rw [if_neg (by omega)] at hsz
    have hpos : ¬ (1048576 - (n : Int) < 0) := by omega
    have RA := Lib.hid ha; clear ha
    have HSZ := Lib.hid hsz; clear hsz
    go_enter Try.func5, Try.ntmps5
    go_wp2_with fail
    refine (HSZ.out _).mono ?_
    rintro e w0 ⟨rfl, B0⟩
    have KB : Hid (Blk w0 w.heap.size 24 #[.int .i64 r, .int .i64 co, .slice A n c]) := Lib.hid ((Blk.new _ _ _).below B0 (by simp))
    have T : Hid (Below w.heap.size w w0) := Lib.hid (((Below.refl _ _).alloc (Nat.le_refl _) _).trans (B0.mono (by simp)))
    have hs0 : w.heap.size + 1 ≤ w0.heap.size := by have := B0.size; simpa using this
    have hKBl := KB.out.lt
    clear B0 HSZ
    have yKB0 : w0.cell? ⟨w.heap.size, 0, none⟩ = some (.int .i64 r) := KB.out.cell 0
    have yKB1 : w0.cell? ⟨w.heap.size, 1, none⟩ = some (.int .i64 co) := KB.out.cell 1
    have yKB2 : w0.cell? ⟨w.heap.size, 2, none⟩ = some (.slice A n c) := KB.out.cell 2
    go_wp2_with fail
    refine (toField_c ⟨r, co, hs⟩ A n c _ w0 (RA.out.below T.out) (by have := T.out.size; omega) (by omega)).mono ?_
    rintro e w1 ⟨DG1, dg1, rfl, OG1, B1⟩
    simp only [Fi.val, Fi.cells]
    have hs1 := B1.size
    clear yKB0 yKB1 yKB2
    replace T := Lib.hid (T.out.trans (B1.mono T.out.size))
    replace KB := Lib.hid (KB.out.below B1 (by omega))
    have hKBl := KB.out.lt
    replace OG1 := Lib.hid OG1
    clear B1
    go_wp2_with fail
    refine (sSettledField_c ⟨r, co, hs⟩ DG1 n dg1 _ a0 a1 w1 (.of_own OG1.out (by omega) (by omega))).mono ?_
    rintro e w2 ⟨rfl, B2⟩
    have hs2 := B2.size
    replace T := Lib.hid (T.out.trans (B2.mono T.out.size))
    replace OG1 := Lib.hid (OG1.out.below B2 (by omega))
    replace KB := Lib.hid (KB.out.below B2 (by omega))
    have hKBl := KB.out.lt
    clear B2
    have yKB0 : w2.cell? ⟨w.heap.size, 0, none⟩ = some (.int .i64 r) := KB.out.cell 0
    have yKB1 : w2.cell? ⟨w.heap.size, 1, none⟩ = some (.int .i64 co) := KB.out.cell 1
    have yKB2 : w2.cell? ⟨w.heap.size, 2, none⟩ = some (.slice A n c) := KB.out.cell 2
    go_wp2_with fail
    refine (toField_c ⟨r, co, hs⟩ A n c _ w2 (RA.out.below T.out) (by have := T.out.size; omega) (by omega)).mono ?_
    rintro e w3 ⟨DG2, dg2, rfl, OG2, B3⟩
    simp only [Fi.val, Fi.cells]
    have hs3 := B3.size
    clear yKB0 yKB1 yKB2
    replace T := Lib.hid (T.out.trans (B3.mono T.out.size))
    replace OG1 := Lib.hid (OG1.out.below B3 (by omega))
    replace KB := Lib.hid (KB.out.below B3 (by omega))
    have hKBl := KB.out.lt
    replace OG2 := Lib.hid OG2
    clear B3
    obtain ⟨w4, hX4⟩ : ∃ X, X = w3.alloc (.cells #[.int .i64 r, .int .i64 co, .slice DG2 n dg2] 26) := ⟨_, rfl⟩
    have B4 : Below w3.heap.size w3 w4 := by rw [hX4]; exact (Below.refl _ _).alloc (Nat.le_refl _) _
    have KX : Hid (Blk w4 w3.heap.size 26 #[.int .i64 r, .int .i64 co, .slice DG2 n dg2]) := Lib.hid (by rw [hX4]; exact Blk.new _ _ _)
    have hs4 : w3.heap.size + 1 = w4.heap.size := by rw [hX4]; simp
    replace T := Lib.hid (T.out.trans (B4.mono T.out.size))
    replace OG1 := Lib.hid (OG1.out.below B4 (by omega))
    replace OG2 := Lib.hid (OG2.out.below B4 (by omega))
    replace KB := Lib.hid (KB.out.below B4 (by omega))
    have hKBl := KB.out.lt
    have hKXl := KX.out.lt
    clear B4
    have yKX0 : w4.cell? ⟨w3.heap.size, 0, none⟩ = some (.int .i64 r) := KX.out.cell 0
    have yKX1 : w4.cell? ⟨w3.heap.size, 1, none⟩ = some (.int .i64 co) := KX.out.cell 1
    have yKX2 : w4.cell? ⟨w3.heap.size, 2, none⟩ = some (.slice DG2 n dg2) := KX.out.cell 2
    go_wp2_with fail
    rw [← hX4]
    clear hX4
    refine (iSettledField_c ⟨r, co, hs⟩ DG2 n dg2 _ a0 a1 w4 (.of_own OG2.out (by omega) (by omega))).mono ?_
    rintro e w5 ⟨rfl, B5⟩
    have hs5 := B5.size
    clear yKX0 yKX1 yKX2
    replace T := Lib.hid (T.out.trans (B5.mono T.out.size))
    replace OG1 := Lib.hid (OG1.out.below B5 (by omega))
    replace OG2 := Lib.hid (OG2.out.below B5 (by omega))
    replace KB := Lib.hid (KB.out.below B5 (by omega))
    have hKBl := KB.out.lt
    replace KX := Lib.hid (KX.out.below B5 (by omega))
    have hKXl := KX.out.lt
    clear B5
    have yKB0 : w5.cell? ⟨w.heap.size, 0, none⟩ = some (.int .i64 r) := KB.out.cell 0
    have yKB1 : w5.cell? ⟨w.heap.size, 1, none⟩ = some (.int .i64 co) := KB.out.cell 1
    have yKB2 : w5.cell? ⟨w.heap.size, 2, none⟩ = some (.slice A n c) := KB.out.cell 2
    have yKX0 : w5.cell? ⟨w3.heap.size, 0, none⟩ = some (.int .i64 r) := KX.out.cell 0
    have yKX1 : w5.cell? ⟨w3.heap.size, 1, none⟩ = some (.int .i64 co) := KX.out.cell 1
    have yKX2 : w5.cell? ⟨w3.heap.size, 2, none⟩ = some (.slice DG2 n dg2) := KX.out.cell 2
    have HS : Hid (∀ W, Below w5.heap.size w5 W → (W.cell? ⟨w.heap.size, 0, none⟩ = some (.int .i64 r) ∧ W.cell? ⟨w.heap.size, 1, none⟩ = some (.int .i64 co) ∧ W.cell? ⟨w.heap.size, 2, none⟩ = some (.slice A n c) ∧ W.cell? ⟨w3.heap.size, 0, none⟩ = some (.int .i64 r) ∧ W.cell? ⟨w3.heap.size, 1, none⟩ = some (.int .i64 co) ∧ W.cell? ⟨w3.heap.size, 2, none⟩ = some (.slice DG2 n dg2))) := Lib.hid fun W hW => by
      have z1 := KX.out.below hW (by omega)
      have z2 := KB.out.below hW (by omega)
      exact ⟨z2.cell 0, z2.cell 1, z2.cell 2, z1.cell 0, z1.cell 1, z1.cell 2⟩
    have hB := Below.refl w5.heap.size w5
    go_wp2
    go_region_held3 (fun w' => Below w5.heap.size w5 w' ∧ (w'.cell? ⟨w.heap.size, 0, none⟩ = some (.int .i64 r) ∧ w'.cell? ⟨w.heap.size, 1, none⟩ = some (.int .i64 co) ∧ w'.cell? ⟨w.heap.size, 2, none⟩ = some (.slice A n c) ∧ w'.cell? ⟨w3.heap.size, 0, none⟩ = some (.int .i64 r) ∧ w'.cell? ⟨w3.heap.size, 1, none⟩ = some (.int .i64 co) ∧ w'.cell? ⟨w3.heap.size, 2, none⟩ = some (.slice DG2 n dg2))) (first | exact keepB HS.out (by assumption) (by first | assumption | exact And.left (by assumption)) | exact keepD HS.out (by assumption) | (go_keep; done)) (first | (go_at_call 12; refine (toField_c ⟨r, co, hs⟩ A n c _ _ (RA.out.below (T.out.trans (Below.mono (by first | assumption | exact And.left (by assumption)) T.out.size))) (Nat.le_trans T.out.size (Below.size (by first | assumption | exact And.left (by assumption)))) (by omega)).mono ?_; rintro e wq ⟨DQ, dq, rfl, OQ, hb⟩; simp only [Fi.val, Fi.cells]) | (go_at_call 14; refine (eqField_same ⟨r, co, hs⟩ DG2 DQ n n dg2 dq _ _ _ (OG2.out.reads.below (Below.mono (by first | assumption | exact And.left (by assumption)) (by omega))) OQ.reads (Nat.le_trans (by omega : _ ≤ w5.heap.size) (Below.size (by first | assumption | exact And.left (by assumption)))) (Nat.le_refl _) (by omega)).mono ?_; rintro e w6 ⟨rfl, hbe⟩))
    have B6 : Below w5.heap.size w5 w6 := And.left (by assumption)
    have hs6 := B6.size
    clear HS hB OQ hbe yKB0 yKB1 yKB2 yKX0 yKX1 yKX2
    replace T := Lib.hid (T.out.trans (B6.mono T.out.size))
    replace OG1 := Lib.hid (OG1.out.below B6 (by omega))
    replace OG2 := Lib.hid (OG2.out.below B6 (by omega))
    replace KB := Lib.hid (KB.out.below B6 (by omega))
    have hKBl := KB.out.lt
    replace KX := Lib.hid (KX.out.below B6 (by omega))
    have hKXl := KX.out.lt
    clear B6
    go_wp2
    go_ret
    exact ⟨rfl, T.out⟩
namespace fnExactSettledField
set_option maxRecDepth 100000 in
theorem lifted (os : Os) (started : os.Started) (H : Type) (enc : TypeId × Value → H) :
    ReturnsInHanded {} Try.checked os 5 .any (Rows.fnExactSettledFieldSpec.pre6 enc Try.prog Try.f5 Rows.fnExactSettledFieldRow.domain false) (Rows.fnExactSettledFieldSpec.post enc Try.prog Try.f5 false true false false) := by
  refine returnsInHanded_of_change (C := Try.checked) ownKnobNone started (by kernel_rfl) Try.func5
    (ChangeSpec.witness6 (enc := enc) (C := Try.checked) false ⟨#[], #[wit_fiv, .int .i64 0, .int .i64 0], []⟩ 8 (by kernel_rfl) (by kernel_rfl) (by kernel_rfl) (by kernel_rfl)) ?_
  intro W base args ds gs before hval0 hW hcnd _
  have hval : ∀ (j : Nat) t v, Try.f5.params[j]? = some t → args[j]? = some v → Value.okWide Try.prog W .any base t v := hval0
  have hW' := hW
  obtain ⟨p, q, hA0, hV, rfl, hfz, hnd⟩ := hW
  have hA : DataW.TrodAll enc Try.prog W 0 (fun _ => true) true Try.f5.params.toList args.toList ds p := hA0
  rw [Try.params5] at hA hval
  obtain ⟨v0, vs0, d0, ds0, p0, q0, hargs, rfl, rfl, h0, r0⟩ := trodAll_cons hA
  obtain ⟨v1, vs1, d1, ds1, p1, q1, rfl, rfl, rfl, h1, r1⟩ := trodAll_cons r0
  obtain ⟨v2, vs2, d2, ds2, p2, q2, rfl, rfl, rfl, h2, r2⟩ := trodAll_cons r1
  obtain ⟨rfl, rfl, rfl⟩ := trodAll_nil r2
  obtain rfl : args = #[v0, v1, v2] := by cases args; simp_all
  obtain ⟨rfl, rfl⟩ := trodVars_none hV
  have k0 := h0
  have lt0 : ∀ x ∈ p0, x.block < W.heap.size := by obtain ⟨m, hm⟩ := k0; exact DataW.trod_lt m _ _ _ hm
  have k1 := h1
  have lt1 : ∀ x ∈ p1, x.block < W.heap.size := by obtain ⟨m, hm⟩ := k1; exact DataW.trod_lt m _ _ _ hm
  have k2 := h2
  have lt2 : ∀ x ∈ p2, x.block < W.heap.size := by obtain ⟨m, hm⟩ := k2; exact DataW.trod_lt m _ _ _ hm
  obtain ⟨x0, rfl, R0⟩ := open_fiv (hval 0 24 v0 rfl rfl) h0
  obtain ⟨a1, rfl, -, -, wf1⟩ := open_int Try.underlying2 (hval 1 2 v1 rfl rfl) h1
  obtain ⟨a2, rfl, -, -, wf2⟩ := open_int Try.underlying2 (hval 2 2 v2 rfl rfl) h2
  clear hA0 hval0
  refine (wSettledField W x0 R0 a1 wf1 a2 wf2).mono fun e W' ⟨he, bel⟩ => ?_
  subst he
  exact ⟨_, rfl, _, _, _, [], _, [], hW', trodAll_mk1 (shut_bool Try.underlying4 _), (trodAll_cons_mk (Below.trod laidOut (by kernel_rfl) (of_decide_eq_true (by kernel_rfl)) k0 bel lt0) (trodAll_cons_mk (Below.trod laidOut (by kernel_rfl) (of_decide_eq_true (by kernel_rfl)) k1 bel lt1) (trodAll_cons_mk (Below.trod laidOut (by kernel_rfl) (of_decide_eq_true (by kernel_rfl)) k2 bel lt2) trodAll_mk0))), rfl, bel.frame _, fun h => by cases h⟩
theorem over : Rows.fnExactSettledFieldRow.holds Try.pinned (OpenSpec.ofChange Rows.fnExactSettledFieldSpec) :=
  OpenClaim.holds_of_wide 5 Try.f5 rfl rfl rfl rfl rfl rfl rfl ⟨rfl, rfl, rfl, rfl, rfl⟩ rfl rfl rfl rfl rfl (by kernel_rfl) Try.func5 (by kernel_rfl)
    (of_decide_eq_true (by kernel_rfl)) (by unfold Func.isWrapper; first | (rw [if_pos (by decide +kernel)]; kernel_rfl) | (rw [if_neg (by decide +kernel)]; exact ⟨rfl, rfl⟩))
    (fun os started H enc _ => lifted os started H enc)
theorem proved : Rows.FnExactSettledFieldSaid := over
end fnExactSettledField

end Go.Proofs.Ytndnjabalofcnaa
