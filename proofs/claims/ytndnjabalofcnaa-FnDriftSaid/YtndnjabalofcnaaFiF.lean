/- DriftRun and DriftStep by the reference. -/
import Derived.Test.YtndnjabalofcnaaFiE
namespace Go.Proofs.Ytndnjabalofcnaa
open Go.ChangeShapes Go.WideShapes Go.ChangeAt Go.RowKit
set_option linter.unusedVariables false

set_option maxHeartbeats 4000000 in
theorem sDriftRun_c (g : Fi) (A : Option Addr) (n c B : Nat) (E : Option Addr) (m ec BE : Nat) (ds : List Int) (sh : Int) (w : World) (hg : GS w B g A n c) (he : Reads w BE 1 E m (ints ds)) (hE : BE ≤ w.heap.size) (hm : m ≤ 1048576) :
    Calls Try.prog 21 #[g.val A n c, .slice E m ec, .int .i64 sh] w (FiPost (driftV g ds sh) w) := by
  obtain ⟨Y, hY⟩ : ∃ Y, Y = w.alloc (.cells (g.cells A n c) 26) := ⟨_, rfl⟩
  have HWY : Hid (Below w.heap.size w Y) := Lib.hid (by rw [hY]; exact (Below.refl _ _).alloc (Nat.le_refl _) _)
  have hsY : Y.heap.size = w.heap.size + 1 := by rw [hY]; simp
  obtain ⟨X, hX⟩ : ∃ X, X = Y.alloc (.cells #[.int .i64 0, .int .i64 0, .slice none 0 0] 26) := ⟨_, rfl⟩
  have hs : X.heap.size = w.heap.size + 1 + 1 := by rw [hX]; simp [hsY]
  have HX := Lib.hid (show X = (w.alloc (.cells (g.cells A n c) 26)).alloc (.cells #[.int .i64 0, .int .i64 0, .slice none 0 0] 26) by rw [hX, hY])
  have HT : Hid (Below w.heap.size w X) := Lib.hid (by rw [hX]; exact HWY.out.alloc (by omega) _)
  have KZ : Hid (Blk X (w.heap.size + 1) 26 #[.int .i64 0, .int .i64 0, .slice none 0 0]) := Lib.hid (by rw [hX, ← hsY]; exact Blk.new _ _ _)
  have HP : GP X w.heap.size B g A n c := ⟨by rw [hX, hY]; exact (Blk.new _ _ _).alloc _, hg.below HT.out⟩
  have HR := Lib.hid (l06Run_c g w.heap.size A n c B E m ec BE ds sh X HP (he.below (HT.out.mono hE)) (by have := HT.out.size; omega) hm)
  clear hg he hX hY hsY HP
  generalize driftV g ds sh = rv at *
  obtain ⟨r, co, hs'⟩ := g
  obtain ⟨⟨r', co', l'⟩, code⟩ := rv
  simp only [Fi.val, Fi.cells] at *
  go_enter Try.func21, Try.ntmps21
  go_wp2_with fail
  rw [← HX.out]
  refine HR.out.mono ?_
  rintro e w2 ⟨D, k, dd, rfl, O2, hk, B2⟩
  have KZ2 := Lib.hid (KZ.out.below B2 (by omega))
  have HT2 := Lib.hid (HT.out.trans (B2.mono HT.out.size))
  have z0 : w2.cell? ⟨w.heap.size + 1, 0, none⟩ = some (.int .i64 0) := KZ2.out.cell 0
  have z1 : w2.cell? ⟨w.heap.size + 1, 1, none⟩ = some (.int .i64 0) := KZ2.out.cell 1
  have z2 : w2.cell? ⟨w.heap.size + 1, 2, none⟩ = some (.slice none 0 0) := KZ2.out.cell 2
  have s0 := KZ2.out.frozen 0
  have s1 := KZ2.out.frozen 1
  have s2 := KZ2.out.frozen 2
  have HO := Lib.hid O2
  clear O2 B2
  simp only [Fi.val, Fi.cells] at *
  go_wp2
  refine bodyPost_ret (v := .tuple #[.agg #[.int .i64 r', .int .i64 co', .slice D k dd], .int .i64 code]) (by simp [results, Try.results21, go_sem, z0, z1, z2]) rfl ?_
  exact ⟨D, k, dd, rfl, (set3_own HO.out (.inl (by omega)) _ _ _).widen (by omega) (by simp), hk, set3_below HT2.out (by omega) _ _ _⟩
theorem gust_one (d sh : Int) : gustB [d] sh = (inB d 0 3 && inB sh 0 1000) := by simp [gustB, allInB]
theorem runV_one (d sh : Int) (g : Fi) : runV sh [d] g = if allInB 0 1000000 (stepF g d sh).hs then (stepF g d sh, 0) else (zeroFi, 6) := rfl
set_option maxHeartbeats 4000000 in
theorem sDriftStep_c (g : Fi) (A : Option Addr) (n c B : Nat) (d sh : Int) (w : World) (hg : GS w B g A n c) :
    Calls Try.prog 11 #[g.val A n c, .int .i64 d, .int .i64 sh] w (FiPost (driftV g [d] sh) w) := by
  have hbig := hg.big
  obtain ⟨Y, hY⟩ : ∃ Y, Y = w.alloc (.cells (g.cells A n c) 26) := ⟨_, rfl⟩
  have HWY : Hid (Below w.heap.size w Y) := Lib.hid (by rw [hY]; exact (Below.refl _ _).alloc (Nat.le_refl _) _)
  have hsY : Y.heap.size = w.heap.size + 1 := by rw [hY]; simp
  obtain ⟨X, hX⟩ : ∃ X, X = Y.alloc (.cells #[.int .i64 0, .int .i64 0, .slice none 0 0] 26) := ⟨_, rfl⟩
  have hs : X.heap.size = w.heap.size + 1 + 1 := by rw [hX]; simp [hsY]
  have HX := Lib.hid (show X = (w.alloc (.cells (g.cells A n c) 26)).alloc (.cells #[.int .i64 0, .int .i64 0, .slice none 0 0] 26) by rw [hX, hY])
  have HT : Hid (Below w.heap.size w X) := Lib.hid (by rw [hX]; exact HWY.out.alloc (by omega) _)
  have KZ : Hid (Blk X (w.heap.size + 1) 26 #[.int .i64 0, .int .i64 0, .slice none 0 0]) := Lib.hid (by rw [hX, ← hsY]; exact Blk.new _ _ _)
  have HP : Hid (GP X w.heap.size B g A n c) := Lib.hid ⟨by rw [hX, hY]; exact (Blk.new _ _ _).alloc _, hg.below HT.out⟩
  have HOK := Lib.hid (l06Ok_c g w.heap.size A n c B X HP.out)
  have HV1 := Lib.hid (driftV_bad (g := g) (ds := [d]) (sh := sh))
  have HV2 := Lib.hid (driftV_range (g := g) (ds := [d]) (sh := sh))
  have HV3 := Lib.hid (driftV_run (g := g) (ds := [d]) (sh := sh))
  have HRO := Lib.hid (runV_one d sh g)
  have HOKB := Lib.hid (Fi.ok_bd (g := g))
  rw [gust_one] at HV2 HV3
  clear hg hX hY hsY
  cases hgok : g.ok
  · have HV : Hid (driftV g [d] sh = (zeroFi, 1)) := Lib.hid (HV1.out hgok)
    rw [hgok] at HOK
    clear hgok HV1 HV2 HV3 HOKB HRO
    obtain ⟨r, co, hs'⟩ := g
    simp only [Fi.val, Fi.cells] at HX HP ⊢
    go_enter Try.func11, Try.ntmps11
    go_wp2_with fail
    rw [← HX.out]
    refine HOK.out.mono ?_
    rintro e w1 ⟨rfl, q, rfl⟩
    have z0 : (X.drewN q).cell? ⟨w.heap.size + 1, 0, none⟩ = some (.int .i64 0) := (KZ.out.drewN q).cell 0
    have z1 : (X.drewN q).cell? ⟨w.heap.size + 1, 1, none⟩ = some (.int .i64 0) := (KZ.out.drewN q).cell 1
    have z2 : (X.drewN q).cell? ⟨w.heap.size + 1, 2, none⟩ = some (.slice none 0 0) := (KZ.out.drewN q).cell 2
    have s0 := (KZ.out.drewN q).frozen 0
    have s1 := (KZ.out.drewN q).frozen 1
    have s2 := (KZ.out.drewN q).frozen 2
    go_wp2
    refine bodyPost_ret (v := .tuple #[.agg #[.int .i64 0, .int .i64 0, .slice none 0 0], .int .i64 1]) (by simp [results, Try.results11, go_sem, z0, z1, z2]) rfl ?_
    exact FiPost.err HV.out rfl (set3_below (below_drewN HT.out q) (by omega) _ _ _)
  · have HV2' := Lib.hid (HV2.out hgok)
    have HV3' := Lib.hid (HV3.out hgok)
    have HFO := Lib.hid (HOKB.out hgok)
    rw [hgok] at HOK
    clear hgok HV1 HV2 HV3 HOKB
    cases hd : inB d 0 3
    · have HV : Hid (driftV g [d] sh = (zeroFi, 2)) := Lib.hid (HV2'.out (by rw [hd]; rfl))
      have HD := Lib.hid hd
      clear HV2' HV3' HRO hd
      obtain ⟨r, co, hs'⟩ := g
      simp only [Fi.val, Fi.cells] at HX HP ⊢
      go_enter Try.func11, Try.ntmps11
      go_wp2_with fail
      rw [← HX.out]
      refine HOK.out.mono ?_
      rintro e w1 ⟨rfl, q, rfl⟩
      have z0 : (X.drewN q).cell? ⟨w.heap.size + 1, 0, none⟩ = some (.int .i64 0) := (KZ.out.drewN q).cell 0
      have z1 : (X.drewN q).cell? ⟨w.heap.size + 1, 1, none⟩ = some (.int .i64 0) := (KZ.out.drewN q).cell 1
      have z2 : (X.drewN q).cell? ⟨w.heap.size + 1, 2, none⟩ = some (.slice none 0 0) := (KZ.out.drewN q).cell 2
      have s0 := (KZ.out.drewN q).frozen 0
      have s1 := (KZ.out.drewN q).frozen 1
      have s2 := (KZ.out.drewN q).frozen 2
      go_wp2_with fail
      refine (l06Wind_c _ _).mono ?_
      rintro e w' ⟨rfl, rfl⟩
      rw [HD.out]
      go_wp2
      refine bodyPost_ret (v := .tuple #[.agg #[.int .i64 0, .int .i64 0, .slice none 0 0], .int .i64 2]) (by simp [results, Try.results11, go_sem, z0, z1, z2]) rfl ?_
      exact FiPost.err HV.out rfl (set3_below (below_drewN HT.out q) (by omega) _ _ _)
    · cases hsh : inB sh 0 1000
      · have HV : Hid (driftV g [d] sh = (zeroFi, 2)) := Lib.hid (HV2'.out (by rw [hd, hsh]; rfl))
        have HD := Lib.hid hd
        have HSH := Lib.hid hsh
        clear HV2' HV3' HRO hd hsh
        obtain ⟨r, co, hs'⟩ := g
        simp only [Fi.val, Fi.cells] at HX HP ⊢
        go_enter Try.func11, Try.ntmps11
        go_wp2_with fail
        rw [← HX.out]
        refine HOK.out.mono ?_
        rintro e w1 ⟨rfl, q, rfl⟩
        have z0 : (X.drewN q).cell? ⟨w.heap.size + 1, 0, none⟩ = some (.int .i64 0) := (KZ.out.drewN q).cell 0
        have z1 : (X.drewN q).cell? ⟨w.heap.size + 1, 1, none⟩ = some (.int .i64 0) := (KZ.out.drewN q).cell 1
        have z2 : (X.drewN q).cell? ⟨w.heap.size + 1, 2, none⟩ = some (.slice none 0 0) := (KZ.out.drewN q).cell 2
        have s0 := (KZ.out.drewN q).frozen 0
        have s1 := (KZ.out.drewN q).frozen 1
        have s2 := (KZ.out.drewN q).frozen 2
        go_wp2_with fail
        refine (l06Wind_c _ _).mono ?_
        rintro e w' ⟨rfl, rfl⟩
        rw [HD.out]
        go_wp2_with fail
        refine (l06Share_c _ _).mono ?_
        rintro e w' ⟨rfl, rfl⟩
        rw [HSH.out]
        go_wp2
        refine bodyPost_ret (v := .tuple #[.agg #[.int .i64 0, .int .i64 0, .slice none 0 0], .int .i64 2]) (by simp [results, Try.results11, go_sem, z0, z1, z2]) rfl ?_
        exact FiPost.err HV.out rfl (set3_below (below_drewN HT.out q) (by omega) _ _ _)
      · obtain ⟨d0, d3⟩ := inB_bd hd
        obtain ⟨h4, h5⟩ := inB_bd hsh
        have HV : Hid (driftV g [d] sh = if allInB 0 1000000 (stepF g d sh).hs then (stepF g d sh, 0) else (zeroFi, 6)) := Lib.hid (by rw [HV3'.out (by rw [hd, hsh]; rfl), HRO.out])
        have HD := Lib.hid hd
        have HSH := Lib.hid hsh
        have HST := Lib.hid fun q => l06Step_c g w.heap.size A n c B d sh (X.drewN q) (HP.out.below (below_drewN (Below.refl _ _) q)) HFO.out d0 d3 h4 h5
        have hstf : stepF g d sh = ⟨g.rows, g.cols, (stepF g d sh).hs⟩ := rfl
        rw [hstf] at HST HV
        have HLs := Lib.hid (stepF_len g d sh)
        clear HV2' HV3' HRO hd hsh hstf
        generalize (stepF g d sh).hs = L at *
        obtain ⟨r, co, hs'⟩ := g
        simp only [Fi.val, Fi.cells] at HX HP HST HV HLs ⊢
        go_enter Try.func11, Try.ntmps11
        go_wp2_with fail
        rw [← HX.out]
        refine HOK.out.mono ?_
        rintro e w1 ⟨rfl, q, rfl⟩
        go_wp2_with fail
        refine (l06Wind_c _ _).mono ?_
        rintro e w' ⟨rfl, rfl⟩
        rw [HD.out]
        go_wp2_with fail
        refine (l06Share_c _ _).mono ?_
        rintro e w' ⟨rfl, rfl⟩
        rw [HSH.out]
        go_wp2_with fail
        refine (HST.out q).mono ?_
        rintro e w2 ⟨D2, d2, rfl, O2, B2⟩
        have HTq := Lib.hid (below_drewN HT.out q)
        have KZq := Lib.hid (KZ.out.drewN q)
        have hsq : (X.drewN q).heap.size = w.heap.size + 1 + 1 := hs
        generalize X.drewN q = Xq at *
        have hs2 := B2.size
        obtain ⟨W2, hW2⟩ : ∃ W2, W2 = w2.alloc (.cells #[.int .i64 r, .int .i64 co, .slice D2 n d2] 26) := ⟨_, rfl⟩
        have BW : Below w2.heap.size w2 W2 := by rw [hW2]; exact (Below.refl _ _).alloc (Nat.le_refl _) _
        have hsW : W2.heap.size = w2.heap.size + 1 := by rw [hW2]; simp
        have KO : Hid (Blk W2 w2.heap.size 26 #[.int .i64 r, .int .i64 co, .slice D2 n d2]) := Lib.hid (by rw [hW2]; exact Blk.new _ _ _)
        have HO : Hid (Own W2 Xq.heap.size w2.heap.size 2 1 (.slice D2 n d2) n (ints L)) := Lib.hid (O2.below BW (Nat.le_refl _))
        have HT2 := Lib.hid ((HTq.out.trans (B2.mono HTq.out.size)).trans (BW.mono (by omega)))
        obtain ⟨A', c', e1, hnd, _⟩ := O2.slice
        injection e1 with e1 e2 e3
        have HGP : Hid (GP W2 w2.heap.size w2.heap.size ⟨r, co, L⟩ D2 n d2) := Lib.hid ⟨KO.out, HO.out.reads, by omega, by omega, hbig⟩
        have KZ2 : Hid (Blk W2 (w.heap.size + 1) 26 #[.int .i64 0, .int .i64 0, .slice none 0 0]) := Lib.hid ((KZq.out.below B2 (by omega)).below BW (by omega))
        have HWE := Lib.hid hW2
        clear O2 B2 BW e1 e2 e3 hW2
        simp only [Fi.val, Fi.cells]
        go_upto_region 6 with (fail)
        rw [← HWE.out]
        go_wp2_with fail
        refine (l06Masses_c ⟨r, co, L⟩ w2.heap.size D2 n d2 w2.heap.size W2 HGP.out).mono ?_
        rintro e w' ⟨rfl, rfl⟩
        have z0 : W2.cell? ⟨w.heap.size + 1, 0, none⟩ = some (.int .i64 0) := KZ2.out.cell 0
        have z1 : W2.cell? ⟨w.heap.size + 1, 1, none⟩ = some (.int .i64 0) := KZ2.out.cell 1
        have z2 : W2.cell? ⟨w.heap.size + 1, 2, none⟩ = some (.slice none 0 0) := KZ2.out.cell 2
        have s0 := KZ2.out.frozen 0
        have s1 := KZ2.out.frozen 1
        have s2 := KZ2.out.frozen 2
        simp only
        cases hall : allInB 0 1000000 L
        · have HVV : Hid (driftV ⟨r, co, hs'⟩ [d] sh = (zeroFi, 6)) := Lib.hid (by rw [HV.out, hall]; rfl)
          clear hall
          go_wp2
          refine bodyPost_ret (v := .tuple #[.agg #[.int .i64 0, .int .i64 0, .slice none 0 0], .int .i64 6]) (by simp [results, Try.results11, go_sem, z0, z1, z2]) rfl ?_
          exact FiPost.err HVV.out rfl (set3_below HT2.out (by omega) _ _ _)
        · have HVV : Hid (driftV ⟨r, co, hs'⟩ [d] sh = (⟨r, co, L⟩, 0)) := Lib.hid (by rw [HV.out, hall]; rfl)
          have r0 : W2.cell? ⟨w2.heap.size, 0, none⟩ = some (.int .i64 r) := KO.out.cell 0
          have r1 : W2.cell? ⟨w2.heap.size, 1, none⟩ = some (.int .i64 co) := KO.out.cell 1
          have r2 : W2.cell? ⟨w2.heap.size, 2, none⟩ = some (.slice D2 n d2) := KO.out.cell 2
          clear hall
          go_wp2
          refine bodyPost_ret (v := .tuple #[.agg #[.int .i64 r, .int .i64 co, .slice D2 n d2], .int .i64 0]) (by simp [results, Try.results11, go_sem, z0, z1, z2]) rfl ?_
          exact ⟨D2, n, d2, by rw [HVV.out]; rfl, by rw [HVV.out]; exact (set3_own HO.out (.inl (by omega)) _ _ _).widen (by omega) (by simp; omega), hbig, set3_below HT2.out (by omega) _ _ _⟩
end Go.Proofs.Ytndnjabalofcnaa
