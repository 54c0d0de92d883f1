/- FnDrift: drift keeps all snow, without a share nothing moves, gains add up to nothing, the worst wind is the worst. -/
import Derived.Test.YtndnjabalofcnaaFiP
import Derived.Test.YtndnjabalofcnaaOpenU
namespace Go.Proofs.Ytndnjabalofcnaa
open Go.ChangeShapes Go.WideShapes Go.ChangeAt Go.RowKit
set_option linter.unusedVariables false
set_option maxHeartbeats 16000000 in
set_option maxRecDepth 100000 in
theorem wDrift (w : World) (A : Option Addr) (n cp : Nat) (bs : List Int) (ha : Bytes w w.heap.size A n bs) (_ : n ≤ 9223372036854775807) (D : Option Addr) (m d : Nat) (cs : List Int) (hd : Bytes w w.heap.size D m cs) (_ : m ≤ 9223372036854775807) :
    Calls Try.prog 9 #[.slice A n cp, .slice D m d] w fun e w' => e = .returned (.bool true) ∧ Below w.heap.size w w' := by
  have hl1 := fun W => b10Long_c A n cp W
  have hl2 := fun W => b10Long_c D m d W
  by_cases h20 : 1048576 < n
  · clear ha hd
    rw [decide_eq_true h20] at hl1
    have HL1 := Lib.hid hl1; clear hl1 hl2
    go_enter Try.func9, Try.ntmps9
    go_wp2_with fail
    refine (HL1.out _).mono ?_
    rintro e w1 ⟨rfl, rfl⟩
    go_wp2
    go_ret
    exact ⟨rfl, Below.refl _ _⟩
  by_cases h21 : 1048576 < m
  · clear ha hd
    rw [decide_eq_false h20] at hl1
    rw [decide_eq_true h21] at hl2
    have HL1 := Lib.hid hl1
    have HL2 := Lib.hid hl2
    clear hl1 hl2
    go_enter Try.func9, Try.ntmps9
    go_wp2_with fail
    refine (HL1.out _).mono ?_
    rintro e w1 ⟨rfl, rfl⟩
    go_wp2_with fail
    refine (HL2.out _).mono ?_
    rintro e w1 ⟨rfl, rfl⟩
    go_wp2
    go_ret
    exact ⟨rfl, Below.refl _ _⟩
  rw [decide_eq_false h20] at hl1
  rw [decide_eq_false h21] at hl2
  have HL1 := Lib.hid hl1
  have HL2 := Lib.hid hl2
  have HA := Lib.hid ha
  have HD := Lib.hid hd
  clear hl1 hl2 ha hd
  go_enter Try.func9, Try.ntmps9
  go_wp2_with fail
  refine (HL1.out _).mono ?_
  rintro e w0 ⟨rfl, rfl⟩
  go_wp2_with fail
  refine (HL2.out _).mono ?_
  rintro e w0 ⟨rfl, rfl⟩
  go_wp2_with fail
  refine (DrawDriftRun_c A n cp bs w HA.out (by omega)).mono ?_
  rintro e w1 ⟨f, A1, n1, c1, D1, m1, d1, zs, sh, rfl, O1, P1, hn1, hm1, B1⟩
  obtain ⟨r, co, hs⟩ := f
  simp only [Fi.val, Fi.cells] at O1 ⊢
  have sz1 := B1.size
  obtain ⟨w2, hX⟩ : ∃ X, X = w1.alloc (.cells #[.int .i64 r, .int .i64 co, .slice A1 n1 c1] 26) := ⟨_, rfl⟩
  have B2 : Below w1.heap.size w1 w2 := by rw [hX]; exact (Below.refl _ _).alloc (Nat.le_refl _) _
  have sz2 : w2.heap.size = w1.heap.size + 1 := by rw [hX]; simp
  have KF : Hid (Blk w2 w1.heap.size 26 #[.int .i64 r, .int .i64 co, .slice A1 n1 c1]) := Lib.hid (by rw [hX]; exact Blk.new _ _ _)
  have OF := Lib.hid (O1.below B2 (Nat.le_refl _))
  have OD := Lib.hid (P1.below B2 (Nat.le_refl _))
  have T := Lib.hid (B1.trans (B2.mono sz1))
  have HX := Lib.hid hX
  clear hX B1 B2 O1 P1 HA HL1 HL2
  have HLF := Lib.hid OF.out.reads.len
  have HFS : Hid (GS w2 w1.heap.size ⟨r, co, hs⟩ A1 n1 c1) := Lib.hid (.of_own OF.out (by omega) (by omega))
  have x0 : w2.cell? ⟨w1.heap.size, 0, none⟩ = some (.int .i64 r) := KF.out.cell 0
  have x1 : w2.cell? ⟨w1.heap.size, 1, none⟩ = some (.int .i64 co) := KF.out.cell 1
  have x2 : w2.cell? ⟨w1.heap.size, 2, none⟩ = some (.slice A1 n1 c1) := KF.out.cell 2
  go_upto_region 4 with (fail)
  rw [← HX.out]
  clear HX
  go_wp2_with fail
  refine (iDriftRun_c ⟨r, co, hs⟩ A1 n1 c1 _ D1 m1 d1 _ zs sh w2 HFS.out OD.out.reads (by omega) (by omega)).mono ?_
  rintro e w3 ⟨A2, n2, c2, rfl, O2, hn2, B3⟩
  have sz3 := B3.size
  have HVC := Lib.hid (gainV_code ⟨r, co, hs⟩ zs sh)
  have HVZ := Lib.hid (gainV_zero (g := ⟨r, co, hs⟩) (ds := zs) (sh := sh))
  have HDZ := Lib.hid (driftV_zero (g := ⟨r, co, hs⟩) (ds := zs) (sh := sh))
  have HDS := Lib.hid (drift_sum (g := ⟨r, co, hs⟩) (ds := zs) (sh := sh))
  have HDD := Lib.hid (drift_dims (g := ⟨r, co, hs⟩) (ds := zs) (sh := sh))
  have HST := Lib.hid (drift_still (g := ⟨r, co, hs⟩) (ds := zs) (sh := sh))
  generalize hdv : driftV ⟨r, co, hs⟩ zs sh = dv at *
  clear hdv
  obtain ⟨⟨r', co', L⟩, code⟩ := dv
  simp only [Fi.val, Fi.cells] at O2 HVC HVZ HDZ HDS HDD HST ⊢
  have OF3 := Lib.hid (OF.out.below B3 (by omega))
  have OD3 := Lib.hid (OD.out.below B3 (by omega))
  have KF3 := Lib.hid (KF.out.below B3 (by omega))
  have T3 := Lib.hid (T.out.trans (B3.mono T.out.size))
  obtain ⟨w4, hX⟩ : ∃ X, X = w3.alloc (.cells #[.int .i64 r', .int .i64 co', .slice A2 n2 c2] 26) := ⟨_, rfl⟩
  have B4 : Below w3.heap.size w3 w4 := by rw [hX]; exact (Below.refl _ _).alloc (Nat.le_refl _) _
  have sz4 : w4.heap.size = w3.heap.size + 1 := by rw [hX]; simp
  have KN : Hid (Blk w4 w3.heap.size 26 #[.int .i64 r', .int .i64 co', .slice A2 n2 c2]) := Lib.hid (by rw [hX]; exact Blk.new _ _ _)
  have ON := Lib.hid (O2.below B4 (Nat.le_refl _))
  have OF4 := Lib.hid (OF3.out.below B4 (by omega))
  have OD4 := Lib.hid (OD3.out.below B4 (by omega))
  have KF4 := Lib.hid (KF3.out.below B4 (by omega))
  have T4 := Lib.hid (T3.out.trans (B4.mono T3.out.size))
  have HX := Lib.hid hX
  clear hX B3 B4 O2 x0 x1 x2 KF OF OD T OF3 OD3 KF3 T3 HFS
  go_upto_region 5 with (fail)
  rw [← HX.out]
  clear HX
  have x0 : w4.cell? ⟨w1.heap.size, 0, none⟩ = some (.int .i64 r) := KF4.out.cell 0
  have x1 : w4.cell? ⟨w1.heap.size, 1, none⟩ = some (.int .i64 co) := KF4.out.cell 1
  have x2 : w4.cell? ⟨w1.heap.size, 2, none⟩ = some (.slice A1 n1 c1) := KF4.out.cell 2
  go_wp2_with fail
  refine (iDriftGain_c ⟨r, co, hs⟩ A1 n1 c1 _ D1 m1 d1 _ zs sh w4 (.of_own OF4.out (by omega) (by omega)) OD4.out.reads (by omega) (by omega)).mono ?_
  rintro e w5 ⟨A3, n3, c3, rfl, O3, hn3, B5⟩
  rw [HVC.out]
  have sz5 := B5.size
  have OF5 := Lib.hid (OF4.out.below B5 (by omega))
  have OD5 := Lib.hid (OD4.out.below B5 (by omega))
  have ON5 := Lib.hid (ON.out.below B5 (by omega))
  have KF5 := Lib.hid (KF4.out.below B5 (by omega))
  have KN5 := Lib.hid (KN.out.below B5 (by omega))
  have T5 := Lib.hid (T4.out.trans (B5.mono T4.out.size))
  have OG := Lib.hid O3
  clear B5 O3 x0 x1 x2 KF4 OF4 OD4 T4 KN ON
  by_cases hcode : code = 0
  · subst hcode
    have hdz := HDZ.out rfl
    have hst := HST.out rfl
    have hds := HDS.out rfl
    have hdd := HDD.out rfl
    have hgz := HVZ.out rfl
    have HFO := Lib.hid hdz.1
    have HNO := Lib.hid hdz.2.1
    have HLL : Hid (L.length = n1) := Lib.hid (by have h1 := hdz.2.2; have h2 := HLF.out; (try simp only at h1); (try simp only at h2); omega)
    obtain ⟨rfl, rfl⟩ : r' = r ∧ co' = co := hdd
    have HSE : Hid (L.sum = hs.sum) := Lib.hid hds
    rw [hgz] at OG
    simp only at OG
    obtain rfl : n2 = n1 := by have h1 := ON5.out.reads.len; rw [HLL.out] at h1; exact h1.symm
    obtain rfl : n3 = n2 := by
      have h1 := OG.out.reads.len
      rw [subL_len (by rw [HLL.out]; exact HLF.out.symm), HLL.out] at h1
      exact h1.symm
    have HSL := Lib.hid (subL_sum (o := L) (g := hs) (by rw [HLL.out]; exact HLF.out.symm))
    have HSM := Lib.hid (subL_mem (o := L) (g := hs) (hs_bd HNO.out) (hs_bd HFO.out) (by rw [HLL.out]; exact HLF.out.symm))
    have HSA := Lib.hid fun k hk => subL_at (o := L) (g := hs) (by rw [HLL.out]; exact HLF.out.symm) (k := k) hk
    have hFSb := lsum_bd 1000000 (by omega) hs (fi_mem HFO.out)
    have HSTL := Lib.hid hst
    have x0 : w5.cell? ⟨w1.heap.size, 0, none⟩ = some (.int .i64 r') := KF5.out.cell 0
    have x1 : w5.cell? ⟨w1.heap.size, 1, none⟩ = some (.int .i64 co') := KF5.out.cell 1
    have x2 : w5.cell? ⟨w1.heap.size, 2, none⟩ = some (.slice A1 n3 c1) := KF5.out.cell 2
    clear hdz hst hds hgz HDZ HST HDS HDD HVZ
    go_wp2_with fail
    refine (FieldMass_c ⟨r', co', hs⟩ A1 n3 c1 _ w5 (.of_own OF5.out (by omega) (by omega)) HFO.out).mono ?_
    rintro e w6 ⟨rfl, B6⟩
    have sz6 := B6.size
    have OF6 := Lib.hid (OF5.out.below B6 (by omega))
    have OD6 := Lib.hid (OD5.out.below B6 (by omega))
    have ON6 := Lib.hid (ON5.out.below B6 (by omega))
    have OG6 := Lib.hid (OG.out.below B6 (by omega))
    have KF6 := Lib.hid (KF5.out.below B6 (by omega))
    have KN6 := Lib.hid (KN5.out.below B6 (by omega))
    have T6 := Lib.hid (T5.out.trans (B6.mono T5.out.size))
    clear B6 x0 x1 x2 OF5 OD5 ON5 OG KF5 KN5 T5
    have y0 : w6.cell? ⟨w3.heap.size, 0, none⟩ = some (.int .i64 r') := KN6.out.cell 0
    have y1 : w6.cell? ⟨w3.heap.size, 1, none⟩ = some (.int .i64 co') := KN6.out.cell 1
    have y2 : w6.cell? ⟨w3.heap.size, 2, none⟩ = some (.slice A2 n3 c2) := KN6.out.cell 2
    go_wp2_with fail
    refine (FieldMass_c ⟨r', co', L⟩ A2 n3 c2 _ w6 (.of_own ON6.out (by omega) (by omega)) HNO.out).mono ?_
    rintro e w7 ⟨rfl, B7⟩
    have sz7 := B7.size
    have OF7 := Lib.hid (OF6.out.below B7 (by omega))
    have OD7 := Lib.hid (OD6.out.below B7 (by omega))
    have ON7 := Lib.hid (ON6.out.below B7 (by omega))
    have OG7 := Lib.hid (OG6.out.below B7 (by omega))
    have KF7 := Lib.hid (KF6.out.below B7 (by omega))
    have KN7 := Lib.hid (KN6.out.below B7 (by omega))
    have T7 := Lib.hid (T6.out.trans (B7.mono T6.out.size))
    clear B7 y0 y1 y2 OF6 OD6 ON6 OG6 KF6 KN6 T6
    have x0 : w7.cell? ⟨w1.heap.size, 0, none⟩ = some (.int .i64 r') := KF7.out.cell 0
    have x1 : w7.cell? ⟨w1.heap.size, 1, none⟩ = some (.int .i64 co') := KF7.out.cell 1
    have x2 : w7.cell? ⟨w1.heap.size, 2, none⟩ = some (.slice A1 n3 c1) := KF7.out.cell 2
    have HDR := Lib.hid (iDriftRun_c ⟨r', co', hs⟩ A1 n3 c1 _ D1 m1 d1 _ zs 0 w7 (.of_own OF7.out (by omega) (by omega)) OD7.out.reads (by omega) (by omega))
    rw [HSTL.out] at HDR
    simp only [HSE.out]
    generalize hs.sum = S at *
    go_wp2_with fail
    refine HDR.out.mono ?_
    rintro e w8 ⟨A4, n4, c4, rfl, O8, hn4, B8⟩
    simp only [Fi.val, Fi.cells] at O8 ⊢
    have sz8 := B8.size
    obtain rfl : n4 = n3 := by have h1 := O8.reads.len; have h2 := HLF.out; (try simp only at h2); omega
    obtain ⟨w9, hX⟩ : ∃ X, X = w8.alloc (.cells #[.int .i64 r', .int .i64 co', .slice A4 n4 c4] 26) := ⟨_, rfl⟩
    have B9 : Below w8.heap.size w8 w9 := by rw [hX]; exact (Below.refl _ _).alloc (Nat.le_refl _) _
    have sz9 : w9.heap.size = w8.heap.size + 1 := by rw [hX]; simp
    have KS : Hid (Blk w9 w8.heap.size 26 #[.int .i64 r', .int .i64 co', .slice A4 n4 c4]) := Lib.hid (by rw [hX]; exact Blk.new _ _ _)
    have OS := Lib.hid (O8.below B9 (Nat.le_refl _))
    have BB := B8.trans (B9.mono sz8)
    have OF9 := Lib.hid (OF7.out.below BB (by omega))
    have ON9 := Lib.hid (ON7.out.below BB (by omega))
    have OG9 := Lib.hid (OG7.out.below BB (by omega))
    have KF9 := Lib.hid (KF7.out.below BB (by omega))
    have KN9 := Lib.hid (KN7.out.below BB (by omega))
    have T9 := Lib.hid (T7.out.trans (BB.mono T7.out.size))
    have HX := Lib.hid hX
    clear hX B8 B9 BB O8 x0 x1 x2 OF7 OD7 ON7 OG7 KF7 KN7 T7 HDR
    go_upto_region 12 with (fail)
    rw [← HX.out]
    clear HX
    have y0 : w9.cell? ⟨w3.heap.size, 0, none⟩ = some (.int .i64 r') := KN9.out.cell 0
    have y1 : w9.cell? ⟨w3.heap.size, 1, none⟩ = some (.int .i64 co') := KN9.out.cell 1
    have y2 : w9.cell? ⟨w3.heap.size, 2, none⟩ = some (.slice A2 n4 c2) := KN9.out.cell 2
    have HVF := Lib.hid (sValidField_c ⟨r', co', L⟩ A2 n4 c2 _ w9 (.of_own ON9.out (by omega) (by omega)))
    rw [HNO.out.ok] at HVF
    go_wp2_with fail
    refine HVF.out.mono ?_
    rintro e u1 ⟨rfl, E1⟩
    have uz1 := E1.size
    have OS1 := Lib.hid (OS.out.below E1 (by omega))
    have OF10 := Lib.hid (OF9.out.below E1 (by omega))
    have ON10 := Lib.hid (ON9.out.below E1 (by omega))
    have OG10 := Lib.hid (OG9.out.below E1 (by omega))
    have KF10 := Lib.hid (KF9.out.below E1 (by omega))
    have KN10 := Lib.hid (KN9.out.below E1 (by omega))
    have KS10 := Lib.hid (KS.out.below E1 (by omega))
    have T10 := Lib.hid (T9.out.trans (E1.mono T9.out.size))
    clear E1 y0 y1 y2 HVF OF9 ON9 OG9 KF9 KN9 T9 OS KS
    have x0 : u1.cell? ⟨w1.heap.size, 0, none⟩ = some (.int .i64 r') := KF10.out.cell 0
    have x1 : u1.cell? ⟨w1.heap.size, 1, none⟩ = some (.int .i64 co') := KF10.out.cell 1
    have x2 : u1.cell? ⟨w1.heap.size, 2, none⟩ = some (.slice A1 n4 c1) := KF10.out.cell 2
    have y0 : u1.cell? ⟨w3.heap.size, 0, none⟩ = some (.int .i64 r') := KN10.out.cell 0
    have y1 : u1.cell? ⟨w3.heap.size, 1, none⟩ = some (.int .i64 co') := KN10.out.cell 1
    have s0 : u1.cell? ⟨w8.heap.size, 0, none⟩ = some (.int .i64 r') := KS10.out.cell 0
    have s1 : u1.cell? ⟨w8.heap.size, 1, none⟩ = some (.int .i64 co') := KS10.out.cell 1
    have s2 : u1.cell? ⟨w8.heap.size, 2, none⟩ = some (.slice A4 n4 c4) := KS10.out.cell 2
    have HBS := Lib.hid (b10Sum_c A3 n4 c3 _ (subL L hs) u1 OG10.out.reads (by omega) HSM.out)
    rw [show (subL L hs).sum = 0 from by rw [HSL.out]; have := HSE.out; omega] at HBS
    go_wp2_with fail
    refine HBS.out.mono ?_
    rintro e w' ⟨rfl, rfl⟩
    have HSF := Lib.hid (SameField_self ⟨r', co', hs⟩ A4 A1 n4 c4 c1 _ _ u1 (.of_own OS1.out (by omega) (by omega)) (.of_own OF10.out (by omega) (by omega)))
    go_wp2_with fail
    refine HSF.out.mono ?_
    rintro e u2 ⟨rfl, E2⟩
    have uz2 := E2.size
    have OF11 := Lib.hid (OF10.out.below E2 (by omega))
    have ON11 := Lib.hid (ON10.out.below E2 (by omega))
    have OG11 := Lib.hid (OG10.out.below E2 (by omega))
    have KF11 := Lib.hid (KF10.out.below E2 (by omega))
    have KN11 := Lib.hid (KN10.out.below E2 (by omega))
    have T := Lib.hid (T10.out.trans (E2.mono T10.out.size))
    clear E2 x0 x1 x2 y0 y1 s0 s1 s2 HBS HSF OF10 ON10 OG10 KF10 KN10 T10 OS1 KS10
    go_wp2
    go_loopw [18] (fun i wr => ∃ k q : Nat, k ≤ n4 ∧ i = .int .i64 k ∧ wr = u2.drewN q) (fun i _ => n4 - (intOf i).toNat)
    case atStart => exact ⟨0, 0, Nat.zero_le _, rfl, rfl⟩
    case round =>
      obtain ⟨k, q, hk, rfl, rfl⟩ := hrel
      by_cases hlt : k < n4
      · obtain ⟨ad, z, rfl, _, hz, hc⟩ := OF11.out.reads.int hlt
        obtain ⟨ad2, z2, rfl, _, hz2, hc2⟩ := ON11.out.reads.int hlt
        obtain ⟨ad3, z3, rfl, _, hz3, hc3⟩ := OG11.out.reads.int hlt
        have b1 := hs_bd HFO.out k
        have b2 := hs_bd HNO.out k
        have hzl := lAt_get hz
        have hzl2 := lAt_get hz2
        have hzl3 := lAt_get hz3
        have hse := HSA.out k (by rw [HLL.out]; exact hlt)
        (try simp only at hzl)
        (try simp only at hzl2)
        (try simp only at b1)
        (try simp only at b2)
        rw [hzl] at b1 hse
        rw [hzl2] at b2 hse
        rw [hzl3] at hse
        subst hse
        have x2 : u2.cell? ⟨w1.heap.size, 2, none⟩ = some (.slice (some ad) n4 c1) := KF11.out.cell 2
        have y2 : u2.cell? ⟨w3.heap.size, 2, none⟩ = some (.slice (some ad2) n4 c2) := KN11.out.cell 2
        have hkn : (k : Int) < (n4 : Int) := by omega
        have e1 : IntKind.i64.wrap (z + (z2 - z)) = z2 := by rw [show z + (z2 - z) = z2 by omega]; exact IntWalk.i64_in _ (by omega)
        clear hz hz2 hz3 hzl hzl2 hzl3
        go_upto_region 17 with (fail)
        go_quiet (fail)
        clear e1
        go_wp2
        go_roundw
        case rel => exact ⟨k + 1, _, by omega, by go_num, rfl⟩
        case measure => simp [intOf]; omega
      · obtain rfl : k = n4 := by omega
        have T0 := T
        clear T
        have T := Lib.hid (below_drewN T0.out q)
        generalize u2.drewN q = u3 at *
        clear OF11 ON11 OG11 KF11 KN11 T0
        go_wp2_with fail
        refine (DrawWorstWind_c D m d cs u3 ((HD.out.below T.out).more T.out.size) (by omega)).mono ?_
        rintro e v1 ⟨g2, A5, n5, c5, sh2, cl, rfl, O5, hn5, hc1, hc2, C1⟩
        obtain ⟨r2, co2, hs2⟩ := g2
        simp only [Fi.val, Fi.cells] at O5 ⊢
        have tz1 := C1.size
        obtain ⟨v2, hX2⟩ : ∃ X, X = v1.alloc (.cells #[.int .i64 r2, .int .i64 co2, .slice A5 n5 c5] 26) := ⟨_, rfl⟩
        have C2 : Below v1.heap.size v1 v2 := by rw [hX2]; exact (Below.refl _ _).alloc (Nat.le_refl _) _
        have KG : Hid (Blk v2 v1.heap.size 26 #[.int .i64 r2, .int .i64 co2, .slice A5 n5 c5]) := Lib.hid (by rw [hX2]; exact Blk.new _ _ _)
        have tz2 : v2.heap.size = v1.heap.size + 1 := by rw [hX2]; simp
        have OG := Lib.hid (O5.below C2 (Nat.le_refl _))
        replace T := Lib.hid ((T.out.trans (C1.mono T.out.size)).trans (C2.mono (by have := T.out.size; omega)))
        have HX2 := Lib.hid hX2
        clear hX2 C1 C2 O5
        have HL5 := Lib.hid OG.out.reads.len
        go_upto_region 20 with (fail)
        rw [← HX2.out]
        have g0 : v2.cell? ⟨v1.heap.size, 0, none⟩ = some (.int .i64 r2) := KG.out.cell 0
        have g1 : v2.cell? ⟨v1.heap.size, 1, none⟩ = some (.int .i64 co2) := KG.out.cell 1
        have g2 : v2.cell? ⟨v1.heap.size, 2, none⟩ = some (.slice A5 n5 c5) := KG.out.cell 2
        have HGS : Hid (GS v2 v1.heap.size ⟨r2, co2, hs2⟩ A5 n5 c5) := Lib.hid (.of_own OG.out (by omega) (by omega))
        have HW0 := Lib.hid (worstV_zero (g := ⟨r2, co2, hs2⟩) (sh := sh2) (cell := cl))
        have HWC := Lib.hid (worstV_code (g := ⟨r2, co2, hs2⟩) (sh := sh2) (cell := cl))
        go_wp2_with fail
        refine (iWorstWind_c ⟨r2, co2, hs2⟩ A5 n5 c5 _ sh2 cl v2 HGS.out).mono ?_
        rintro e v3 ⟨rfl, C3⟩
        have tz3 := C3.size
        have KG3 := Lib.hid (KG.out.below C3 (by omega))
        have HG3 := Lib.hid (HGS.out.below C3)
        replace T := Lib.hid (T.out.trans (C3.mono T.out.size))
        clear C3 g0 g1 g2 HX2 KG OG HGS
        generalize worstV ⟨r2, co2, hs2⟩ sh2 cl = wv at *
        obtain ⟨wd, wm, wc⟩ := wv
        simp only at HW0 HWC ⊢
        by_cases hwc : wc = 0
        · subst hwc
          obtain ⟨hok, hsh, q0, q1, q2, q3, hwo⟩ := HW0.out rfl
          obtain ⟨ci, rfl⟩ : ∃ ci : Nat, cl = ci := ⟨cl.toNat, by omega⟩
          rw [Int.toNat_natCast] at hwo
          obtain ⟨jd, rfl⟩ : ∃ jd : Nat, wd = jd := ⟨wd.toNat, by omega⟩
          obtain ⟨j2, hj2, _, hokj, hmj⟩ := hwo.some_ (by simp only; omega)
          obtain rfl : jd = j2 := by (try simp only at hj2); omega
          have hcn : ci < n5 := by have := HL5.out; (try simp only at q1); omega
          have HFO := Lib.hid (Fi.ok_bd hok)
          have HBE := Lib.hid hwo.best
          have HOK := Lib.hid hok
          have HSH := Lib.hid hsh
          have HOJ := Lib.hid hokj
          have HMJ := Lib.hid hmj
          have HBG := Lib.hid (hs_bd HFO.out)
          have hwm : -1000000 ≤ wm ∧ wm ≤ 1000000 := by
            have b1 : 0 ≤ lAt hs2 ci ∧ lAt hs2 ci ≤ 1000000 := hs_bd HFO.out ci
            have b2 := hs_bd (stepF_fi HFO.out hokj) ci
            simp only [gainK] at hmj
            omega
          clear HW0 HWC hwo hok hsh hokj hmj hj2 q1 q2
          go_wp2
          go_loopw [25] (fun i wr => ∃ k : Nat, k ≤ 4 ∧ i = .int .i64 k ∧ Hid (Below v3.heap.size v3 wr)) (fun i _ => 4 - (intOf i).toNat)
          case atStart => exact ⟨0, Nat.zero_le _, rfl, Lib.hid (Below.refl _ _)⟩
          case round =>
            obtain ⟨k, hk, rfl, HB⟩ := hrel
            have hwz := HB.out.size
            by_cases hlt : k < 4
            · have KGr := Lib.hid (KG3.out.below HB.out (by omega))
              have HGr := Lib.hid (HG3.out.below HB.out)
              have g0 : wr.cell? ⟨v1.heap.size, 0, none⟩ = some (.int .i64 r2) := KGr.out.cell 0
              have g1 : wr.cell? ⟨v1.heap.size, 1, none⟩ = some (.int .i64 co2) := KGr.out.cell 1
              have g2 : wr.cell? ⟨v1.heap.size, 2, none⟩ = some (.slice A5 n5 c5) := KGr.out.cell 2
              have HST := Lib.hid (sDriftStep_c ⟨r2, co2, hs2⟩ A5 n5 c5 _ (k : Int) sh2 wr HGr.out)
              rw [driftV_one HOK.out HSH.out k hlt] at HST
              have hlsf := stepF_len ⟨r2, co2, hs2⟩ k sh2
              have HSF := Lib.hid fun h => stepF_fi HFO.out (d := (k : Int)) (sh := sh2) h
              have HBK := Lib.hid (HBE.out k hlt)
              unfold gainK at HBK
              have HKJ : Hid (okK ⟨r2, co2, hs2⟩ sh2 k = false → k ≠ jd) := Lib.hid (fun h e => by rw [e, HOJ.out] at h; cases h)
              have HKE : Hid (k = jd → wm = lAt (stepF ⟨r2, co2, hs2⟩ k sh2).hs ci - lAt hs2 ci) := Lib.hid (fun e => by rw [e]; exact HMJ.out)
              rw [show stepF ⟨r2, co2, hs2⟩ k sh2 = ⟨r2, co2, (stepF ⟨r2, co2, hs2⟩ k sh2).hs⟩ from rfl] at HST HSF
              have HOL : Hid (okK ⟨r2, co2, hs2⟩ sh2 k = allInB 0 1000000 (stepF ⟨r2, co2, hs2⟩ k sh2).hs) := Lib.hid rfl
              generalize okK ⟨r2, co2, hs2⟩ sh2 k = okk at *
              generalize (stepF ⟨r2, co2, hs2⟩ k sh2).hs = L at *
              simp only at hlsf HBK HBG
              go_wp2_with fail
              refine HST.out.mono ?_
              rintro e v4 ⟨E6, n6, c6, rfl, O6, hn6, C4⟩
              have tz4 := C4.size
              have KG4 := Lib.hid (KGr.out.below C4 (by omega))
              have HG4 := Lib.hid (HGr.out.below C4)
              have HB4 := Lib.hid (HB.out.trans (C4.mono hwz))
              clear HST C4 g0 g1 g2
              cases okk
              · have hkj := HKJ.out rfl
                have hkj' : ((k : Int) == (jd : Int)) = false := by simp; omega
                simp only [Bool.false_eq_true, if_false, Fi.val, Fi.cells, zeroFi] at O6 ⊢
                clear O6 HBK HKE HSF HKJ HOL
                go_wp2
                go_roundw
                case rel => exact ⟨k + 1, by omega, by go_num, Lib.hid (HB4.out.alloc (by omega) _)⟩
                case measure => simp [intOf]; omega
              · simp only [if_true, Fi.val, Fi.cells] at O6 ⊢
                have hfl := HSF.out HOL.out.symm
                obtain ⟨hbk1, hbk2⟩ := HBK.out rfl
                have hke := HKE.out
                have hbl := hs_bd hfl ci
                have hbg := HBG.out ci
                simp only at hbl
                obtain rfl : n6 = n5 := by
                  have h1 := O6.reads.len
                  rw [hlsf, HL5.out] at h1
                  exact h1.symm
                obtain ⟨v5, hX5⟩ : ∃ X, X = v4.alloc (.cells #[.int .i64 r2, .int .i64 co2, .slice E6 n6 c6] 26) := ⟨_, rfl⟩
                have C5 : Below v4.heap.size v4 v5 := by rw [hX5]; exact (Below.refl _ _).alloc (Nat.le_refl _) _
                have KO : Hid (Blk v5 v4.heap.size 26 #[.int .i64 r2, .int .i64 co2, .slice E6 n6 c6]) := Lib.hid (by rw [hX5]; exact Blk.new _ _ _)
                have tz5 : v5.heap.size = v4.heap.size + 1 := by rw [hX5]; simp
                have KG5 := Lib.hid (KG4.out.below C5 (by omega))
                have HG5 := Lib.hid (HG4.out.below C5)
                have HB5 := Lib.hid (HB4.out.trans (C5.mono (by omega)))
                obtain ⟨ad, z, rfl, _, hz, hc⟩ := HG5.out.rd.int hcn
                obtain ⟨ad2, z2, rfl, _, hz2, hc2⟩ := (O6.below C5 (Nat.le_refl _)).reads.int hcn
                have hzl := lAt_get hz
                have hzl2 := lAt_get hz2
                (try simp only at hzl)
                (try simp only at hzl2)
                rw [hzl] at hbg hbk1 hbk2 hke
                rw [hzl2] at hbl hbk1 hbk2 hke
                have e1 : IntKind.i64.wrap (z2 - z) = z2 - z := IntWalk.i64_in _ (by omega)
                have hcm : (ci : Int) < (n6 : Int) := by omega
                have HXE := Lib.hid hX5
                clear O6 C5 hX5 hz hz2 hzl hzl2 hfl HBK HKE HSF HKJ HOL
                go_upto_region 27 with (fail)
                rw [← HXE.out]
                have g2 : v5.cell? ⟨v1.heap.size, 2, none⟩ = some (.slice (some ad) n6 c5) := KG5.out.cell 2
                have o2 : v5.cell? ⟨v4.heap.size, 2, none⟩ = some (.slice (some ad2) n6 c6) := KO.out.cell 2
                go_upto_region 32 with (fail)
                go_quiet (fail)
                clear e1 hc hc2 g2 o2
                have f1 : decide (wm < z2 - z) = false := by simp; omega
                by_cases hkj : k = jd
                · subst hkj
                  have f2 := hke rfl
                  obtain ⟨zz, hzz⟩ : ∃ zz : Int, zz = z2 - z := ⟨_, rfl⟩
                  rw [← hzz] at f1 f2 hbk1 hbk2 ⊢
                  subst f2
                  clear hke hbk1 hbk2 hzz
                  go_wp2
                  go_roundw
                  case rel => exact ⟨k + 1, by omega, by go_num, Lib.hid (below_drewN HB5.out _)⟩
                  case measure => simp [intOf]; omega
                · have hkj' : ((k : Int) == (jd : Int)) = false := by simp; omega
                  by_cases hkl : k < jd
                  · have f2 := hbk2 (by omega)
                    have f3 : ((z2 - z) == wm) = false := by simp; omega
                    clear hke hbk1 hbk2
                    go_wp2
                    go_roundw
                    case rel => exact ⟨k + 1, by omega, by go_num, Lib.hid (below_drewN HB5.out _)⟩
                    case measure => simp [intOf]; omega
                  · clear hke hbk1 hbk2
                    go_wp2
                    go_roundw
                    case rel => exact ⟨k + 1, by omega, by go_num, Lib.hid (below_drewN HB5.out _)⟩
                    case measure => simp [intOf]; omega
            · obtain rfl : k = 4 := by omega
              go_wp2
              go_ret
              exact ⟨ret_bool (by simp), T.out.trans (HB.out.mono T.out.size)⟩
        · have hne : (wc != 0) = true := by simpa using hwc
          obtain ⟨w1z, w2z⟩ := HWC.out hwc
          subst w1z w2z
          go_wp2
          go_ret
          exact ⟨rfl, T.out⟩
  · have hne : (code == 0) = false := by simpa using hcode
    have T := T5
    clear OF5 OD5 ON5 OG KF5 KN5 T5 HDZ HST HDS HDD HVZ hcode
    go_wp2_with fail
    refine (DrawWorstWind_c D m d cs w5 ((HD.out.below T.out).more T.out.size) (by omega)).mono ?_
    rintro e v1 ⟨g2, A5, n5, c5, sh2, cl, rfl, O5, hn5, hc1, hc2, C1⟩
    obtain ⟨r2, co2, hs2⟩ := g2
    simp only [Fi.val, Fi.cells] at O5 ⊢
    have tz1 := C1.size
    obtain ⟨v2, hX2⟩ : ∃ X, X = v1.alloc (.cells #[.int .i64 r2, .int .i64 co2, .slice A5 n5 c5] 26) := ⟨_, rfl⟩
    have C2 : Below v1.heap.size v1 v2 := by rw [hX2]; exact (Below.refl _ _).alloc (Nat.le_refl _) _
    have KG : Hid (Blk v2 v1.heap.size 26 #[.int .i64 r2, .int .i64 co2, .slice A5 n5 c5]) := Lib.hid (by rw [hX2]; exact Blk.new _ _ _)
    have tz2 : v2.heap.size = v1.heap.size + 1 := by rw [hX2]; simp
    have OG := Lib.hid (O5.below C2 (Nat.le_refl _))
    replace T := Lib.hid ((T.out.trans (C1.mono T.out.size)).trans (C2.mono (by have := T.out.size; omega)))
    have HX2 := Lib.hid hX2
    clear hX2 C1 C2 O5
    have HL5 := Lib.hid OG.out.reads.len
    go_upto_region 20 with (fail)
    rw [← HX2.out]
    have g0 : v2.cell? ⟨v1.heap.size, 0, none⟩ = some (.int .i64 r2) := KG.out.cell 0
    have g1 : v2.cell? ⟨v1.heap.size, 1, none⟩ = some (.int .i64 co2) := KG.out.cell 1
    have g2 : v2.cell? ⟨v1.heap.size, 2, none⟩ = some (.slice A5 n5 c5) := KG.out.cell 2
    have HGS : Hid (GS v2 v1.heap.size ⟨r2, co2, hs2⟩ A5 n5 c5) := Lib.hid (.of_own OG.out (by omega) (by omega))
    have HW0 := Lib.hid (worstV_zero (g := ⟨r2, co2, hs2⟩) (sh := sh2) (cell := cl))
    have HWC := Lib.hid (worstV_code (g := ⟨r2, co2, hs2⟩) (sh := sh2) (cell := cl))
    go_wp2_with fail
    refine (iWorstWind_c ⟨r2, co2, hs2⟩ A5 n5 c5 _ sh2 cl v2 HGS.out).mono ?_
    rintro e v3 ⟨rfl, C3⟩
    have tz3 := C3.size
    have KG3 := Lib.hid (KG.out.below C3 (by omega))
    have HG3 := Lib.hid (HGS.out.below C3)
    replace T := Lib.hid (T.out.trans (C3.mono T.out.size))
    clear C3 g0 g1 g2 HX2 KG OG HGS
    generalize worstV ⟨r2, co2, hs2⟩ sh2 cl = wv at *
    obtain ⟨wd, wm, wc⟩ := wv
    simp only at HW0 HWC ⊢
    by_cases hwc : wc = 0
    · subst hwc
      obtain ⟨hok, hsh, q0, q1, q2, q3, hwo⟩ := HW0.out rfl
      obtain ⟨ci, rfl⟩ : ∃ ci : Nat, cl = ci := ⟨cl.toNat, by omega⟩
      rw [Int.toNat_natCast] at hwo
      obtain ⟨jd, rfl⟩ : ∃ jd : Nat, wd = jd := ⟨wd.toNat, by omega⟩
      obtain ⟨j2, hj2, _, hokj, hmj⟩ := hwo.some_ (by simp only; omega)
      obtain rfl : jd = j2 := by (try simp only at hj2); omega
      have hcn : ci < n5 := by have := HL5.out; (try simp only at q1); omega
      have HFO := Lib.hid (Fi.ok_bd hok)
      have HBE := Lib.hid hwo.best
      have HOK := Lib.hid hok
      have HSH := Lib.hid hsh
      have HOJ := Lib.hid hokj
      have HMJ := Lib.hid hmj
      have HBG := Lib.hid (hs_bd HFO.out)
      have hwm : -1000000 ≤ wm ∧ wm ≤ 1000000 := by
        have b1 : 0 ≤ lAt hs2 ci ∧ lAt hs2 ci ≤ 1000000 := hs_bd HFO.out ci
        have b2 := hs_bd (stepF_fi HFO.out hokj) ci
        simp only [gainK] at hmj
        omega
      clear HW0 HWC hwo hok hsh hokj hmj hj2 q1 q2
      go_wp2
      go_loopw [25] (fun i wr => ∃ k : Nat, k ≤ 4 ∧ i = .int .i64 k ∧ Hid (Below v3.heap.size v3 wr)) (fun i _ => 4 - (intOf i).toNat)
      case atStart => exact ⟨0, Nat.zero_le _, rfl, Lib.hid (Below.refl _ _)⟩
      case round =>
        obtain ⟨k, hk, rfl, HB⟩ := hrel
        have hwz := HB.out.size
        by_cases hlt : k < 4
        · have KGr := Lib.hid (KG3.out.below HB.out (by omega))
          have HGr := Lib.hid (HG3.out.below HB.out)
          have g0 : wr.cell? ⟨v1.heap.size, 0, none⟩ = some (.int .i64 r2) := KGr.out.cell 0
          have g1 : wr.cell? ⟨v1.heap.size, 1, none⟩ = some (.int .i64 co2) := KGr.out.cell 1
          have g2 : wr.cell? ⟨v1.heap.size, 2, none⟩ = some (.slice A5 n5 c5) := KGr.out.cell 2
          have HST := Lib.hid (sDriftStep_c ⟨r2, co2, hs2⟩ A5 n5 c5 _ (k : Int) sh2 wr HGr.out)
          rw [driftV_one HOK.out HSH.out k hlt] at HST
          have hlsf := stepF_len ⟨r2, co2, hs2⟩ k sh2
          have HSF := Lib.hid fun h => stepF_fi HFO.out (d := (k : Int)) (sh := sh2) h
          have HBK := Lib.hid (HBE.out k hlt)
          unfold gainK at HBK
          have HKJ : Hid (okK ⟨r2, co2, hs2⟩ sh2 k = false → k ≠ jd) := Lib.hid (fun h e => by rw [e, HOJ.out] at h; cases h)
          have HKE : Hid (k = jd → wm = lAt (stepF ⟨r2, co2, hs2⟩ k sh2).hs ci - lAt hs2 ci) := Lib.hid (fun e => by rw [e]; exact HMJ.out)
          rw [show stepF ⟨r2, co2, hs2⟩ k sh2 = ⟨r2, co2, (stepF ⟨r2, co2, hs2⟩ k sh2).hs⟩ from rfl] at HST HSF
          have HOL : Hid (okK ⟨r2, co2, hs2⟩ sh2 k = allInB 0 1000000 (stepF ⟨r2, co2, hs2⟩ k sh2).hs) := Lib.hid rfl
          generalize okK ⟨r2, co2, hs2⟩ sh2 k = okk at *
          generalize (stepF ⟨r2, co2, hs2⟩ k sh2).hs = L at *
          simp only at hlsf HBK HBG
          go_wp2_with fail
          refine HST.out.mono ?_
          rintro e v4 ⟨E6, n6, c6, rfl, O6, hn6, C4⟩
          have tz4 := C4.size
          have KG4 := Lib.hid (KGr.out.below C4 (by omega))
          have HG4 := Lib.hid (HGr.out.below C4)
          have HB4 := Lib.hid (HB.out.trans (C4.mono hwz))
          clear HST C4 g0 g1 g2
          cases okk
          · have hkj := HKJ.out rfl
            have hkj' : ((k : Int) == (jd : Int)) = false := by simp; omega
            simp only [Bool.false_eq_true, if_false, Fi.val, Fi.cells, zeroFi] at O6 ⊢
            clear O6 HBK HKE HSF HKJ HOL
            go_wp2
            go_roundw
            case rel => exact ⟨k + 1, by omega, by go_num, Lib.hid (HB4.out.alloc (by omega) _)⟩
            case measure => simp [intOf]; omega
          · simp only [if_true, Fi.val, Fi.cells] at O6 ⊢
            have hfl := HSF.out HOL.out.symm
            obtain ⟨hbk1, hbk2⟩ := HBK.out rfl
            have hke := HKE.out
            have hbl := hs_bd hfl ci
            have hbg := HBG.out ci
            simp only at hbl
            obtain rfl : n6 = n5 := by
              have h1 := O6.reads.len
              rw [hlsf, HL5.out] at h1
              exact h1.symm
            obtain ⟨v5, hX5⟩ : ∃ X, X = v4.alloc (.cells #[.int .i64 r2, .int .i64 co2, .slice E6 n6 c6] 26) := ⟨_, rfl⟩
            have C5 : Below v4.heap.size v4 v5 := by rw [hX5]; exact (Below.refl _ _).alloc (Nat.le_refl _) _
            have KO : Hid (Blk v5 v4.heap.size 26 #[.int .i64 r2, .int .i64 co2, .slice E6 n6 c6]) := Lib.hid (by rw [hX5]; exact Blk.new _ _ _)
            have tz5 : v5.heap.size = v4.heap.size + 1 := by rw [hX5]; simp
            have KG5 := Lib.hid (KG4.out.below C5 (by omega))
            have HG5 := Lib.hid (HG4.out.below C5)
            have HB5 := Lib.hid (HB4.out.trans (C5.mono (by omega)))
            obtain ⟨ad, z, rfl, _, hz, hc⟩ := HG5.out.rd.int hcn
            obtain ⟨ad2, z2, rfl, _, hz2, hc2⟩ := (O6.below C5 (Nat.le_refl _)).reads.int hcn
            have hzl := lAt_get hz
            have hzl2 := lAt_get hz2
            (try simp only at hzl)
            (try simp only at hzl2)
            rw [hzl] at hbg hbk1 hbk2 hke
            rw [hzl2] at hbl hbk1 hbk2 hke
            have e1 : IntKind.i64.wrap (z2 - z) = z2 - z := IntWalk.i64_in _ (by omega)
            have hcm : (ci : Int) < (n6 : Int) := by omega
            have HXE := Lib.hid hX5
            clear O6 C5 hX5 hz hz2 hzl hzl2 hfl HBK HKE HSF HKJ HOL
            go_upto_region 27 with (fail)
            rw [← HXE.out]
            have g2 : v5.cell? ⟨v1.heap.size, 2, none⟩ = some (.slice (some ad) n6 c5) := KG5.out.cell 2
            have o2 : v5.cell? ⟨v4.heap.size, 2, none⟩ = some (.slice (some ad2) n6 c6) := KO.out.cell 2
            go_upto_region 32 with (fail)
            go_quiet (fail)
            clear e1 hc hc2 g2 o2
            have f1 : decide (wm < z2 - z) = false := by simp; omega
            by_cases hkj : k = jd
            · subst hkj
              have f2 := hke rfl
              obtain ⟨zz, hzz⟩ : ∃ zz : Int, zz = z2 - z := ⟨_, rfl⟩
              rw [← hzz] at f1 f2 hbk1 hbk2 ⊢
              subst f2
              clear hke hbk1 hbk2 hzz
              go_wp2
              go_roundw
              case rel => exact ⟨k + 1, by omega, by go_num, Lib.hid (below_drewN HB5.out _)⟩
              case measure => simp [intOf]; omega
            · have hkj' : ((k : Int) == (jd : Int)) = false := by simp; omega
              by_cases hkl : k < jd
              · have f2 := hbk2 (by omega)
                have f3 : ((z2 - z) == wm) = false := by simp; omega
                clear hke hbk1 hbk2
                go_wp2
                go_roundw
                case rel => exact ⟨k + 1, by omega, by go_num, Lib.hid (below_drewN HB5.out _)⟩
                case measure => simp [intOf]; omega
              · clear hke hbk1 hbk2
                go_wp2
                go_roundw
                case rel => exact ⟨k + 1, by omega, by go_num, Lib.hid (below_drewN HB5.out _)⟩
                case measure => simp [intOf]; omega
        · obtain rfl : k = 4 := by omega
          go_wp2
          go_ret
          exact ⟨ret_bool (by simp), T.out.trans (HB.out.mono T.out.size)⟩
    · have hne : (wc != 0) = true := by simpa using hwc
      obtain ⟨w1z, w2z⟩ := HWC.out hwc
      subst w1z w2z
      go_wp2
      go_ret
      exact ⟨rfl, T.out⟩
namespace fnDrift
set_option maxRecDepth 100000 in
theorem lifted (os : Os) (started : os.Started) (H : Type) (enc : TypeId × Value → H) :
    ReturnsInHanded {} Try.checked os 9 .any (Rows.fnDriftSpec.pre6 enc Try.prog Try.f9 Rows.fnDriftRow.domain false) (Rows.fnDriftSpec.post enc Try.prog Try.f9 false true false false) := by
  refine returnsInHanded_of_change (C := Try.checked) ownKnobNone started (by kernel_rfl) Try.func9
    (ChangeSpec.witness6 (enc := enc) (C := Try.checked) false ⟨#[], #[.slice none 0 0, .slice none 0 0], []⟩ 8 (by kernel_rfl) (by kernel_rfl) (by kernel_rfl) (by kernel_rfl)) ?_
  intro W base args ds gs before hval0 hW hcnd _
  have hval : ∀ (j : Nat) t v, Try.f9.params[j]? = some t → args[j]? = some v → Value.okWide Try.prog W .any base t v := hval0
  have hW' := hW
  obtain ⟨p, q, hA0, hV, rfl, hfz, hnd⟩ := hW
  have hA : DataW.TrodAll enc Try.prog W 0 (fun _ => true) true Try.f9.params.toList args.toList ds p := hA0
  rw [Try.params9] at hA hval
  obtain ⟨v0, vs0, d0, ds0, p0, q0, hargs, rfl, rfl, h0, r0⟩ := trodAll_cons hA
  obtain ⟨v1, vs1, d1, ds1, p1, q1, rfl, rfl, rfl, h1, r1⟩ := trodAll_cons r0
  obtain ⟨rfl, rfl, rfl⟩ := trodAll_nil r1
  obtain rfl : args = #[v0, v1] := by cases args; simp_all
  obtain ⟨rfl, rfl⟩ := trodVars_none hV
  have k0 := h0
  have lt0 : ∀ x ∈ p0, x.block < W.heap.size := by obtain ⟨m, hm⟩ := k0; exact DataW.trod_lt m _ _ _ hm
  have k1 := h1
  have lt1 : ∀ x ∈ p1, x.block < W.heap.size := by obtain ⟨m, hm⟩ := k1; exact DataW.trod_lt m _ _ _ hm
  obtain ⟨A0, n0, c0, z0, rfl, R0, -, -, wf0⟩ := open_u8s (hval 0 46 v0 rfl rfl) h0
  obtain ⟨A1, n1, c1, z1, rfl, R1, -, -, wf1⟩ := open_u8s (hval 1 46 v1 rfl rfl) h1
  clear hA0 hval0
  refine (wDrift W A0 n0 c0 z0 R0 wf0 A1 n1 c1 z1 R1 wf1).mono fun e W' ⟨he, bel⟩ => ?_
  subst he
  exact ⟨_, rfl, _, _, _, [], _, [], hW', trodAll_mk1 (shut_bool Try.underlying4 _), (trodAll_cons_mk (Below.trod laidOut (by kernel_rfl) (of_decide_eq_true (by kernel_rfl)) k0 bel lt0) (trodAll_cons_mk (Below.trod laidOut (by kernel_rfl) (of_decide_eq_true (by kernel_rfl)) k1 bel lt1) trodAll_mk0)), rfl, bel.frame _, fun h => by cases h⟩
theorem over : Rows.fnDriftRow.holds Try.pinned (OpenSpec.ofChange Rows.fnDriftSpec) :=
  OpenClaim.holds_of_wide 9 Try.f9 rfl rfl rfl rfl rfl rfl rfl ⟨rfl, rfl, rfl, rfl, rfl⟩ rfl rfl rfl rfl rfl (by kernel_rfl) Try.func9 (by kernel_rfl)
    (of_decide_eq_true (by kernel_rfl)) (by unfold Func.isWrapper; first | (rw [if_pos (by decide +kernel)]; kernel_rfl) | (rw [if_neg (by decide +kernel)]; exact ⟨rfl, rfl⟩))
    (fun os started H enc _ => lifted os started H enc)
theorem proved : Rows.FnDriftSaid := over
end fnDrift
end Go.Proofs.Ytndnjabalofcnaa
