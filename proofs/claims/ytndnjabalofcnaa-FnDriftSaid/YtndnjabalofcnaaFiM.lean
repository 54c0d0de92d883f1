/- SettledField by the reference. -/
import Derived.Test.YtndnjabalofcnaaFiK
namespace Go.Proofs.Ytndnjabalofcnaa
open Go.ChangeShapes Go.WideShapes Go.ChangeAt Go.RowKit
set_option linter.unusedVariables false

set_option maxHeartbeats 8000000 in
theorem sSettledField_c (g : Fi) (A : Option Addr) (n c B : Nat) (sh limit : Int) (w : World) (hg : GS w B g A n c) :
    Calls Try.prog 19 #[g.val A n c, .int .i64 sh, .int .i64 limit] w fun e w' => e = .returned (.tuple #[.int .i64 (settledV g sh limit).1, .int .i64 (settledV g sh limit).2]) ∧ Below w.heap.size w w' := by
  have hbig := hg.big
  obtain ⟨X, hX⟩ : ∃ X, X = w.alloc (.cells (g.cells A n c) 26) := ⟨_, rfl⟩
  have HT0 : Hid (Below w.heap.size w X) := Lib.hid (by rw [hX]; exact (Below.refl _ _).alloc (Nat.le_refl _) _)
  have hs : X.heap.size = w.heap.size + 1 := by rw [hX]; simp
  have KB0 : Hid (Blk X w.heap.size 26 (g.cells A n c)) := Lib.hid (by rw [hX]; exact Blk.new _ _ _)
  have HX := Lib.hid hX
  have HG := Lib.hid hg
  have HLG := Lib.hid hg.len
  have HNE : Hid (∀ ad, A = some ad → 0 < n → ad.block < w.heap.size) := Lib.hid (fun ad he hn => by
    obtain ⟨ad', e, hb, _⟩ := hg.rd.2 hn
    rw [he] at e; injection e with e; subst e
    have := hg.hB; omega)
  have HOK := Lib.hid (l06Ok_c g w.heap.size A n c B X ⟨KB0.out, hg.below HT0.out⟩)
  have HV := Lib.hid (show settledV g sh limit = if g.ok = false then (0, 1) else if inB sh 0 1000 = false ∨ inB limit 0 1000000 = false then (0, 2) else settleF limit sh 101 0 g from rfl)
  have HOKB := Lib.hid (Fi.ok_bd (g := g))
  clear hg hX
  generalize settledV g sh limit = wv at *
  cases hgok : g.ok
  · have HVV : Hid (wv = (0, 1)) := Lib.hid (by rw [HV.out, if_pos hgok])
    rw [hgok] at HOK
    clear HV hgok HOKB
    obtain ⟨r, co, hs'⟩ := g
    simp only [Fi.val, Fi.cells] at HX ⊢
    go_enter Try.func19, Try.ntmps19
    go_wp2_with fail
    rw [← HX.out]
    refine HOK.out.mono ?_
    rintro e w1 ⟨rfl, q, rfl⟩
    go_wp2
    go_ret2
    exact ⟨ret2 (by rw [HVV.out]) (by rw [HVV.out]), below_drewN HT0.out q⟩
  · have HFO := Lib.hid (HOKB.out hgok)
    rw [hgok] at HV HOK
    cases hsh : inB sh 0 1000
    · have HVV : Hid (wv = (0, 2)) := Lib.hid (by rw [HV.out, if_neg (by simp), if_pos (.inl hsh)])
      have HSH := Lib.hid hsh
      clear HV hgok HOKB hsh
      obtain ⟨r, co, hs'⟩ := g
      simp only [Fi.val, Fi.cells] at HX ⊢
      go_enter Try.func19, Try.ntmps19
      go_wp2_with fail
      rw [← HX.out]
      refine HOK.out.mono ?_
      rintro e w1 ⟨rfl, q, rfl⟩
      go_wp2_with fail
      refine (l06Share_c _ _).mono ?_
      rintro e w' ⟨rfl, rfl⟩
      rw [HSH.out]
      go_wp2
      go_ret2
      exact ⟨ret2 (by rw [HVV.out]) (by rw [HVV.out]), below_drewN HT0.out q⟩
    · have HSH := Lib.hid hsh
      obtain ⟨h4, h5⟩ := inB_bd hsh
      cases hli : inB limit 0 1000000
      · have HVV : Hid (wv = (0, 2)) := Lib.hid (by rw [HV.out, if_neg (by simp), if_pos (.inr hli)])
        have HLI := Lib.hid hli
        clear HV hgok HOKB hsh hli
        obtain ⟨r, co, hs'⟩ := g
        simp only [Fi.val, Fi.cells] at HX ⊢
        go_enter Try.func19, Try.ntmps19
        go_wp2_with fail
        rw [← HX.out]
        refine HOK.out.mono ?_
        rintro e w1 ⟨rfl, q, rfl⟩
        go_wp2_with fail
        refine (l06Share_c _ _).mono ?_
        rintro e w' ⟨rfl, rfl⟩
        rw [HSH.out]
        go_wp2_with fail
        refine (l06Mass_c _ _).mono ?_
        rintro e w' ⟨rfl, rfl⟩
        rw [HLI.out]
        go_wp2
        go_ret2
        exact ⟨ret2 (by rw [HVV.out]) (by rw [HVV.out]), below_drewN HT0.out q⟩
      · obtain ⟨i0, i1⟩ := inB_bd hli
        have HVV : Hid (wv = settleF limit sh (101 - 0) (0 : Nat) g) := Lib.hid (by rw [HV.out, if_neg (by simp), if_neg (by simp [hsh, hli])]; rfl)
        have HLI := Lib.hid hli
        have hln := HFO.out.len64
        rw [HLG.out] at hln
        clear HV hgok HOKB hsh hli
        obtain ⟨r, co, hs'⟩ := g
        simp only [Fi.val, Fi.cells] at HX KB0 HLG ⊢
        go_enter Try.func19, Try.ntmps19
        go_wp2_with fail
        rw [← HX.out]
        refine HOK.out.mono ?_
        rintro e w1 ⟨rfl, q, rfl⟩
        have HT1 := Lib.hid (below_drewN HT0.out q)
        have KB1 := Lib.hid (KB0.out.drewN q)
        have hsq : (X.drewN q).heap.size = w.heap.size + 1 := hs
        have HG1 := Lib.hid (HG.out.below HT1.out)
        clear HX HOK HT0 KB0 HG
        generalize X.drewN q = Y at *
        go_wp2_with fail
        refine (l06Share_c _ _).mono ?_
        rintro e w' ⟨rfl, rfl⟩
        rw [HSH.out]
        go_wp2_with fail
        refine (l06Mass_c _ _).mono ?_
        rintro e w' ⟨rfl, rfl⟩
        rw [HLI.out]
        have b0 : Y.cell? ⟨w.heap.size, 0, none⟩ = some (.int .i64 r) := KB1.out.cell 0
        have b1 : Y.cell? ⟨w.heap.size, 1, none⟩ = some (.int .i64 co) := KB1.out.cell 1
        have b2 : Y.cell? ⟨w.heap.size, 2, none⟩ = some (.slice A n c) := KB1.out.cell 2
        obtain ⟨Y2, hY2⟩ : ∃ Y2, Y2 = Y.alloc (.cells #[.int .i64 r, .int .i64 co, .slice A n c] 26) := ⟨_, rfl⟩
        have BY : Below Y.heap.size Y Y2 := by rw [hY2]; exact (Below.refl _ _).alloc (Nat.le_refl _) _
        have KN1 : Hid (Blk Y2 (w.heap.size + 1) 26 #[.int .i64 r, .int .i64 co, .slice A n c]) := Lib.hid (by rw [hY2, ← hsq]; exact Blk.new _ _ _)
        have HT2 := Lib.hid (HT1.out.trans (BY.mono HT1.out.size))
        have HG2 := Lib.hid (HG1.out.below BY)
        have HN1 : Hid (∀ ad, A = some ad → ad.block ≠ w.heap.size + 1) := Lib.hid (fun ad he => by have := HNE.out ad he (by omega); omega)
        have HYE := Lib.hid hY2
        clear BY hY2 HG1 HT1 KB1
        go_upto_region 6 with (fail)
        rw [← HYE.out]
        clear b0 b1 b2 HYE
        go_wp2
        go_loopw [9] (fun i wr => ∃ (k : Nat) (l : List Int) (D : Option Addr) (dd B' : Nat), k ≤ 101 ∧ i = .int .i64 k ∧ Hid (wv = settleF limit sh (101 - k) k ⟨r, co, l⟩) ∧ Hid (FiOk ⟨r, co, l⟩) ∧ Hid (Blk wr (w.heap.size + 1) 26 #[.int .i64 r, .int .i64 co, .slice D n dd]) ∧ Hid (GS wr B' ⟨r, co, l⟩ D n dd) ∧ Hid (∀ ad, D = some ad → ad.block ≠ w.heap.size + 1) ∧ Hid (Below w.heap.size w wr)) (fun i _ => 101 - (intOf i).toNat)
        case atStart => exact ⟨0, hs', A, c, B, Nat.zero_le _, rfl, HVV, HFO, KN1, HG2, HN1, HT2⟩
        case round =>
          clear HVV HFO KN1 HG2 HN1 HT2
          obtain ⟨k, l, D, dd, B', hk, rfl, HVV, HFO, KB, HG, HN, HT⟩ := hrel
          by_cases hlt : k < 101
          · have hbl := KB.out.lt
            have HLl := Lib.hid HG.out.len
            have HRN := Lib.hid (l06Step_c ⟨r, co, l⟩ (w.heap.size + 1) D n dd B' 0 sh wr ⟨KB.out, HG.out⟩ HFO.out (by omega) (by omega) h4 h5)
            have hlsf := stepF_len ⟨r, co, l⟩ 0 sh
            have HSF := Lib.hid fun h => stepF_fi HFO.out (d := 0) (sh := sh) h
            obtain ⟨f, hf⟩ : ∃ f, 101 - k = f + 1 := ⟨100 - k, by omega⟩
            have hf2 : 101 - (k + 1) = f := by omega
            rw [hf] at HVV
            have HUB := Lib.hid (settleF_bad (limit := limit) (sh := sh) (f := f) (k := (k : Int)) (g := ⟨r, co, l⟩))
            have HUA := Lib.hid (settleF_at (limit := limit) (sh := sh) (f := f) (k := (k : Int)) (g := ⟨r, co, l⟩))
            have HUN := Lib.hid (settleF_next (limit := limit) (sh := sh) (f := f) (k := (k : Int)) (g := ⟨r, co, l⟩))
            rw [show stepF ⟨r, co, l⟩ 0 sh = ⟨r, co, (stepF ⟨r, co, l⟩ 0 sh).hs⟩ from rfl] at HRN HSF HUN
            rw [← HVV.out] at HUB HUA HUN
            rw [← hf2] at HUN
            clear HVV hf hf2
            generalize (stepF ⟨r, co, l⟩ 0 sh).hs = L at *
            simp only at hlsf HUA HUN HLl
            rw [HLl.out] at hlsf
            go_wp2_with fail
            refine HRN.out.mono ?_
            rintro e w2 ⟨E, ed, rfl, O2, B2⟩
            have hs2 := B2.size
            obtain ⟨A', c', e1, hnd, _⟩ := O2.slice
            injection e1 with e1 e2 e3
            have HNN : Hid (∀ ad, E = some ad → ad.block ≠ w.heap.size + 1) := Lib.hid (fun ad he => by
              obtain ⟨g', hg1, hg2, _⟩ := O2.at_ (by omega)
              rw [he] at hg1; injection hg1 with hg1; subst hg1
              show g' ≠ w.heap.size + 1
              omega)
            obtain ⟨W2, hW2⟩ : ∃ W2, W2 = w2.alloc (.cells #[.int .i64 r, .int .i64 co, .slice E n ed] 26) := ⟨_, rfl⟩
            have BW : Below w2.heap.size w2 W2 := by rw [hW2]; exact (Below.refl _ _).alloc (Nat.le_refl _) _
            have hsW : W2.heap.size = w2.heap.size + 1 := by rw [hW2]; simp
            have KO : Hid (Blk W2 w2.heap.size 26 #[.int .i64 r, .int .i64 co, .slice E n ed]) := Lib.hid (by rw [hW2]; exact Blk.new _ _ _)
            have HO : Hid (GS W2 w2.heap.size ⟨r, co, L⟩ E n ed) := Lib.hid ⟨(O2.below BW (Nat.le_refl _)).reads, by omega, by omega, hbig⟩
            have KB3 := Lib.hid ((KB.out.below B2 hbl).below BW (by omega))
            have HG3 := Lib.hid ((HG.out.below B2).below BW)
            have HT3 := Lib.hid ((HT.out.trans (B2.mono HT.out.size)).trans (BW.mono (by have := HT.out.size; omega)))
            have HWE := Lib.hid hW2
            clear O2 B2 BW e1 e2 e3 hW2 HRN KB HG HT
            simp only [Fi.val, Fi.cells]
            go_upto_region 10 with (fail)
            rw [← HWE.out]
            go_wp2_with fail
            refine (l06Masses_c ⟨r, co, L⟩ w2.heap.size E n ed w2.heap.size W2 ⟨KO.out, HO.out⟩).mono ?_
            rintro e w' ⟨rfl, rfl⟩
            simp only
            cases hall : allInB 0 1000000 L
            · have HUU := Lib.hid (HUB.out hall)
              clear hall HUB HUA HUN
              go_wp2
              go_ret2
              exact ⟨ret2 (by rw [HUU.out]) (by rw [HUU.out]), HT3.out⟩
            · have HUA' := Lib.hid (HUA.out hall)
              have HUN' := Lib.hid (HUN.out hall)
              have HFL := Lib.hid (HSF.out hall)
              have HMB := Lib.hid (maxP_bd (o := L) (g := l) (by omega : (0 : Int) ≤ 1000000) (hs_bd HFL.out) (hs_bd HFO.out))
              have HMQ := Lib.hid (maxP_quiet (o := L) (g := l) (limit := limit) i0 (by rw [hlsf, HLl.out]) n (by omega))
              have HLT : Hid ((subL L l).take n = subL L l) := Lib.hid (List.take_of_length_le (by rw [subL_len (by rw [hlsf, HLl.out])]; omega))
              rw [HLT.out] at HMQ
              have HMS := Lib.hid (show ∀ k, maxP L l (k + 1) = max (maxP L l k) (absI (lAt L k - lAt l k)) from fun _ => rfl)
              have HBL := Lib.hid (hs_bd HFL.out)
              have HBl := Lib.hid (hs_bd HFO.out)
              have HM0 := Lib.hid (show maxP L l 0 = 0 from rfl)
              have b2 : W2.cell? ⟨w.heap.size + 1, 2, none⟩ = some (.slice D n dd) := KB3.out.cell 2
              have o2 : W2.cell? ⟨w2.heap.size, 2, none⟩ = some (.slice E n ed) := KO.out.cell 2
              clear hall HUB HUA HUN HLT
              simp only at HBL HBl
              go_wp2
              go_loopw [11, 12] (fun v i wq => ∃ j q : Nat, j ≤ n ∧ i = .int .i64 j ∧ v = .int .i64 (maxP L l j) ∧ wq = W2.drewN q) (fun _ i _ => n - (intOf i).toNat)
              case atStart => exact ⟨0, 0, Nat.zero_le _, rfl, by rw [HM0.out], rfl⟩
              case round =>
                obtain ⟨j, q, hj, rfl, rfl, rfl⟩ := hrel
                by_cases hjn : j < n
                · obtain ⟨ad, z, rfl, _, hz, hc⟩ := HG3.out.rd.int hjn
                  obtain ⟨ad2, z2, rfl, _, hz2, hc2⟩ := HO.out.rd.int hjn
                  have HM := Lib.hid (HMS.out j)
                  have hmb := HMB.out j
                  have hb1 := HBL.out j
                  have hb2 := HBl.out j
                  have hzl := lAt_get hz
                  have hzl2 := lAt_get hz2
                  simp only at hzl hzl2
                  rw [hzl, hzl2] at HM
                  rw [hzl] at hb2
                  rw [hzl2] at hb1
                  have e1 : IntKind.i64.wrap (z2 - z) = z2 - z := IntWalk.i64_in _ (by omega)
                  have hjn' : (j : Int) < (n : Int) := by omega
                  clear hz hz2 hzl hzl2
                  generalize maxP L l j = mp at *
                  go_upto_region 16 with (fail)
                  go_quiet ((first | (go_at_call 51; first | exact quiet_add_left (l04Abs_c _ _ (by omega) (by omega)) | exact quiet_left (l04Abs_c _ _ (by omega) (by omega))) | (go_at_call 50; first | exact quiet_add_left (l00Max_c _ _ _) | exact quiet_left (l00Max_c _ _ _))))
                  clear e1
                  go_wp2
                  go_roundw
                  case rel => exact ⟨j + 1, _, by omega, by go_num, by rw [HM.out], rfl⟩
                  case measure => simp [intOf]; omega
                · obtain rfl : j = n := by omega
                  have hmb := HMB.out j
                  generalize maxP L l j = mp at *
                  cases hq : quietB limit (subL L l)
                  · have HF := Lib.hid (HUN'.out hq)
                    have hmp : ¬ mp ≤ limit := fun h => by have := HMQ.out.1 h; rw [hq] at this; cases this
                    have o0 : (W2.drewN q).cell? ⟨w2.heap.size, 0, none⟩ = some (.int .i64 r) := (KO.out.drewN q).cell 0
                    have o1 : (W2.drewN q).cell? ⟨w2.heap.size, 1, none⟩ = some (.int .i64 co) := (KO.out.drewN q).cell 1
                    have o2' : (W2.drewN q).cell? ⟨w2.heap.size, 2, none⟩ = some (.slice E j ed) := (KO.out.drewN q).cell 2
                    have b0 : (W2.drewN q).cell? ⟨w.heap.size + 1, 0, none⟩ = some (.int .i64 r) := (KB3.out.drewN q).cell 0
                    have b1 : (W2.drewN q).cell? ⟨w.heap.size + 1, 1, none⟩ = some (.int .i64 co) := (KB3.out.drewN q).cell 1
                    have b2' : (W2.drewN q).cell? ⟨w.heap.size + 1, 2, none⟩ = some (.slice D j dd) := (KB3.out.drewN q).cell 2
                    have f0 := (KB3.out.drewN q).frozen 0
                    have f1 := (KB3.out.drewN q).frozen 1
                    have f2 := (KB3.out.drewN q).frozen 2
                    clear hq HUA' HUN'
                    go_wp2
                    go_roundw
                    case rel => exact ⟨k + 1, L, E, ed, w2.heap.size, by omega, by go_num, HF, HFL, Lib.hid (set3_blk (KB3.out.drewN q) _ _ _), Lib.hid ((HO.out.below (below_drewN (Below.refl _ _) q)).setb HNN.out _ _ _), HNN, Lib.hid (set3_below (below_drewN HT3.out q) (by omega) _ _ _)⟩
                    case measure => simp [intOf]; omega
                  · have HF := Lib.hid (HUA'.out hq)
                    have hmp : mp ≤ limit := HMQ.out.2 hq
                    clear hq HUA' HUN'
                    go_wp2
                    go_ret2
                    exact ⟨ret2 (by rw [HF.out]) (by rw [HF.out]), below_drewN HT3.out q⟩
          · obtain rfl : k = 101 := by omega
            have HF : Hid (wv = (0, 3)) := HVV
            go_wp2
            go_ret2
            exact ⟨ret2 (by rw [HF.out]) (by rw [HF.out]), HT.out⟩
end Go.Proofs.Ytndnjabalofcnaa
