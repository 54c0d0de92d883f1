/- The worst wind by the reference; when a field has settled, by both. -/
import Derived.Test.YtndnjabalofcnaaFiI
namespace Go.Proofs.Ytndnjabalofcnaa
open Go.ChangeShapes Go.WideShapes Go.ChangeAt Go.RowKit
set_option linter.unusedVariables false

set_option maxHeartbeats 8000000 in
theorem sWorstWind_c (g : Fi) (A : Option Addr) (n c B : Nat) (sh cell : Int) (w : World) (hg : GS w B g A n c) :
    Calls Try.prog 17 #[g.val A n c, .int .i64 sh, .int .i64 cell] w fun e w' => e = .returned (.tuple #[.int .i64 (worstV g sh cell).1, .int .i64 (worstV g sh cell).2.1, .int .i64 (worstV g sh cell).2.2]) ∧ Below w.heap.size w w' := by
  have hbig := hg.big
  obtain ⟨X, hX⟩ : ∃ X, X = w.alloc (.cells (g.cells A n c) 26) := ⟨_, rfl⟩
  have HT0 : Hid (Below w.heap.size w X) := Lib.hid (by rw [hX]; exact (Below.refl _ _).alloc (Nat.le_refl _) _)
  have hs : X.heap.size = w.heap.size + 1 := by rw [hX]; simp
  have KB0 : Hid (Blk X w.heap.size 26 (g.cells A n c)) := Lib.hid (by rw [hX]; exact Blk.new _ _ _)
  have HX := Lib.hid hX
  have HG := Lib.hid hg
  have HLG := Lib.hid hg.len
  have HOK := Lib.hid (l06Ok_c g w.heap.size A n c B X ⟨KB0.out, hg.below HT0.out⟩)
  have HV := Lib.hid (show worstV g sh cell = if g.ok = false then (0, 0, 1) else if inB sh 0 1000 = false ∨ inB cell 0 ((g.hs.length : Int) - 1) = false then (0, 0, 2)
    else if (worstL g sh cell.toNat 4).1 < 0 then (0, 0, 6) else ((worstL g sh cell.toNat 4).1, (worstL g sh cell.toNat 4).2, 0) from rfl)
  have HOKB := Lib.hid (Fi.ok_bd (g := g))
  clear hg hX
  rw [HLG.out] at HV
  generalize worstV g sh cell = wv at *
  cases hgok : g.ok
  · have HVV : Hid (wv = (0, 0, 1)) := Lib.hid (by rw [HV.out, if_pos hgok])
    rw [hgok] at HOK
    clear HV hgok HOKB
    obtain ⟨r, co, hs'⟩ := g
    simp only [Fi.val, Fi.cells] at HX ⊢
    go_enter Try.func17, Try.ntmps17
    go_wp2_with fail
    rw [← HX.out]
    refine HOK.out.mono ?_
    rintro e w1 ⟨rfl, q, rfl⟩
    go_wp2
    go_ret3
    exact ⟨ret3 (by rw [HVV.out]) (by rw [HVV.out]) (by rw [HVV.out]), below_drewN HT0.out q⟩
  · have HFO := Lib.hid (HOKB.out hgok)
    rw [hgok] at HV HOK
    cases hsh : inB sh 0 1000
    · have HVV : Hid (wv = (0, 0, 2)) := Lib.hid (by rw [HV.out, if_neg (by simp), if_pos (.inl hsh)])
      have HSH := Lib.hid hsh
      clear HV hgok HOKB hsh
      obtain ⟨r, co, hs'⟩ := g
      simp only [Fi.val, Fi.cells] at HX ⊢
      go_enter Try.func17, Try.ntmps17
      go_wp2_with fail
      rw [← HX.out]
      refine HOK.out.mono ?_
      rintro e w1 ⟨rfl, q, rfl⟩
      go_wp2_with fail
      refine (l06Share_c _ _).mono ?_
      rintro e w' ⟨rfl, rfl⟩
      rw [HSH.out]
      go_wp2
      go_ret3
      exact ⟨ret3 (by rw [HVV.out]) (by rw [HVV.out]) (by rw [HVV.out]), below_drewN HT0.out q⟩
    · have HSH := Lib.hid hsh
      obtain ⟨h4, h5⟩ := inB_bd hsh
      cases hci : inB cell 0 ((n : Int) - 1)
      · have HVV : Hid (wv = (0, 0, 2)) := Lib.hid (by rw [HV.out, if_neg (by simp), if_pos (.inr hci)])
        have HCI := Lib.hid hci
        clear HV hgok HOKB hsh hci
        obtain ⟨r, co, hs'⟩ := g
        simp only [Fi.val, Fi.cells] at HX KB0 ⊢
        go_enter Try.func17, Try.ntmps17
        go_wp2_with fail
        rw [← HX.out]
        refine HOK.out.mono ?_
        rintro e w1 ⟨rfl, q, rfl⟩
        have b2 : (X.drewN q).cell? ⟨w.heap.size, 2, none⟩ = some (.slice A n c) := (KB0.out.drewN q).cell 2
        go_wp2_with fail
        refine (l06Share_c _ _).mono ?_
        rintro e w' ⟨rfl, rfl⟩
        rw [HSH.out]
        go_wp2_with fail
        refine (l00In_c _ _ _ _).mono ?_
        rintro e w' ⟨rfl, rfl⟩
        rw [HCI.out]
        go_wp2
        go_ret3
        exact ⟨ret3 (by rw [HVV.out]) (by rw [HVV.out]) (by rw [HVV.out]), below_drewN HT0.out q⟩
      · obtain ⟨i0, i1⟩ := inB_bd hci
        obtain ⟨ci, rfl⟩ : ∃ ci : Nat, cell = ci := ⟨cell.toNat, by omega⟩
        have hcn : ci < n := by omega
        rw [Int.toNat_natCast] at HV
        have HVV : Hid (wv = if (worstL g sh ci 4).1 < 0 then (0, 0, 6) else ((worstL g sh ci 4).1, (worstL g sh ci 4).2, 0)) := Lib.hid (by rw [HV.out, if_neg (by simp), if_neg (by simp [hsh, hci])])
        have HCI := Lib.hid hci
        have HWB := Lib.hid (worstL_bd HFO.out (sh := sh) (c := ci))
        have HW0 := Lib.hid (show worstL g sh ci 0 = (-1, 0) from rfl)
        have HWS := Lib.hid (show ∀ k, worstL g sh ci (k + 1) = worstS g sh ci (worstL g sh ci k) k from fun _ => rfl)
        have HBG := Lib.hid (hs_bd HFO.out)
        clear HV hgok HOKB hsh hci i0 i1
        obtain ⟨r, co, hs'⟩ := g
        simp only [Fi.val, Fi.cells] at HX KB0 HLG HBG ⊢
        go_enter Try.func17, Try.ntmps17
        go_wp2_with fail
        rw [← HX.out]
        refine HOK.out.mono ?_
        rintro e w1 ⟨rfl, q, rfl⟩
        have HT1 := Lib.hid (below_drewN HT0.out q)
        have KB1 := Lib.hid (KB0.out.drewN q)
        have hsq : (X.drewN q).heap.size = w.heap.size + 1 := hs
        clear HX HOK HT0 KB0
        generalize X.drewN q = w1 at *
        have b2 : w1.cell? ⟨w.heap.size, 2, none⟩ = some (.slice A n c) := KB1.out.cell 2
        go_wp2_with fail
        refine (l06Share_c _ _).mono ?_
        rintro e w' ⟨rfl, rfl⟩
        rw [HSH.out]
        go_wp2_with fail
        refine (l00In_c _ _ _ _).mono ?_
        rintro e w' ⟨rfl, rfl⟩
        rw [HCI.out]
        clear b2
        go_wp2
        go_loopw [9, 10, 11] (fun u v i wr => ∃ k : Nat, k ≤ 4 ∧ i = .int .i64 k ∧ u = .int .i64 (worstL ⟨r, co, hs'⟩ sh ci k).1 ∧ v = .int .i64 (worstL ⟨r, co, hs'⟩ sh ci k).2 ∧ Hid (Below w1.heap.size w1 wr)) (fun _ _ i _ => 4 - (intOf i).toNat)
        case atStart => exact ⟨0, Nat.zero_le _, rfl, by rw [HW0.out], by rw [HW0.out], Lib.hid (Below.refl _ _)⟩
        case round =>
          obtain ⟨k, hk, rfl, rfl, rfl, HB⟩ := hrel
          by_cases hlt : k < 4
          · have hwb := HWB.out k
            have HU := Lib.hid (HWS.out k)
            have hwz := HB.out.size
            have HTr := Lib.hid (HT1.out.trans (HB.out.mono HT1.out.size))
            have KBr := Lib.hid (KB1.out.below HB.out (by omega))
            obtain ⟨wo, mo, hst⟩ : ∃ wo mo, worstL ⟨r, co, hs'⟩ sh ci k = (wo, mo) := ⟨_, _, rfl⟩
            rw [hst] at hwb HU ⊢
            clear hst
            simp only at hwb ⊢
            have HRN := Lib.hid (l06Step_c ⟨r, co, hs'⟩ w.heap.size A n c B (k : Int) sh wr ⟨KBr.out, HG.out.below HTr.out⟩ HFO.out (by omega) (by omega) h4 h5)
            have hlsf := stepF_len ⟨r, co, hs'⟩ k sh
            have HSF := Lib.hid fun h => stepF_fi HFO.out (d := (k : Int)) (sh := sh) h
            have HUB := Lib.hid (worstS_bad (g := ⟨r, co, hs'⟩) (sh := sh) (c := ci) (st := (wo, mo)) (d := (k : Int)))
            have HUO := Lib.hid (worstS_ok (g := ⟨r, co, hs'⟩) (sh := sh) (c := ci) (st := (wo, mo)) (d := (k : Int)))
            rw [show stepF ⟨r, co, hs'⟩ k sh = ⟨r, co, (stepF ⟨r, co, hs'⟩ k sh).hs⟩ from rfl] at HRN HSF
            rw [← HU.out] at HUB HUO
            clear HU
            generalize (stepF ⟨r, co, hs'⟩ k sh).hs = L at *
            simp only at hlsf HUO
            rw [HLG.out] at hlsf
            go_wp2_with fail
            refine HRN.out.mono ?_
            rintro e w2 ⟨D, dd, rfl, O2, B2⟩
            have hs2 := B2.size
            have HW2 := Lib.hid (HB.out.trans (B2.mono hwz))
            have KB2 := Lib.hid (KBr.out.below B2 (by omega))
            obtain ⟨A', c', e1, hnd, _⟩ := O2.slice
            injection e1 with e1 e2 e3
            obtain ⟨W2, hW2⟩ : ∃ W2, W2 = w2.alloc (.cells #[.int .i64 r, .int .i64 co, .slice D n dd] 26) := ⟨_, rfl⟩
            have BW : Below w2.heap.size w2 W2 := by rw [hW2]; exact (Below.refl _ _).alloc (Nat.le_refl _) _
            have hsW : W2.heap.size = w2.heap.size + 1 := by rw [hW2]; simp
            have KO : Hid (Blk W2 w2.heap.size 26 #[.int .i64 r, .int .i64 co, .slice D n dd]) := Lib.hid (by rw [hW2]; exact Blk.new _ _ _)
            have HO : Hid (GS W2 w2.heap.size ⟨r, co, L⟩ D n dd) := Lib.hid ⟨(O2.below BW (Nat.le_refl _)).reads, by omega, by omega, hbig⟩
            have HW3 := Lib.hid (HW2.out.trans (BW.mono (by omega)))
            have KB3 := Lib.hid (KB2.out.below BW (by omega))
            have HTw := Lib.hid (HT1.out.trans (HW3.out.mono HT1.out.size))
            have HWE := Lib.hid hW2
            clear O2 B2 BW e1 e2 e3 hW2 HRN KB2 HW2
            simp only [Fi.val, Fi.cells]
            go_upto_region 11 with (fail)
            rw [← HWE.out]
            go_wp2_with fail
            refine (l06Masses_c ⟨r, co, L⟩ w2.heap.size D n dd w2.heap.size W2 ⟨KO.out, HO.out⟩).mono ?_
            rintro e w' ⟨rfl, rfl⟩
            simp only
            cases hall : allInB 0 1000000 L
            · have HUU := Lib.hid (HUB.out hall)
              clear hall HUB HUO
              go_wp2
              go_roundw
              case rel => exact ⟨k + 1, by omega, by go_num, by rw [HUU.out], by rw [HUU.out], HW3⟩
              case measure => simp [intOf]; omega
            · have HUU := Lib.hid (HUO.out hall)
              have hfl := HSF.out hall
              have hbl := hs_bd hfl ci
              have hbg := HBG.out ci
              simp only at hbl
              obtain ⟨ad, z, rfl, _, hz, hc⟩ := (HG.out.below HTw.out).rd.int hcn
              obtain ⟨ad2, z2, rfl, _, hz2, hc2⟩ := HO.out.rd.int hcn
              have hzl := lAt_get hz
              have hzl2 := lAt_get hz2
              simp only at hzl hzl2
              rw [hzl] at hbg HUU
              rw [hzl2] at hbl HUU
              have e1 : IntKind.i64.wrap (z2 - z) = z2 - z := IntWalk.i64_in _ (by omega)
              have hcm : (ci : Int) < (n : Int) := by omega
              have b2 : W2.cell? ⟨w.heap.size, 2, none⟩ = some (.slice (some ad) n c) := KB3.out.cell 2
              have o2 : W2.cell? ⟨w2.heap.size, 2, none⟩ = some (.slice (some ad2) n dd) := KO.out.cell 2
              clear hz hz2 hzl hzl2 hall HUB HUO hfl
              go_upto_region 12 with (fail)
              go_quiet (fail)
              clear e1
              by_cases hw0 : wo < 0
              · have HF : Hid (worstL ⟨r, co, hs'⟩ sh ci (k + 1) = ((k : Int), z2 - z)) := Lib.hid (by rw [HUU.out, if_pos (.inl hw0)])
                clear HUU
                go_wp2
                go_roundw
                case rel => exact ⟨k + 1, by omega, by go_num, by rw [HF.out], by rw [HF.out], Lib.hid (below_drewN HW3.out _)⟩
                case measure => simp [intOf]; omega
              · by_cases hmo : mo < z2 - z
                · have HF : Hid (worstL ⟨r, co, hs'⟩ sh ci (k + 1) = ((k : Int), z2 - z)) := Lib.hid (by rw [HUU.out, if_pos (.inr hmo)])
                  clear HUU
                  go_wp2
                  go_roundw
                  case rel => exact ⟨k + 1, by omega, by go_num, by rw [HF.out], by rw [HF.out], Lib.hid (below_drewN HW3.out _)⟩
                  case measure => simp [intOf]; omega
                · have HF : Hid (worstL ⟨r, co, hs'⟩ sh ci (k + 1) = (wo, mo)) := Lib.hid (by rw [HUU.out, if_neg (by omega)])
                  clear HUU
                  go_wp2
                  go_roundw
                  case rel => exact ⟨k + 1, by omega, by go_num, by rw [HF.out], by rw [HF.out], Lib.hid (below_drewN HW3.out _)⟩
                  case measure => simp [intOf]; omega
          · obtain rfl : k = 4 := by omega
            have hwb := HWB.out 4
            generalize worstL ⟨r, co, hs'⟩ sh ci 4 = st at *
            obtain ⟨wo, mo⟩ := st
            simp only at hwb HVV ⊢
            by_cases hw0 : wo < 0
            · have HF : Hid (wv = (0, 0, 6)) := Lib.hid (by rw [HVV.out, if_pos hw0])
              clear HVV
              go_wp2
              go_ret3
              exact ⟨ret3 (by rw [HF.out]) (by rw [HF.out]) (by rw [HF.out]), HT1.out.trans (HB.out.mono HT1.out.size)⟩
            · have HF : Hid (wv = (wo, mo, 0)) := Lib.hid (by rw [HVV.out, if_neg hw0])
              clear HVV
              go_wp2
              go_ret3
              exact ⟨ret3 (by rw [HF.out]) (by rw [HF.out]) (by rw [HF.out]), HT1.out.trans (HB.out.mono HT1.out.size)⟩
/-! ### when a field has settled -/
def quietB (limit : Int) (l : List Int) : Bool := l.all fun z => decide (absI z ≤ limit)
def settleF (limit sh : Int) : Nat → Int → Fi → Int × Int
  | 0, _, _ => (0, 3)
  | f + 1, k, g => if allInB 0 1000000 (stepF g 0 sh).hs = false then (0, 6)
    else if quietB limit (subL (stepF g 0 sh).hs g.hs) then (k, 0) else settleF limit sh f (k + 1) (stepF g 0 sh)
def settledV (g : Fi) (sh limit : Int) : Int × Int :=
  if g.ok = false then (0, 1) else if inB sh 0 1000 = false ∨ inB limit 0 1000000 = false then (0, 2) else settleF limit sh 101 0 g
theorem GS.setb {w : World} {B b : Nat} {g : Fi} {A : Option Addr} {n c : Nat} (h : GS w B g A n c) (hne : ∀ ad, A = some ad → ad.block ≠ b) (u0 u1 u2 : Value) :
    GS (((w.setCell ⟨b, 0, none⟩ u0).setCell ⟨b, 1, none⟩ u1).setCell ⟨b, 2, none⟩ u2) B g A n c := by
  have one : ∀ (w : World) (i : Nat) (u : Value), GS w B g A n c → GS (w.setCell ⟨b, i, none⟩ u) B g A n c := fun w i u h => by
    refine ⟨⟨h.rd.1, fun hn => ?_⟩, by simpa using h.hB, h.nc, h.big⟩
    obtain ⟨ad, e, hb, hc⟩ := h.rd.2 hn
    refine ⟨ad, e, hb, fun j u' hu => ?_⟩
    rw [World.cell?_setCell_other _ _ _ _ (fun e' => hne ad e (by rw [← block_of_add ad j, ← e']))]
    exact hc j u' hu
  exact one _ _ _ (one _ _ _ (one _ _ _ h))
def absW (n : Int) : Int := if n < wrap64 (-n) then wrap64 (-n) else n
theorem absW_in {n : Int} (h0 : -4611686018427387904 ≤ n) (h1 : n ≤ 4611686018427387904) : absW n = absI n := by
  have e : wrap64 (-n) = -n := by unfold wrap64; omega
  unfold absW absI
  rw [e]
  omega
theorem abs_any_c (n : Int) (w : World) :
    Calls Try.prog 55 #[.int .i64 n] w fun e w' => e = .returned (.int .i64 (absW n)) ∧ w = w' := by
  have HA := Lib.hid (show absW n = if n < wrap64 (-n) then wrap64 (-n) else n from rfl)
  go_enter Try.func55, Try.ntmps55
  go_wp2
  all_goals
    go_ret
    exact ⟨ret_int (by rw [HA.out]; omega), rfl⟩
theorem settled1_c (limit : Int) (a : Addr) (w : World) (hl : w.cell? a = some (.int .i64 limit)) (ha : a.block < w.heap.size) :
    ClosI 54 #[.pointer (some a)] (fun z => decide (limit < absW z)) w := by
  refine ⟨enters_of Try.func54 (by kernel_rfl) rfl, fun z W hW => ?_⟩
  have h2 := (hW.cell ha).trans hl
  clear hl hW
  show Calls _ _ #[_, _] _ _
  go_enter Try.func54, Try.ntmps54
  go_wp2
  go_quiet ((go_at_call 55; exact quiet_left (abs_any_c _ _)))
  go_wp2
  go_ret
  exact ⟨ret_bool rfl, below_drewN (Below.refl _ _) _⟩
end Go.Proofs.Ytndnjabalofcnaa
