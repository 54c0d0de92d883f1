/- The worst wind for a cell, by both. -/
import Derived.Test.YtndnjabalofcnaaFiH
namespace Go.Proofs.Ytndnjabalofcnaa
open Go.ChangeShapes Go.WideShapes Go.ChangeAt Go.RowKit
set_option linter.unusedVariables false

def worstS (g : Fi) (sh : Int) (c : Nat) (st : Int × Int) (d : Int) : Int × Int :=
  if allInB 0 1000000 (stepF g d sh).hs then
    if st.1 < 0 ∨ st.2 < lAt (stepF g d sh).hs c - lAt g.hs c then (d, lAt (stepF g d sh).hs c - lAt g.hs c) else st
  else st
def worstL (g : Fi) (sh : Int) (c : Nat) : Nat → Int × Int
  | 0 => (-1, 0)
  | k + 1 => worstS g sh c (worstL g sh c k) k
def worstV (g : Fi) (sh cell : Int) : Int × Int × Int :=
  if g.ok = false then (0, 0, 1) else if inB sh 0 1000 = false ∨ inB cell 0 ((g.hs.length : Int) - 1) = false then (0, 0, 2)
  else if (worstL g sh cell.toNat 4).1 < 0 then (0, 0, 6) else ((worstL g sh cell.toNat 4).1, (worstL g sh cell.toNat 4).2, 0)
theorem worstS_bad {g : Fi} {sh : Int} {c : Nat} {st : Int × Int} {d : Int} (h : allInB 0 1000000 (stepF g d sh).hs = false) : worstS g sh c st d = st := by rw [worstS, if_neg (by simp [h])]
theorem worstS_ok {g : Fi} {sh : Int} {c : Nat} {st : Int × Int} {d : Int} (h : allInB 0 1000000 (stepF g d sh).hs = true) :
    worstS g sh c st d = if st.1 < 0 ∨ st.2 < lAt (stepF g d sh).hs c - lAt g.hs c then (d, lAt (stepF g d sh).hs c - lAt g.hs c) else st := by rw [worstS, if_pos h]
theorem worstL_bd {g : Fi} (hg : FiOk g) {sh : Int} {c : Nat} : ∀ k, -1 ≤ (worstL g sh c k).1 ∧ (worstL g sh c k).1 ≤ k ∧ -1000000 ≤ (worstL g sh c k).2 ∧ (worstL g sh c k).2 ≤ 1000000
  | 0 => by simp [worstL]
  | k + 1 => by
    have ih := worstL_bd hg (sh := sh) (c := c) k
    rw [worstL, worstS]
    split
    · rename_i h
      have h1 := hs_bd hg c
      have h2 := hs_bd (stepF_fi hg h) c
      split
      · simp only; omega
      · omega
    · omega
theorem gust_nil (sh : Int) : gustB [] sh = inB sh 0 1000 := by simp [gustB, allInB]
theorem fieldV_nil {g : Fi} {sh : Int} : fieldV g [] sh = if g.ok = false then 1 else if inB sh 0 1000 = false then 2 else 0 := by rw [fieldV, gust_nil]
theorem indexValid_c (D : Option Addr) (m d : Nat) (z : Int) (w : World) (hm : m ≤ 1048576) : Calls Try.prog 46 #[.slice D m d, .int .i64 z] w fun e w' => e = .returned (.bool (inB z 0 ((m : Int) - 1))) ∧ w = w' := by
  go_enter Try.func46, Try.ntmps46
  go_wp2_with (go_at_call 52; refine (within_c _ _ _ _).mono ?_; rintro e w' ⟨rfl, rfl⟩)
  go_ret
  exact ⟨rfl, rfl⟩
theorem fquiet {P : Program} {f : FuncId} {args : Array Value} {w : World} {v : Value} (h : Calls P f args w fun e w' => e = .returned v ∧ w = w') :
    Calls P f args w fun e w' => e = .returned v ∧ w' = w := h.mono fun _ _ ⟨he, hw⟩ => ⟨he, hw.symm⟩
set_option maxHeartbeats 8000000 in
theorem iWorstWind_c (g : Fi) (A : Option Addr) (n c B : Nat) (sh cell : Int) (w : World) (hg : GS w B g A n c) :
    Calls Try.prog 18 #[g.val A n c, .int .i64 sh, .int .i64 cell] w fun e w' => e = .returned (.tuple #[.int .i64 (worstV g sh cell).1, .int .i64 (worstV g sh cell).2.1, .int .i64 (worstV g sh cell).2.2]) ∧ Below w.heap.size w w' := by
  have hbig := hg.big
  obtain ⟨X, hX⟩ : ∃ X, X = w.alloc (.cells (g.cells A n c) 26) := ⟨_, rfl⟩
  have HT0 : Hid (Below w.heap.size w X) := Lib.hid (by rw [hX]; exact (Below.refl _ _).alloc (Nat.le_refl _) _)
  have hs : X.heap.size = w.heap.size + 1 := by rw [hX]; simp
  have KB0 : Hid (Blk X w.heap.size 26 (g.cells A n c)) := Lib.hid (by rw [hX]; exact Blk.new _ _ _)
  have HX := Lib.hid hX
  have HG := Lib.hid hg
  have HLG := Lib.hid hg.len
  have HC := Lib.hid (fieldCode_c g A n c B none 0 0 0 [] sh X (hg.below HT0.out) Reads.none_ (by omega) (by omega))
  rw [fieldV_nil] at HC
  have HV := Lib.hid (show worstV g sh cell = if g.ok = false then (0, 0, 1) else if inB sh 0 1000 = false ∨ inB cell 0 ((g.hs.length : Int) - 1) = false then (0, 0, 2)
    else if (worstL g sh cell.toNat 4).1 < 0 then (0, 0, 6) else ((worstL g sh cell.toNat 4).1, (worstL g sh cell.toNat 4).2, 0) from rfl)
  have HOKB := Lib.hid (Fi.ok_bd (g := g))
  clear hg hX
  rw [HLG.out] at HV
  generalize worstV g sh cell = wv at *
  cases hgok : g.ok
  · have HVV : Hid (wv = (0, 0, 1)) := Lib.hid (by rw [HV.out, if_pos hgok])
    rw [hgok, if_pos rfl] at HC
    clear HV hgok HOKB
    obtain ⟨r, co, hs'⟩ := g
    simp only [Fi.val, Fi.cells] at HX HC ⊢
    go_enter Try.func18, Try.ntmps18
    go_wp2_with fail
    rw [← HX.out]
    refine HC.out.mono ?_
    rintro e w1 ⟨rfl, B1⟩
    have HT1 := Lib.hid (HT0.out.trans (B1.mono HT0.out.size))
    clear B1
    go_wp2
    go_ret3
    exact ⟨ret3 (by rw [HVV.out]) (by rw [HVV.out]) (by rw [HVV.out]), HT1.out⟩
  · have HFO := Lib.hid (HOKB.out hgok)
    rw [hgok, if_neg (by simp)] at HC
    rw [hgok] at HV
    cases hsh : inB sh 0 1000
    · have HVV : Hid (wv = (0, 0, 2)) := Lib.hid (by rw [HV.out, if_neg (by simp), if_pos (.inl hsh)])
      rw [hsh, if_pos rfl] at HC
      clear HV hgok HOKB hsh
      obtain ⟨r, co, hs'⟩ := g
      simp only [Fi.val, Fi.cells] at HX HC ⊢
      go_enter Try.func18, Try.ntmps18
      go_wp2_with fail
      rw [← HX.out]
      refine HC.out.mono ?_
      rintro e w1 ⟨rfl, B1⟩
      have HT1 := Lib.hid (HT0.out.trans (B1.mono HT0.out.size))
      clear B1
      go_wp2
      go_ret3
      exact ⟨ret3 (by rw [HVV.out]) (by rw [HVV.out]) (by rw [HVV.out]), HT1.out⟩
    · rw [hsh, if_neg (by simp)] at HC
      obtain ⟨h4, h5⟩ := inB_bd hsh
      cases hci : inB cell 0 ((n : Int) - 1)
      · have HVV : Hid (wv = (0, 0, 2)) := Lib.hid (by rw [HV.out, if_neg (by simp), if_pos (.inr hci)])
        have HCI := Lib.hid hci
        clear HV hgok HOKB hsh hci
        obtain ⟨r, co, hs'⟩ := g
        simp only [Fi.val, Fi.cells] at HX HC KB0 ⊢
        go_enter Try.func18, Try.ntmps18
        go_wp2_with fail
        rw [← HX.out]
        refine HC.out.mono ?_
        rintro e w1 ⟨rfl, B1⟩
        have HT1 := Lib.hid (HT0.out.trans (B1.mono HT0.out.size))
        have KB1 := Lib.hid (KB0.out.below B1 (by omega))
        have b2 : w1.cell? ⟨w.heap.size, 2, none⟩ = some (.slice A n c) := KB1.out.cell 2
        clear B1
        go_wp2_with fail
        refine (indexValid_c A n c cell w1 hbig).mono ?_
        rintro e w' ⟨rfl, rfl⟩
        rw [HCI.out]
        go_wp2
        go_ret3
        exact ⟨ret3 (by rw [HVV.out]) (by rw [HVV.out]) (by rw [HVV.out]), HT1.out⟩
      · obtain ⟨i0, i1⟩ := inB_bd hci
        obtain ⟨ci, rfl⟩ : ∃ ci : Nat, cell = ci := ⟨cell.toNat, by omega⟩
        have hcn : ci < n := by omega
        rw [Int.toNat_natCast] at HV
        have HVV : Hid (wv = if (worstL g sh ci 4).1 < 0 then (0, 0, 6) else ((worstL g sh ci 4).1, (worstL g sh ci 4).2, 0)) := Lib.hid (by rw [HV.out, if_neg (by simp), if_neg (by simp [hsh, hci])])
        have HCI := Lib.hid hci
        have HWB := Lib.hid (worstL_bd HFO.out (sh := sh) (c := ci))
        have HW0 := Lib.hid (show worstL g sh ci 0 = (-1, 0) from rfl)
        have HWS := Lib.hid (show ∀ k, worstL g sh ci (k + 1) = worstS g sh ci (worstL g sh ci k) k from fun _ => rfl)
        have HBG := Lib.hid (hs_bd HFO.out)
        clear HV hgok HOKB hsh hci i0 i1
        obtain ⟨r, co, hs'⟩ := g
        simp only [Fi.val, Fi.cells] at HX HC KB0 HLG HBG ⊢
        go_enter Try.func18, Try.ntmps18
        go_wp2_with fail
        rw [← HX.out]
        refine HC.out.mono ?_
        rintro e w1 ⟨rfl, B1⟩
        have hs1 := B1.size
        have HT1 := Lib.hid (HT0.out.trans (B1.mono HT0.out.size))
        have KB1 := Lib.hid (KB0.out.below B1 (by omega))
        have b2 : w1.cell? ⟨w.heap.size, 2, none⟩ = some (.slice A n c) := KB1.out.cell 2
        clear B1 HX HC HT0 KB0
        go_wp2_with fail
        refine (indexValid_c A n c ci w1 hbig).mono ?_
        rintro e w' ⟨rfl, rfl⟩
        rw [HCI.out]
        clear b2
        go_wp2
        go_loopw [10, 11, 29] (fun u v i wr => ∃ k : Nat, k ≤ 4 ∧ i = .int .i64 k ∧ u = .int .i64 (worstL ⟨r, co, hs'⟩ sh ci k).1 ∧ v = .int .i64 (worstL ⟨r, co, hs'⟩ sh ci k).2 ∧ Hid (Below w1.heap.size w1 wr)) (fun _ _ i _ => 4 - (intOf i).toNat)
        case atStart => exact ⟨0, Nat.zero_le _, rfl, by rw [HW0.out], by rw [HW0.out], Lib.hid (Below.refl _ _)⟩
        case round =>
          obtain ⟨k, hk, rfl, rfl, rfl, HB⟩ := hrel
          by_cases hlt : k < 4
          · have hwb := HWB.out k
            have HU := Lib.hid (HWS.out k)
            have hwz := HB.out.size
            have HTr := Lib.hid (HT1.out.trans (HB.out.mono HT1.out.size))
            have KBr := Lib.hid (KB1.out.below HB.out (by omega))
            obtain ⟨wo, mo, hst⟩ : ∃ wo mo, worstL ⟨r, co, hs'⟩ sh ci k = (wo, mo) := ⟨_, _, rfl⟩
            rw [hst] at hwb HU ⊢
            clear hst
            simp only at hwb ⊢
            have b0 : wr.cell? ⟨w.heap.size, 0, none⟩ = some (.int .i64 r) := KBr.out.cell 0
            have b1 : wr.cell? ⟨w.heap.size, 1, none⟩ = some (.int .i64 co) := KBr.out.cell 1
            have b2 : wr.cell? ⟨w.heap.size, 2, none⟩ = some (.slice A n c) := KBr.out.cell 2
            obtain ⟨Z, hZ⟩ : ∃ Z, Z = wr.alloc (.cells #[.int .i64 (k : Int)] 2) := ⟨_, rfl⟩
            have BZ : Below wr.heap.size wr Z := by rw [hZ]; exact (Below.refl _ _).alloc (Nat.le_refl _) _
            have hsZ : Z.heap.size = wr.heap.size + 1 := by rw [hZ]; simp
            have HRD : Hid (Reads Z (wr.heap.size + 1) 1 (some ⟨wr.heap.size, 0, none⟩) 1 (ints [(k : Int)])) := Lib.hid (by rw [hZ]; exact reads_lit1 wr k)
            have HTz := Lib.hid (HTr.out.trans (BZ.mono HTr.out.size))
            have HRN := Lib.hid (run_c ⟨r, co, hs'⟩ A n c B _ 1 1 _ [(k : Int)] sh Z (HG.out.below HTz.out) HRD.out (by omega) (by omega) HFO.out (by simp [allInB, inB]; omega) h4 h5)
            rw [runV_one] at HRN
            have hlsf := stepF_len ⟨r, co, hs'⟩ k sh
            have HSF := Lib.hid fun h => stepF_fi HFO.out (d := (k : Int)) (sh := sh) h
            have HUB := Lib.hid (worstS_bad (g := ⟨r, co, hs'⟩) (sh := sh) (c := ci) (st := (wo, mo)) (d := (k : Int)))
            have HUO := Lib.hid (worstS_ok (g := ⟨r, co, hs'⟩) (sh := sh) (c := ci) (st := (wo, mo)) (d := (k : Int)))
            rw [show stepF ⟨r, co, hs'⟩ k sh = ⟨r, co, (stepF ⟨r, co, hs'⟩ k sh).hs⟩ from rfl] at HRN HSF
            rw [← HU.out] at HUB HUO
            have HZE := Lib.hid hZ
            have KBz := Lib.hid (KBr.out.below BZ (by omega))
            have HWZ : Hid (Below w1.heap.size w1 Z) := Lib.hid (HB.out.trans (BZ.mono hwz))
            clear hZ BZ HU
            generalize (stepF ⟨r, co, hs'⟩ k sh).hs = L at *
            simp only at hlsf HUO
            rw [HLG.out] at hlsf
            go_wp2_with fail
            rw [← HZE.out]
            refine HRN.out.mono ?_
            rintro e w2 ⟨D, m, dd, rfl, O2, hm, B2⟩
            have hs2 := B2.size
            have KB2 := Lib.hid (KBz.out.below B2 (by omega))
            have HW2 := Lib.hid (HWZ.out.trans (B2.mono HWZ.out.size))
            clear b0 b1 b2 B2 HRN HZE HRD
            cases hall : allInB 0 1000000 L
            · rw [hall] at O2
              simp only [Bool.false_eq_true, if_false, Fi.val, Fi.cells, zeroFi] at O2 ⊢
              have HUU := Lib.hid (HUB.out hall)
              clear hall HUB HUO O2
              go_wp2
              go_roundw
              case rel => exact ⟨k + 1, by omega, by go_num, by rw [HUU.out], by rw [HUU.out], Lib.hid (HW2.out.alloc (by omega) _)⟩
              case measure => simp [intOf]; omega
            · rw [hall] at O2
              simp only [if_true, Fi.val, Fi.cells] at O2 ⊢
              have HUU := Lib.hid (HUO.out hall)
              have hfl := HSF.out hall
              have hbl := hs_bd hfl ci
              have hbg := HBG.out ci
              simp only at hbl
              obtain rfl : m = n := by
                have h1 := O2.reads.len
                rw [hlsf] at h1
                exact h1.symm
              obtain ⟨A', c', e1, hnd, _⟩ := O2.slice
              injection e1 with e1 e2 e3
              obtain ⟨W2, hW2⟩ : ∃ W2, W2 = w2.alloc (.cells #[.int .i64 r, .int .i64 co, .slice D m dd] 26) := ⟨_, rfl⟩
              have BW : Below w2.heap.size w2 W2 := by rw [hW2]; exact (Below.refl _ _).alloc (Nat.le_refl _) _
              have hsW : W2.heap.size = w2.heap.size + 1 := by rw [hW2]; simp
              have KO : Hid (Blk W2 w2.heap.size 26 #[.int .i64 r, .int .i64 co, .slice D m dd]) := Lib.hid (by rw [hW2]; exact Blk.new _ _ _)
              have HO : Hid (GS W2 w2.heap.size ⟨r, co, L⟩ D m dd) := Lib.hid ⟨(O2.below BW (Nat.le_refl _)).reads, by omega, by omega, hbig⟩
              have HW3 := Lib.hid (HW2.out.trans (BW.mono (by omega)))
              have KB3 := Lib.hid (KB2.out.below BW (by omega))
              have HTw := Lib.hid (HT1.out.trans (HW3.out.mono HT1.out.size))
              have HGN := Lib.hid (gain_c ⟨r, co, hs'⟩ ⟨r, co, L⟩ A m c B D dd w2.heap.size W2 (HG.out.below HTw.out) HO.out HFO.out hfl)
              have HSA := Lib.hid (subL_at (o := L) (g := hs') (by rw [hlsf, HLG.out]) (k := ci) (by rw [hlsf]; exact hcn))
              have HWE := Lib.hid hW2
              clear O2 BW e1 e2 e3 hW2 hfl hall HUB HUO KB2 HW2 HSF
              go_upto_region 11 with (fail)
              rw [← HWE.out]
              have b0 : W2.cell? ⟨w.heap.size, 0, none⟩ = some (.int .i64 r) := KB3.out.cell 0
              have b1 : W2.cell? ⟨w.heap.size, 1, none⟩ = some (.int .i64 co) := KB3.out.cell 1
              have b2 : W2.cell? ⟨w.heap.size, 2, none⟩ = some (.slice A m c) := KB3.out.cell 2
              have o0 : W2.cell? ⟨w2.heap.size, 0, none⟩ = some (.int .i64 r) := KO.out.cell 0
              have o1 : W2.cell? ⟨w2.heap.size, 1, none⟩ = some (.int .i64 co) := KO.out.cell 1
              have o2 : W2.cell? ⟨w2.heap.size, 2, none⟩ = some (.slice D m dd) := KO.out.cell 2
              go_wp2_with fail
              refine HGN.out.mono ?_
              rintro e w3 ⟨E', ed, rfl, O3, B3⟩
              have hs3 := B3.size
              have HW4 := Lib.hid (HW3.out.trans (B3.mono HW3.out.size))
              obtain ⟨ge, rfl, _, _, _⟩ := O3.at_ (by omega)
              have c9 : w3.cell? ⟨ge, ci, none⟩ = some (.int .i64 (lAt L ci - lAt hs' ci)) := by have h := O3.cellI hcn; rwa [HSA.out] at h
              have hcm : (ci : Int) < (m : Int) := by omega
              clear B3 b0 b1 b2 o0 o1 o2 O3 HSA
              generalize lAt L ci = p at *
              generalize lAt hs' ci = q at *
              by_cases hw0 : wo < 0
              · have HF : Hid (worstL ⟨r, co, hs'⟩ sh ci (k + 1) = ((k : Int), p - q)) := Lib.hid (by rw [HUU.out, if_pos (.inl hw0)])
                clear HUU
                go_wp2
                go_roundw
                case rel => exact ⟨k + 1, by omega, by go_num, by rw [HF.out], by rw [HF.out], HW4⟩
                case measure => simp [intOf]; omega
              · by_cases hmo : mo < p - q
                · have HF : Hid (worstL ⟨r, co, hs'⟩ sh ci (k + 1) = ((k : Int), p - q)) := Lib.hid (by rw [HUU.out, if_pos (.inr hmo)])
                  clear HUU
                  go_wp2
                  go_roundw
                  case rel => exact ⟨k + 1, by omega, by go_num, by rw [HF.out], by rw [HF.out], HW4⟩
                  case measure => simp [intOf]; omega
                · have HF : Hid (worstL ⟨r, co, hs'⟩ sh ci (k + 1) = (wo, mo)) := Lib.hid (by rw [HUU.out, if_neg (by omega)])
                  clear HUU
                  go_wp2
                  go_roundw
                  case rel => exact ⟨k + 1, by omega, by go_num, by rw [HF.out], by rw [HF.out], HW4⟩
                  case measure => simp [intOf]; omega
          · obtain rfl : k = 4 := by omega
            have hwb := HWB.out 4
            generalize worstL ⟨r, co, hs'⟩ sh ci 4 = st at *
            obtain ⟨wo, mo⟩ := st
            simp only at hwb HVV ⊢
            by_cases hw0 : wo < 0
            · have HF : Hid (wv = (0, 0, 6)) := Lib.hid (by rw [HVV.out, if_pos hw0])
              clear HVV
              go_wp2
              go_ret3
              exact ⟨ret3 (by rw [HF.out]) (by rw [HF.out]) (by rw [HF.out]), HT1.out.trans (HB.out.mono HT1.out.size)⟩
            · have HF : Hid (wv = (wo, mo, 0)) := Lib.hid (by rw [HVV.out, if_neg hw0])
              clear HVV
              go_wp2
              go_ret3
              exact ⟨ret3 (by rw [HF.out]) (by rw [HF.out]) (by rw [HF.out]), HT1.out.trans (HB.out.mono HT1.out.size)⟩
end Go.Proofs.Ytndnjabalofcnaa
