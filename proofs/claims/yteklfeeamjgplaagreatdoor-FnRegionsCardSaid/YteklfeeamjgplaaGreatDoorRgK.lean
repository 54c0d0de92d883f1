/- Valid regions, by the program. -/
import Derived.Test.YteklfeeamjgplaaGreatDoorRgZ
namespace Go.Proofs.YteklfeeamjgplaaGreatDoor
open Go.ChangeShapes Go.WideShapes Go.ChangeAt Go.RowKit
set_option linter.unusedVariables false

theorem le_false {a b : ByteArray} (h : ltS b a = true) : (Op.bytesLess a.toList b.toList || a.toList == b.toList) = false := by rw [bl_tri]; unfold ltS at h; rw [h]; rfl
theorem le_true {a b : ByteArray} (h : ltS b a = false) : (Op.bytesLess a.toList b.toList || a.toList == b.toList) = true := by rw [bl_tri]; unfold ltS at h; rw [h]; rfl
set_option maxHeartbeats 8000000 in
theorem iValidRegions_c (A : Option Addr) (n c BA : Nat) (rs : List Rg) (w : World) (ha : Regs w BA A n rs) (hB : BA ≤ w.heap.size) (hx : ∀ x ∈ rs, x.n ≤ 1048576)(hn : n ≤ 1048576) :
    Calls Tryz.prog 21 #[.slice A n c] w fun e w' => e = .returned (.bool (validR rs)) ∧ Below w.heap.size w w' := by
  have HVR := Lib.hid (show validR rs = (decide (rs.length ≤ 8) && okTo rs rs.length) from rfl)
  have HL := Lib.hid ha.len
  by_cases h8 : 8 < n
  · have HV : Hid (validR rs = false) := Lib.hid (by rw [HVR.out, HL.out, decide_eq_false (by omega)]; rfl)
    have h8' : (8 : Int) < (n : Int) := by omega
    clear ha hx HVR
    go_enter Tryz.func21, Tryz.ntmps21
    go_wp2
    go_ret
    exact ⟨ret_bool HV.out.symm, Below.refl _ _⟩
  · have HV : Hid (validR rs = okTo rs n) := Lib.hid (by rw [HVR.out, HL.out, decide_eq_true (by omega)]; rfl)
    have HA := Lib.hid ha
    have HX := Lib.hid hx
    clear ha hx HVR
    go_enter Tryz.func21, Tryz.ntmps21
    go_wp2
    go_loopw [12] (fun i wr => ∃ k : Nat, k ≤ n ∧ i = .int .i64 k ∧ Hid (okTo rs k = true) ∧ Hid (Below w.heap.size w wr)) (fun i _ => n - (intOf i).toNat)
    case atStart => exact ⟨0, Nat.zero_le _, rfl, Lib.hid rfl, Lib.hid (Below.refl _ _)⟩
    case round =>
      obtain ⟨i, hi, rfl, HT, HB⟩ := hrel
      by_cases hlt : i < n
      · obtain ⟨ad, x, rfl, hbd, hs, hnx, c0, c1, c2⟩ := (HA.out.below (HB.out.mono hB)).at_ hlt
        have hxn := HX.out x (List.mem_of_getElem? hs)
        have hwz := HB.out.size
        have HOA := Lib.hid (okAt_some hs)
        have HOS := Lib.hid (okTo_succ rs i)
        have HNO := Lib.hid fun h => okTo_no (rs := rs) hlt h
        have HNL := Lib.hid (Reads.strLen hnx)
        obtain ⟨W1, hW1⟩ : ∃ W, W = wr.alloc (.cells #[.string x.id, .int .i64 x.lv, .slice x.A x.n x.c] 37) := ⟨_, rfl⟩
        have B1 : Below wr.heap.size wr W1 := by rw [hW1]; exact (Below.refl _ _).alloc (Nat.le_refl _) _
        have K1 : Hid (Blk W1 wr.heap.size 37 #[.string x.id, .int .i64 x.lv, .slice x.A x.n x.c]) := Lib.hid (by rw [hW1]; exact Blk.new _ _ _)
        have hsz1 : W1.heap.size = wr.heap.size + 1 := by rw [hW1]; simp
        have T1 := Lib.hid (HB.out.trans (B1.mono hwz))
        have HNX := Lib.hid (hnx.below (B1.mono (by omega)))
        have HWE := Lib.hid hW1
        have hkn : (i : Int) < (n : Int) := by omega
        clear hs hnx B1 hW1
        go_upto_region 6 with (fail)
        rw [← HWE.out]
        clear c0 c1 c2 HWE
        have b0 : W1.cell? ⟨wr.heap.size, 0, none⟩ = some (.string x.id) := K1.out.cell 0
        have b1 : W1.cell? ⟨wr.heap.size, 1, none⟩ = some (.int .i64 x.lv) := K1.out.cell 1
        have HNM := Lib.hid fun W => iIsName_c x.id W
        have HLV := Lib.hid fun W => levelOk_c x.lv W
        cases hnm : nameV x.id
        · have HVV := Lib.hid (HNO.out (by rw [HOA.out, hnm]; rfl))
          rw [hnm] at HNM
          clear hnm
          go_quiet ((first | (go_at_call 44; exact quiet_left (HNM.out _)) | (go_at_call 45; exact quiet_left (HLV.out _))))
          go_wp2
          go_ret
          exact ⟨ret_bool (by rw [HV.out, HVV.out]), below_drewN T1.out _⟩
        · rw [hnm] at HNM HOA
          cases hlv : inB x.lv 1 5
          · have HVV := Lib.hid (HNO.out (by rw [HOA.out, hlv]; rfl))
            rw [hlv] at HLV
            clear hnm hlv
            go_quiet ((first | (go_at_call 44; exact quiet_left (HNM.out _)) | (go_at_call 45; exact quiet_left (HLV.out _))))
            go_wp2
            go_ret
            exact ⟨ret_bool (by rw [HV.out, HVV.out]), below_drewN T1.out _⟩
          · rw [hlv] at HLV HOA
            clear hnm hlv
            rcases Nat.eq_zero_or_pos i with hi0 | hi0
            · subst hi0
              have HOKI : Hid (okNear rs x x.n = true → okTo rs (0 + 1) = true) := Lib.hid fun h => by rw [HOS.out, HT.out, HOA.out, HNL.out, h, show (decide ((0 : Nat) = 0)) = true from rfl]; rfl
              have HRET : Hid (∀ k, k < x.n → okIn rs x k = false → okTo rs n = false) := Lib.hid fun k hk h => HNO.out (by rw [HOA.out, HNL.out, okNear_no hk h]; simp)
              go_quiet ((first | (go_at_call 44; exact quiet_left (HNM.out _)) | (go_at_call 45; exact quiet_left (HLV.out _))))
              have K2 := Lib.hid (K1.out.drewN nq)
              have T2 := Lib.hid (below_drewN T1.out nq)
              have HNX2 := Lib.hid (HNX.out.below (below_drewN (Below.refl W1.heap.size W1) nq |>.mono (by omega)))
              have HA2 := Lib.hid (HA.out.below (T2.out.mono hB))
              have hsz2 : (W1.drewN nq).heap.size = wr.heap.size + 1 := hsz1
              clear b0 b1 K1 T1 HNX HNM HLV hsz1 HB
              generalize W1.drewN nq = W2 at *
              obtain ⟨bx, hbx⟩ : ∃ bx, bx = wr.heap.size := ⟨_, rfl⟩
              have HBX := Lib.hid hbx
              have hbx2 : bx < W2.heap.size := by omega
              have hBW : BA ≤ W2.heap.size := by omega
              rw [← hbx] at K2 ⊢
              obtain ⟨xA, hxA0⟩ : ∃ a, a = x.A := ⟨_, rfl⟩
              have HXA := Lib.hid hxA0
              rw [← hxA0] at K2
              clear hxA0
              clear hbx hsz2 hwz
              have b2 : W2.cell? ⟨bx, 2, none⟩ = some (.slice xA x.n x.c) := K2.out.cell 2
              go_wp2
              clear b2
              go_loopw [45] (fun u wr => ∃ k : Nat, k ≤ x.n ∧ u = .int .i64 k ∧ Hid (okNear rs x k = true) ∧ Hid (Below W2.heap.size W2 wr)) (fun u _ => x.n - (intOf u).toNat)
              case atStart => exact ⟨0, Nat.zero_le _, rfl, Lib.hid rfl, Lib.hid (Below.refl _ _)⟩
              case round =>
                obtain ⟨k, hkx, rfl, HN, HQ⟩ := hrel
                by_cases hk : k < x.n
                · have K3 := Lib.hid (K2.out.below HQ.out hbx2)
                  have b0 : wr.cell? ⟨bx, 0, none⟩ = some (.string x.id) := K3.out.cell 0
                  have b2 : wr.cell? ⟨bx, 2, none⟩ = some (.slice xA x.n x.c) := K3.out.cell 2
                  have HNR := Lib.hid (HNX2.out.below (HQ.out.mono hBW))
                  obtain ⟨adn, s, hxA, _, hsk, hc⟩ := Reads.str HNR.out hk
                  obtain rfl : xA = some adn := HXA.out.trans hxA
                  clear hxA
                  have HSK := Lib.hid hsk
                  have hkm : (k : Int) < (x.n : Int) := by omega
                  clear hsk
                  rcases Nat.eq_zero_or_pos k with hk0 | hk0
                  · have HK0 := Lib.hid hk0
                    have hkz : ¬ ((0 : Int) < (k : Int)) := by omega
                    clear hk0
                    cases heq : (s.toList == x.id.toList)
                    · have HEQ : Hid (eqS s x.id = false) := Lib.hid heq
                      have HC := Lib.hid (isNear_c (some ad) n c BA rs s x.id wr (HA2.out.below (HQ.out.mono (by omega))) (by have := HQ.out.size; omega) HX.out hn)
                      go_wp2_with fail
                      refine HC.out.mono ?_
                      rintro e w5 ⟨rfl, B5⟩
                      have HQ5 := Lib.hid (HQ.out.trans (B5.mono HQ.out.size))
                      clear B5 HC
                      cases hnr : isNearR rs s x.id
                      · have HR := Lib.hid (HRET.out k hk (by rw [okIn, sAt_get HSK.out, hnr]; simp))
                        clear hnr
                        go_wp2
                        go_ret
                        exact ⟨ret_bool (by rw [HV.out, HR.out]), T2.out.trans (HQ5.out.mono T2.out.size)⟩
                      · have HY : Hid (okNear rs x (k + 1) = true) := Lib.hid (by rw [okNear_succ, HN.out, okIn, sAt_get HSK.out, hnr, HEQ.out, decide_eq_true HK0.out]; rfl)
                        clear hnr
                        go_wp2
                        go_roundw
                        case rel => exact ⟨k + 1, by omega, by go_num, HY, HQ5⟩
                        case measure => simp [intOf]; omega
                    · have HR := Lib.hid (HRET.out k hk (by rw [okIn, sAt_get HSK.out, show eqS s x.id = true from heq]; simp))
                      go_wp2
                      go_ret
                      exact ⟨ret_bool (by rw [HV.out, HR.out]), T2.out.trans (HQ.out.mono T2.out.size)⟩
                  · obtain ⟨j2, rfl⟩ : ∃ j2, k = j2 + 1 := ⟨k - 1, by omega⟩
                    obtain ⟨adn2, s2, hxA2, _, hsk2, hc2⟩ := Reads.str HNR.out (show j2 < x.n by omega)
                    obtain rfl : adn = adn2 := by have h := HXA.out.trans hxA2; injection h
                    have HSK2 := Lib.hid hsk2
                    have hc0 : wr.cell? ⟨adn.block, adn.off + (j2 + 1), none⟩ = some (.string s) := hc
                    have hkm2 : (j2 : Int) < (x.n : Int) := by omega
                    clear hsk2 hxA2
                    cases hlt2 : ltS s2 s
                    · have hle := le_true hlt2
                      have HR := Lib.hid (HRET.out (j2 + 1) hk (by rw [okIn, sAt_get HSK.out, Nat.add_sub_cancel, sAt_get HSK2.out, hlt2]; simp))
                      clear hlt2
                      go_wp2
                      go_ret
                      exact ⟨ret_bool (by rw [HV.out, HR.out]), T2.out.trans (HQ.out.mono T2.out.size)⟩
                    · have hle := le_false hlt2
                      have HLT := Lib.hid hlt2
                      clear hlt2
                      cases heq : (s.toList == x.id.toList)
                      · have HEQ : Hid (eqS s x.id = false) := Lib.hid heq
                        have HC := Lib.hid (isNear_c (some ad) n c BA rs s x.id wr (HA2.out.below (HQ.out.mono (by omega))) (by have := HQ.out.size; omega) HX.out hn)
                        go_wp2_with fail
                        refine HC.out.mono ?_
                        rintro e w5 ⟨rfl, B5⟩
                        have HQ5 := Lib.hid (HQ.out.trans (B5.mono HQ.out.size))
                        clear B5 HC
                        cases hnr : isNearR rs s x.id
                        · have HR := Lib.hid (HRET.out (j2 + 1) hk (by rw [okIn, sAt_get HSK.out, hnr]; simp))
                          clear hnr
                          go_wp2
                          go_ret
                          exact ⟨ret_bool (by rw [HV.out, HR.out]), T2.out.trans (HQ5.out.mono T2.out.size)⟩
                        · have HY : Hid (okNear rs x (j2 + 1 + 1) = true) := Lib.hid (by rw [okNear_succ, HN.out, okIn, sAt_get HSK.out, hnr, HEQ.out, Nat.add_sub_cancel, sAt_get HSK2.out, HLT.out, Bool.or_true]; rfl)
                          clear hnr
                          go_wp2
                          go_roundw
                          case rel => exact ⟨j2 + 1 + 1, by omega, by go_num, HY, HQ5⟩
                          case measure => simp [intOf]; omega
                      · have HR := Lib.hid (HRET.out (j2 + 1) hk (by rw [okIn, sAt_get HSK.out, show eqS s x.id = true from heq]; simp))
                        go_wp2
                        go_ret
                        exact ⟨ret_bool (by rw [HV.out, HR.out]), T2.out.trans (HQ.out.mono T2.out.size)⟩
                · obtain rfl : k = x.n := by omega
                  have HNEXT := Lib.hid (HOKI.out HN.out)
                  go_wp2
                  go_roundw
                  case rel => exact ⟨0 + 1, by omega, by go_num, HNEXT, Lib.hid (T2.out.trans (HQ.out.mono T2.out.size))⟩
                  case measure => simp [intOf]; omega
            · obtain ⟨j, rfl⟩ : ∃ j, i = j + 1 := ⟨i - 1, by omega⟩
              obtain ⟨ad2, y, had2, _, hs2, hny, d0, d1, d2⟩ := (HA.out.below (T1.out.mono hB)).at_ (show j < n by omega)
              obtain rfl : ad = ad2 := by injection had2
              have HID := Lib.hid (idAt_get hs2)
              have hjn : (j : Int) < (n : Int) := by omega
              clear had2 hs2 hny d1 d2
              rw [Nat.add_sub_cancel, HID.out] at HOA
              cases hlt2 : ltS y.id x.id
              · have hle := le_true hlt2
                have HVV := Lib.hid (HNO.out (by rw [HOA.out, hlt2]; simp))
                clear hlt2
                go_quiet ((first | (go_at_call 44; exact quiet_left (HNM.out _)) | (go_at_call 45; exact quiet_left (HLV.out _))))
                go_wp2
                go_ret
                exact ⟨ret_bool (by rw [HV.out, HVV.out]), below_drewN T1.out _⟩
              · have hle := le_false hlt2
                have HLT2 := Lib.hid hlt2
                clear hlt2
                have HOKI : Hid (okNear rs x x.n = true → okTo rs (j + 1 + 1) = true) := Lib.hid fun h => by rw [HOS.out, HT.out, HOA.out, HNL.out, h, HLT2.out, Bool.or_true]; rfl
                have HRET : Hid (∀ k, k < x.n → okIn rs x k = false → okTo rs n = false) := Lib.hid fun k hk h => HNO.out (by rw [HOA.out, HNL.out, okNear_no hk h]; simp)
                go_quiet ((first | (go_at_call 44; exact quiet_left (HNM.out _)) | (go_at_call 45; exact quiet_left (HLV.out _))))
                have K2 := Lib.hid (K1.out.drewN nq)
                have T2 := Lib.hid (below_drewN T1.out nq)
                have HNX2 := Lib.hid (HNX.out.below (below_drewN (Below.refl W1.heap.size W1) nq |>.mono (by omega)))
                have HA2 := Lib.hid (HA.out.below (T2.out.mono hB))
                have hsz2 : (W1.drewN nq).heap.size = wr.heap.size + 1 := hsz1
                clear b0 b1 K1 T1 HNX HNM HLV hsz1 HB hle d0
                generalize hJ : j + 1 = jj at HOKI ⊢
                have hjn2 : (jj : Int) < (n : Int) := by omega
                have HJ := Lib.hid hJ
                clear hJ
                generalize W1.drewN nq = W2 at *
                obtain ⟨bx, hbx⟩ : ∃ bx, bx = wr.heap.size := ⟨_, rfl⟩
                have HBX := Lib.hid hbx
                have hbx2 : bx < W2.heap.size := by omega
                have hBW : BA ≤ W2.heap.size := by omega
                rw [← hbx] at K2 ⊢
                obtain ⟨xA, hxA0⟩ : ∃ a, a = x.A := ⟨_, rfl⟩
                have HXA := Lib.hid hxA0
                rw [← hxA0] at K2
                clear hxA0
                clear hbx hsz2 hwz
                have b2 : W2.cell? ⟨bx, 2, none⟩ = some (.slice xA x.n x.c) := K2.out.cell 2
                go_wp2
                clear b2
                go_loopw [45] (fun u wr => ∃ k : Nat, k ≤ x.n ∧ u = .int .i64 k ∧ Hid (okNear rs x k = true) ∧ Hid (Below W2.heap.size W2 wr)) (fun u _ => x.n - (intOf u).toNat)
                case atStart => exact ⟨0, Nat.zero_le _, rfl, Lib.hid rfl, Lib.hid (Below.refl _ _)⟩
                case round =>
                  obtain ⟨k, hkx, rfl, HN, HQ⟩ := hrel
                  by_cases hk : k < x.n
                  · have K3 := Lib.hid (K2.out.below HQ.out hbx2)
                    have b0 : wr.cell? ⟨bx, 0, none⟩ = some (.string x.id) := K3.out.cell 0
                    have b2 : wr.cell? ⟨bx, 2, none⟩ = some (.slice xA x.n x.c) := K3.out.cell 2
                    have HNR := Lib.hid (HNX2.out.below (HQ.out.mono hBW))
                    obtain ⟨adn, s, hxA, _, hsk, hc⟩ := Reads.str HNR.out hk
                    obtain rfl : xA = some adn := HXA.out.trans hxA
                    clear hxA
                    have HSK := Lib.hid hsk
                    have hkm : (k : Int) < (x.n : Int) := by omega
                    clear hsk
                    rcases Nat.eq_zero_or_pos k with hk0 | hk0
                    · have HK0 := Lib.hid hk0
                      have hkz : ¬ ((0 : Int) < (k : Int)) := by omega
                      clear hk0
                      cases heq : (s.toList == x.id.toList)
                      · have HEQ : Hid (eqS s x.id = false) := Lib.hid heq
                        have HC := Lib.hid (isNear_c (some ad) n c BA rs s x.id wr (HA2.out.below (HQ.out.mono (by omega))) (by have := HQ.out.size; omega) HX.out hn)
                        go_wp2_with fail
                        refine HC.out.mono ?_
                        rintro e w5 ⟨rfl, B5⟩
                        have HQ5 := Lib.hid (HQ.out.trans (B5.mono HQ.out.size))
                        clear B5 HC
                        cases hnr : isNearR rs s x.id
                        · have HR := Lib.hid (HRET.out k hk (by rw [okIn, sAt_get HSK.out, hnr]; simp))
                          clear hnr
                          go_wp2
                          go_ret
                          exact ⟨ret_bool (by rw [HV.out, HR.out]), T2.out.trans (HQ5.out.mono T2.out.size)⟩
                        · have HY : Hid (okNear rs x (k + 1) = true) := Lib.hid (by rw [okNear_succ, HN.out, okIn, sAt_get HSK.out, hnr, HEQ.out, decide_eq_true HK0.out]; rfl)
                          clear hnr
                          go_wp2
                          go_roundw
                          case rel => exact ⟨k + 1, by omega, by go_num, HY, HQ5⟩
                          case measure => simp [intOf]; omega
                      · have HR := Lib.hid (HRET.out k hk (by rw [okIn, sAt_get HSK.out, show eqS s x.id = true from heq]; simp))
                        go_wp2
                        go_ret
                        exact ⟨ret_bool (by rw [HV.out, HR.out]), T2.out.trans (HQ.out.mono T2.out.size)⟩
                    · obtain ⟨j2, rfl⟩ : ∃ j2, k = j2 + 1 := ⟨k - 1, by omega⟩
                      obtain ⟨adn2, s2, hxA2, _, hsk2, hc2⟩ := Reads.str HNR.out (show j2 < x.n by omega)
                      obtain rfl : adn = adn2 := by have h := HXA.out.trans hxA2; injection h
                      have HSK2 := Lib.hid hsk2
                      have hc0 : wr.cell? ⟨adn.block, adn.off + (j2 + 1), none⟩ = some (.string s) := hc
                      have hkm2 : (j2 : Int) < (x.n : Int) := by omega
                      clear hsk2 hxA2
                      cases hlt2 : ltS s2 s
                      · have hle := le_true hlt2
                        have HR := Lib.hid (HRET.out (j2 + 1) hk (by rw [okIn, sAt_get HSK.out, Nat.add_sub_cancel, sAt_get HSK2.out, hlt2]; simp))
                        clear hlt2
                        go_wp2
                        go_ret
                        exact ⟨ret_bool (by rw [HV.out, HR.out]), T2.out.trans (HQ.out.mono T2.out.size)⟩
                      · have hle := le_false hlt2
                        have HLT := Lib.hid hlt2
                        clear hlt2
                        cases heq : (s.toList == x.id.toList)
                        · have HEQ : Hid (eqS s x.id = false) := Lib.hid heq
                          have HC := Lib.hid (isNear_c (some ad) n c BA rs s x.id wr (HA2.out.below (HQ.out.mono (by omega))) (by have := HQ.out.size; omega) HX.out hn)
                          go_wp2_with fail
                          refine HC.out.mono ?_
                          rintro e w5 ⟨rfl, B5⟩
                          have HQ5 := Lib.hid (HQ.out.trans (B5.mono HQ.out.size))
                          clear B5 HC
                          cases hnr : isNearR rs s x.id
                          · have HR := Lib.hid (HRET.out (j2 + 1) hk (by rw [okIn, sAt_get HSK.out, hnr]; simp))
                            clear hnr
                            go_wp2
                            go_ret
                            exact ⟨ret_bool (by rw [HV.out, HR.out]), T2.out.trans (HQ5.out.mono T2.out.size)⟩
                          · have HY : Hid (okNear rs x (j2 + 1 + 1) = true) := Lib.hid (by rw [okNear_succ, HN.out, okIn, sAt_get HSK.out, hnr, HEQ.out, Nat.add_sub_cancel, sAt_get HSK2.out, HLT.out, Bool.or_true]; rfl)
                            clear hnr
                            go_wp2
                            go_roundw
                            case rel => exact ⟨j2 + 1 + 1, by omega, by go_num, HY, HQ5⟩
                            case measure => simp [intOf]; omega
                        · have HR := Lib.hid (HRET.out (j2 + 1) hk (by rw [okIn, sAt_get HSK.out, show eqS s x.id = true from heq]; simp))
                          go_wp2
                          go_ret
                          exact ⟨ret_bool (by rw [HV.out, HR.out]), T2.out.trans (HQ.out.mono T2.out.size)⟩
                  · obtain rfl : k = x.n := by omega
                    have HNEXT := Lib.hid (HOKI.out HN.out)
                    go_wp2
                    go_roundw
                    case rel => exact ⟨jj + 1, by have := HJ.out; omega, by go_num, HNEXT, Lib.hid (T2.out.trans (HQ.out.mono T2.out.size))⟩
                    case measure => have := HJ.out; simp [intOf]; omega
      · obtain rfl : i = n := by omega
        go_wp2
        go_ret
        exact ⟨ret_bool (by rw [HV.out, HT.out]), HB.out⟩
end Go.Proofs.YteklfeeamjgplaaGreatDoor
