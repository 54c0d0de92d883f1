/- Valid regions, by the reference. Printed by wip/tools/mk_rgM.py. -/
import Derived.Test.YteklfeeamjgplaaGreatDoorRgK
namespace Go.Proofs.YteklfeeamjgplaaGreatDoor
open Go.ChangeShapes Go.WideShapes Go.ChangeAt Go.RowKit
set_option linter.unusedVariables false

set_option maxRecDepth 100000 in
set_option maxHeartbeats 4000000 in
theorem l18Ok_c (A : Option Addr) (n c BA : Nat) (rs : List Rg) (w : World) (ha : Regs w BA A n rs) (hx : ∀ x ∈ rs, x.n ≤ 1048576)(hn : n ≤ 1048576) :
    Calls Tryz.prog 38 #[.slice A n c] w fun e w' => e = .returned (.bool (validR rs)) ∧ Below w.heap.size w w' := by
  have HVR := Lib.hid (show validR rs = (decide (rs.length ≤ 8) && okTo rs rs.length) from rfl)
  have HL := Lib.hid ha.len
  by_cases h8 : 8 < n
  · have HV : Hid (validR rs = false) := Lib.hid (by rw [HVR.out, HL.out, decide_eq_false (by omega)]; rfl)
    have h8' : (8 : Int) < (n : Int) := by omega
    clear ha hx HVR
    go_enter Tryz.func38, Tryz.ntmps38
    go_wp2
    go_ret
    exact ⟨ret_bool HV.out.symm, Below.refl _ _⟩
  · have HV : Hid (validR rs = okTo rs n) := Lib.hid (by rw [HVR.out, HL.out, decide_eq_true (by omega)]; rfl)
    have HA := Lib.hid ha
    have HX := Lib.hid hx
    clear ha hx HVR
    go_enter Tryz.func38, Tryz.ntmps38
    go_wp2
    go_loopw [3] (fun i wr => ∃ k q : Nat, k ≤ n ∧ i = .int .i64 k ∧ Hid (okTo rs k = true) ∧ wr = w.drewN q) (fun i _ => n - (intOf i).toNat)
    case atStart => exact ⟨0, 0, Nat.zero_le _, rfl, Lib.hid rfl, rfl⟩
    case round =>
      obtain ⟨i, q, hi, rfl, HT, rfl⟩ := hrel
      by_cases hlt : i < n
      · obtain ⟨ad, x, rfl, hbd, hs, hnx, c0, c1, c2⟩ := HA.out.at_ hlt
        have hxn := HX.out x (List.mem_of_getElem? hs)
        have HOA := Lib.hid (okAt_some hs)
        have HOS := Lib.hid (okTo_succ rs i)
        have HNO := Lib.hid fun h => okTo_no (rs := rs) hlt h
        have HNL := Lib.hid (Reads.strLen hnx)
        have HNX := Lib.hid hnx
        have HSF0 := Lib.hid fun hl s h0 => find_self hs HT.out hl (s := s) h0
        have HNM := Lib.hid fun W => l01Name_c x.id W
        have HLV := Lib.hid fun W => l17Is_c x.lv W
        have hin : (i : Int) < (n : Int) := by omega
        clear hs hnx
        go_upto_region 7 with (fail)
        obtain ⟨p, hp⟩ : ∃ p, p = ad.add (i * 3) := ⟨_, rfl⟩
        rw [← hp] at c0 c1 c2 ⊢
        clear hp
        cases hnm : nameV x.id
        · have HVV := Lib.hid (HNO.out (by rw [HOA.out, hnm]; rfl))
          rw [hnm] at HNM
          clear hnm
          refine wp_region_quiet_lit (by kernel_rfl) (by kernel_rfl) ?_
          repeat (first | go_big_quiet_step ((first | (go_at_call 61; first | exact quiet_add_left (HNM.out _) | exact quiet_left (HNM.out _)) | (go_at_call 62; first | exact quiet_add_left (HLV.out _) | exact quiet_left (HLV.out _)))) | quiet_step ((first | (go_at_call 61; first | exact quiet_add_left (HNM.out _) | exact quiet_left (HNM.out _)) | (go_at_call 62; first | exact quiet_add_left (HLV.out _) | exact quiet_left (HLV.out _)))))
          refine wpQuiet_nil ?_
          intro _ hw'
          obtain ⟨nq, hw''⟩ := hw'
          subst hw''
          go_wp2
          go_ret
          exact ⟨ret_bool (by rw [HV.out, HVV.out]), by first | exact Below.refl _ _ | exact below_drewN (Below.refl _ _) _ | exact below_drewN (below_drewN (Below.refl _ _) _) _ | exact below_drewN (below_drewN (below_drewN (Below.refl _ _) _) _) _⟩
        · rw [hnm] at HNM HOA
          cases hlv : inB x.lv 1 5
          · have HVV := Lib.hid (HNO.out (by rw [HOA.out, hlv]; rfl))
            rw [hlv] at HLV
            clear hnm hlv
            refine wp_region_quiet_lit (by kernel_rfl) (by kernel_rfl) ?_
            repeat (first | go_big_quiet_step ((first | (go_at_call 61; first | exact quiet_add_left (HNM.out _) | exact quiet_left (HNM.out _)) | (go_at_call 62; first | exact quiet_add_left (HLV.out _) | exact quiet_left (HLV.out _)))) | quiet_step ((first | (go_at_call 61; first | exact quiet_add_left (HNM.out _) | exact quiet_left (HNM.out _)) | (go_at_call 62; first | exact quiet_add_left (HLV.out _) | exact quiet_left (HLV.out _)))))
            refine wpQuiet_nil ?_
            intro _ hw'
            obtain ⟨nq, hw''⟩ := hw'
            subst hw''
            go_wp2
            go_ret
            exact ⟨ret_bool (by rw [HV.out, HVV.out]), by first | exact Below.refl _ _ | exact below_drewN (Below.refl _ _) _ | exact below_drewN (below_drewN (Below.refl _ _) _) _ | exact below_drewN (below_drewN (below_drewN (Below.refl _ _) _) _) _⟩
          · rw [hlv] at HLV HOA
            clear hnm hlv
            rcases Nat.eq_zero_or_pos i with hi0 | hi0
            · have HI0 := Lib.hid hi0
              have hiz : ¬ ((0 : Int) < (i : Int)) := by omega
              have hiz2 : ¬ (0 < i) := by omega
              have HSF := Lib.hid (HSF0.out (.inl hi0))
              have HOKI : Hid (okNear rs x x.n = true → okTo rs (i + 1) = true) := Lib.hid fun h => by rw [HOS.out, HT.out, HOA.out, HNL.out, h, decide_eq_true HI0.out]; rfl
              have HRET : Hid (∀ k, k < x.n → okIn rs x k = false → okTo rs n = false) := Lib.hid fun k hk h => HNO.out (by rw [HOA.out, HNL.out, okNear_no hk h]; simp)
              clear hi0
              refine wp_region_quiet_lit (by kernel_rfl) (by kernel_rfl) ?_
              repeat (first | go_big_quiet_step ((first | (go_at_call 61; first | exact quiet_add_left (HNM.out _) | exact quiet_left (HNM.out _)) | (go_at_call 62; first | exact quiet_add_left (HLV.out _) | exact quiet_left (HLV.out _)))) | quiet_step ((first | (go_at_call 61; first | exact quiet_add_left (HNM.out _) | exact quiet_left (HNM.out _)) | (go_at_call 62; first | exact quiet_add_left (HLV.out _) | exact quiet_left (HLV.out _)))))
              refine wpQuiet_nil ?_
              intro _ hw'
              obtain ⟨nq, hw''⟩ := hw'
              subst hw''
              go_wp2
              go_loopw [5] (fun u wr => ∃ k q' : Nat, k ≤ x.n ∧ u = .int .i64 k ∧ Hid (okNear rs x k = true) ∧ wr = w.drewN q') (fun u _ => x.n - (intOf u).toNat)
              case atStart => first | exact ⟨0, _, Nat.zero_le _, rfl, Lib.hid rfl, rfl⟩ | exact ⟨0, _, Nat.zero_le _, rfl, Lib.hid rfl, World.drewN_drewN _ _ _⟩
              case round =>
                obtain ⟨k, q', hkx, rfl, HN, rfl⟩ := hrel
                by_cases hk : k < x.n
                · obtain ⟨adn, s, hxA, _, hsk, hc⟩ := Reads.str HNX.out hk
                  rw [hxA] at c2
                  have HXA := Lib.hid hxA
                  have HSK := Lib.hid hsk
                  have hkm : (k : Int) < (x.n : Int) := by omega
                  have HF := Lib.hid (l18Find_c (some ad) n c BA rs s (w.drewN q') (HA.out.below (below_drewN (Below.refl BA w) q')) hn)
                  have HFS := Lib.hid (HSF.out s)
                  have HIN := Lib.hid (show isNearR rs s x.id = if findR rs s < 0 then false else match rs[(findR rs s).toNat]? with | none => false | some x' => nearV x'.near x.id from rfl)
                  have hfb := findR_bd rs s
                  rw [HL.out] at hfb
                  obtain ⟨at_, hat⟩ : ∃ a, a = findR rs s := ⟨_, rfl⟩
                  rw [← hat] at HF HFS HIN hfb
                  clear hsk hxA hat
                  by_cases h0 : at_ < 0
                  · have HR : Hid (okTo rs n = false) := Lib.hid (HRET.out k hk (by rw [okIn, sAt_get HSK.out, HIN.out, if_pos h0]; simp))
                    go_wp2_with fail
                    refine HF.out.mono ?_
                    rintro e w5 ⟨rfl, rfl⟩
                    go_wp2
                    refine wp_region_quiet_lit (by kernel_rfl) (by kernel_rfl) ?_
                    repeat (first | go_big_quiet_step (fail) | quiet_step (fail))
                    refine wpQuiet_nil ?_
                    intro _ hw'
                    obtain ⟨nq, hw''⟩ := hw'
                    subst hw''
                    go_wp2
                    go_ret
                    exact ⟨ret_bool (by rw [HV.out, HR.out]), by first | exact Below.refl _ _ | exact below_drewN (Below.refl _ _) _ | exact below_drewN (below_drewN (Below.refl _ _) _) _ | exact below_drewN (below_drewN (below_drewN (Below.refl _ _) _) _) _⟩
                  · obtain ⟨a, rfl⟩ : ∃ a : Nat, at_ = a := ⟨at_.toNat, by omega⟩
                    rcases Nat.lt_trichotomy a i with hai | hai | hai
                    · exfalso; have := HI0.out; omega
                    · have HEQ := Lib.hid ((HFS.out (by omega)).1 (by omega))
                      have HR : Hid (okTo rs n = false) := Lib.hid (HRET.out k hk (by rw [okIn, sAt_get HSK.out, HEQ.out]; simp))
                      clear HEQ HFS HIN
                      have hai1 : ((a : Int) == (i : Int)) = true := by rw [beq_iff_eq]; omega
                      clear hai
                      go_wp2_with fail
                      refine HF.out.mono ?_
                      rintro e w5 ⟨rfl, rfl⟩
                      go_wp2
                      refine wp_region_quiet_lit (by kernel_rfl) (by kernel_rfl) ?_
                      repeat (first | go_big_quiet_step (fail) | quiet_step (fail))
                      refine wpQuiet_nil ?_
                      intro _ hw'
                      obtain ⟨nq, hw''⟩ := hw'
                      subst hw''
                      go_wp2
                      go_ret
                      exact ⟨ret_bool (by rw [HV.out, HR.out]), by first | exact Below.refl _ _ | exact below_drewN (Below.refl _ _) _ | exact below_drewN (below_drewN (Below.refl _ _) _) _ | exact below_drewN (below_drewN (below_drewN (Below.refl _ _) _) _) _⟩
                    · have hai2 : ((a : Int) == (i : Int)) = false := by rw [beq_eq_false_iff_ne]; omega
                      have HEQ : Hid (eqS s x.id = false) := Lib.hid (by
                        cases h : eqS s x.id
                        · rfl
                        · exact absurd ((HFS.out (by omega)).2 h) (by omega))
                      obtain ⟨ad2, y, had2, _, hs2, hny, d0, d1, d2⟩ := HA.out.at_ (show a < n by omega)
                      obtain rfl : ad = ad2 := by injection had2
                      have hyn := HX.out y (List.mem_of_getElem? hs2)
                      have HNR := Lib.hid fun q => l18Near_c (ad.add (a * 3)) y BA x.id (w.drewN q) ⟨d0, d1, d2⟩ hny hyn
                      have HIN2 : Hid (isNearR rs s x.id = nearV y.near x.id) := Lib.hid (by rw [HIN.out, if_neg h0, Int.toNat_natCast, hs2])
                      have han : (a : Int) < (n : Int) := by omega
                      clear had2 hs2 hny d0 d1 d2 HIN HFS
                      rcases Nat.eq_zero_or_pos k with hk0 | hk0
                      · have HK0 := Lib.hid hk0
                        have hkz : ¬ ((0 : Int) < (k : Int)) := by omega
                        have hkz2 : ¬ (0 < k) := by omega
                        clear hk0
                        cases hnr : nearV y.near x.id
                        · have HR : Hid (okTo rs n = false) := Lib.hid (HRET.out k hk (by rw [okIn, sAt_get HSK.out, HIN2.out, hnr]; simp))
                          rw [hnr] at HNR
                          clear hnr
                          go_wp2_with fail
                          refine HF.out.mono ?_
                          rintro e w5 ⟨rfl, rfl⟩
                          go_wp2
                          refine wp_region_quiet_lit (by kernel_rfl) (by kernel_rfl) ?_
                          repeat (first | go_big_quiet_step ((go_at_call 64; first | exact quiet_add_left (HNR.out _) | exact quiet_left (HNR.out _))) | quiet_step ((go_at_call 64; first | exact quiet_add_left (HNR.out _) | exact quiet_left (HNR.out _))))
                          refine wpQuiet_nil ?_
                          intro _ hw'
                          obtain ⟨nq, hw''⟩ := hw'
                          subst hw''
                          go_wp2
                          go_ret
                          exact ⟨ret_bool (by rw [HV.out, HR.out]), by first | exact Below.refl _ _ | exact below_drewN (Below.refl _ _) _ | exact below_drewN (below_drewN (Below.refl _ _) _) _ | exact below_drewN (below_drewN (below_drewN (Below.refl _ _) _) _) _⟩
                        · have HY : Hid (okNear rs x (k + 1) = true) := Lib.hid (by rw [okNear_succ, HN.out, okIn, sAt_get HSK.out, HIN2.out, hnr, HEQ.out, decide_eq_true HK0.out]; rfl)
                          rw [hnr] at HNR
                          clear hnr
                          go_wp2_with fail
                          refine HF.out.mono ?_
                          rintro e w5 ⟨rfl, rfl⟩
                          go_wp2
                          refine wp_region_quiet_lit (by kernel_rfl) (by kernel_rfl) ?_
                          repeat (first | go_big_quiet_step ((go_at_call 64; first | exact quiet_add_left (HNR.out _) | exact quiet_left (HNR.out _))) | quiet_step ((go_at_call 64; first | exact quiet_add_left (HNR.out _) | exact quiet_left (HNR.out _))))
                          refine wpQuiet_nil ?_
                          intro _ hw'
                          obtain ⟨nq, hw''⟩ := hw'
                          subst hw''
                          go_wp2
                          go_roundw
                          case rel => first | exact ⟨k + 1, _, by omega, by go_num, HY, rfl⟩ | exact ⟨k + 1, _, by omega, by go_num, HY, World.drewN_drewN _ _ _⟩
                          case measure => simp [intOf]; omega
                      · obtain ⟨j2, rfl⟩ : ∃ j2, k = j2 + 1 := ⟨k - 1, by omega⟩
                        obtain ⟨adn2, s2, hxA2, _, hsk2, hc2⟩ := Reads.str HNX.out (show j2 < x.n by omega)
                        obtain rfl : adn = adn2 := by have h := HXA.out.symm.trans hxA2; injection h
                        have HSK2 := Lib.hid hsk2
                        have hc0 : w.cell? ⟨adn.block, adn.off + (j2 + 1), none⟩ = some (.string s) := hc
                        have hkm2 : (j2 : Int) < (x.n : Int) := by omega
                        clear hsk2 hxA2
                        cases hlt2 : Op.bytesLess s2.toList s.toList
                        · have HR : Hid (okTo rs n = false) := Lib.hid (HRET.out (j2 + 1) hk (by rw [okIn, sAt_get HSK.out, Nat.add_sub_cancel, sAt_get HSK2.out, ltS, hlt2]; simp))
                          go_wp2_with fail
                          refine HF.out.mono ?_
                          rintro e w5 ⟨rfl, rfl⟩
                          go_wp2
                          refine wp_region_quiet_lit (by kernel_rfl) (by kernel_rfl) ?_
                          repeat (first | go_big_quiet_step (fail) | quiet_step (fail))
                          refine wpQuiet_nil ?_
                          intro _ hw'
                          obtain ⟨nq, hw''⟩ := hw'
                          subst hw''
                          go_wp2
                          go_ret
                          exact ⟨ret_bool (by rw [HV.out, HR.out]), by first | exact Below.refl _ _ | exact below_drewN (Below.refl _ _) _ | exact below_drewN (below_drewN (Below.refl _ _) _) _ | exact below_drewN (below_drewN (below_drewN (Below.refl _ _) _) _) _⟩
                        · have HLT : Hid (ltS s2 s = true) := Lib.hid hlt2
                          cases hnr : nearV y.near x.id
                          · have HR : Hid (okTo rs n = false) := Lib.hid (HRET.out (j2 + 1) hk (by rw [okIn, sAt_get HSK.out, HIN2.out, hnr]; simp))
                            rw [hnr] at HNR
                            clear hnr
                            go_wp2_with fail
                            refine HF.out.mono ?_
                            rintro e w5 ⟨rfl, rfl⟩
                            go_wp2
                            refine wp_region_quiet_lit (by kernel_rfl) (by kernel_rfl) ?_
                            repeat (first | go_big_quiet_step ((go_at_call 64; first | exact quiet_add_left (HNR.out _) | exact quiet_left (HNR.out _))) | quiet_step ((go_at_call 64; first | exact quiet_add_left (HNR.out _) | exact quiet_left (HNR.out _))))
                            refine wpQuiet_nil ?_
                            intro _ hw'
                            obtain ⟨nq, hw''⟩ := hw'
                            subst hw''
                            go_wp2
                            go_ret
                            exact ⟨ret_bool (by rw [HV.out, HR.out]), by first | exact Below.refl _ _ | exact below_drewN (Below.refl _ _) _ | exact below_drewN (below_drewN (Below.refl _ _) _) _ | exact below_drewN (below_drewN (below_drewN (Below.refl _ _) _) _) _⟩
                          · have HY : Hid (okNear rs x ((j2 + 1) + 1) = true) := Lib.hid (by rw [okNear_succ, HN.out, okIn, sAt_get HSK.out, HIN2.out, hnr, HEQ.out, Nat.add_sub_cancel, sAt_get HSK2.out, HLT.out, Bool.or_true]; rfl)
                            rw [hnr] at HNR
                            clear hnr
                            go_wp2_with fail
                            refine HF.out.mono ?_
                            rintro e w5 ⟨rfl, rfl⟩
                            go_wp2
                            refine wp_region_quiet_lit (by kernel_rfl) (by kernel_rfl) ?_
                            repeat (first | go_big_quiet_step ((go_at_call 64; first | exact quiet_add_left (HNR.out _) | exact quiet_left (HNR.out _))) | quiet_step ((go_at_call 64; first | exact quiet_add_left (HNR.out _) | exact quiet_left (HNR.out _))))
                            refine wpQuiet_nil ?_
                            intro _ hw'
                            obtain ⟨nq, hw''⟩ := hw'
                            subst hw''
                            go_wp2
                            go_roundw
                            case rel => first | exact ⟨(j2 + 1) + 1, _, by omega, by go_num, HY, rfl⟩ | exact ⟨(j2 + 1) + 1, _, by omega, by go_num, HY, World.drewN_drewN _ _ _⟩
                            case measure => simp [intOf]; omega
                · obtain rfl : k = x.n := by omega
                  have HNEXT := Lib.hid (HOKI.out HN.out)
                  go_wp2
                  go_roundw
                  case rel => exact ⟨i + 1, _, by omega, by go_num, HNEXT, rfl⟩
                  case measure => simp [intOf]; omega
            · obtain ⟨j, rfl⟩ : ∃ j, i = j + 1 := ⟨i - 1, by omega⟩
              obtain ⟨ad2, y, had2, _, hs2, hny, d0, d1, d2⟩ := HA.out.at_ (show j < n by omega)
              obtain rfl : ad = ad2 := by injection had2
              have HID := Lib.hid (idAt_get hs2)
              have hjn : (j : Int) < (n : Int) := by omega
              clear had2 hs2 hny d1 d2
              rw [Nat.add_sub_cancel, HID.out] at HOA HSF0
              cases hlt2 : Op.bytesLess y.id.toList x.id.toList
              · have HVV := Lib.hid (HNO.out (by rw [HOA.out, ltS, hlt2]; simp))
                refine wp_region_quiet_lit (by kernel_rfl) (by kernel_rfl) ?_
                repeat (first | go_big_quiet_step ((first | (go_at_call 61; first | exact quiet_add_left (HNM.out _) | exact quiet_left (HNM.out _)) | (go_at_call 62; first | exact quiet_add_left (HLV.out _) | exact quiet_left (HLV.out _)))) | quiet_step ((first | (go_at_call 61; first | exact quiet_add_left (HNM.out _) | exact quiet_left (HNM.out _)) | (go_at_call 62; first | exact quiet_add_left (HLV.out _) | exact quiet_left (HLV.out _)))))
                refine wpQuiet_nil ?_
                intro _ hw'
                obtain ⟨nq, hw''⟩ := hw'
                subst hw''
                go_wp2
                go_ret
                exact ⟨ret_bool (by rw [HV.out, HVV.out]), by first | exact Below.refl _ _ | exact below_drewN (Below.refl _ _) _ | exact below_drewN (below_drewN (Below.refl _ _) _) _ | exact below_drewN (below_drewN (below_drewN (Below.refl _ _) _) _) _⟩
              · have HLT2 : Hid (ltS y.id x.id = true) := Lib.hid hlt2
                have HSF := Lib.hid (HSF0.out (.inr HLT2.out))
                have HOKI : Hid (okNear rs x x.n = true → okTo rs (j + 1 + 1) = true) := Lib.hid fun h => by rw [HOS.out, HT.out, HOA.out, HNL.out, h, HLT2.out, Bool.or_true]; rfl
                have HRET : Hid (∀ k, k < x.n → okIn rs x k = false → okTo rs n = false) := Lib.hid fun k hk h => HNO.out (by rw [HOA.out, HNL.out, okNear_no hk h]; simp)
                refine wp_region_quiet_lit (by kernel_rfl) (by kernel_rfl) ?_
                repeat (first | go_big_quiet_step ((first | (go_at_call 61; first | exact quiet_add_left (HNM.out _) | exact quiet_left (HNM.out _)) | (go_at_call 62; first | exact quiet_add_left (HLV.out _) | exact quiet_left (HLV.out _)))) | quiet_step ((first | (go_at_call 61; first | exact quiet_add_left (HNM.out _) | exact quiet_left (HNM.out _)) | (go_at_call 62; first | exact quiet_add_left (HLV.out _) | exact quiet_left (HLV.out _)))))
                refine wpQuiet_nil ?_
                intro _ hw'
                obtain ⟨nq, hw''⟩ := hw'
                subst hw''
                clear d0 hlt2
                generalize hJ : j + 1 = jj at HOKI HSF ⊢
                have hjn2 : (jj : Int) < (n : Int) := by omega
                have HJ := Lib.hid hJ
                clear hJ
                go_wp2
                go_loopw [5] (fun u wr => ∃ k q' : Nat, k ≤ x.n ∧ u = .int .i64 k ∧ Hid (okNear rs x k = true) ∧ wr = w.drewN q') (fun u _ => x.n - (intOf u).toNat)
                case atStart => first | exact ⟨0, _, Nat.zero_le _, rfl, Lib.hid rfl, rfl⟩ | exact ⟨0, _, Nat.zero_le _, rfl, Lib.hid rfl, World.drewN_drewN _ _ _⟩
                case round =>
                  obtain ⟨k, q', hkx, rfl, HN, rfl⟩ := hrel
                  by_cases hk : k < x.n
                  · obtain ⟨adn, s, hxA, _, hsk, hc⟩ := Reads.str HNX.out hk
                    rw [hxA] at c2
                    have HXA := Lib.hid hxA
                    have HSK := Lib.hid hsk
                    have hkm : (k : Int) < (x.n : Int) := by omega
                    have HF := Lib.hid (l18Find_c (some ad) n c BA rs s (w.drewN q') (HA.out.below (below_drewN (Below.refl BA w) q')) hn)
                    have HFS := Lib.hid (HSF.out s)
                    have HIN := Lib.hid (show isNearR rs s x.id = if findR rs s < 0 then false else match rs[(findR rs s).toNat]? with | none => false | some x' => nearV x'.near x.id from rfl)
                    have hfb := findR_bd rs s
                    rw [HL.out] at hfb
                    obtain ⟨at_, hat⟩ : ∃ a, a = findR rs s := ⟨_, rfl⟩
                    rw [← hat] at HF HFS HIN hfb
                    clear hsk hxA hat
                    by_cases h0 : at_ < 0
                    · have HR : Hid (okTo rs n = false) := Lib.hid (HRET.out k hk (by rw [okIn, sAt_get HSK.out, HIN.out, if_pos h0]; simp))
                      go_wp2_with fail
                      refine HF.out.mono ?_
                      rintro e w5 ⟨rfl, rfl⟩
                      go_wp2
                      refine wp_region_quiet_lit (by kernel_rfl) (by kernel_rfl) ?_
                      repeat (first | go_big_quiet_step (fail) | quiet_step (fail))
                      refine wpQuiet_nil ?_
                      intro _ hw'
                      obtain ⟨nq, hw''⟩ := hw'
                      subst hw''
                      go_wp2
                      go_ret
                      exact ⟨ret_bool (by rw [HV.out, HR.out]), by first | exact Below.refl _ _ | exact below_drewN (Below.refl _ _) _ | exact below_drewN (below_drewN (Below.refl _ _) _) _ | exact below_drewN (below_drewN (below_drewN (Below.refl _ _) _) _) _⟩
                    · obtain ⟨a, rfl⟩ : ∃ a : Nat, at_ = a := ⟨at_.toNat, by omega⟩
                      rcases Nat.lt_trichotomy a jj with hai | hai | hai
                      · have hai2 : ((a : Int) == (jj : Int)) = false := by rw [beq_eq_false_iff_ne]; omega
                        have HEQ : Hid (eqS s x.id = false) := Lib.hid (by
                          cases h : eqS s x.id
                          · rfl
                          · exact absurd ((HFS.out (by omega)).2 h) (by omega))
                        obtain ⟨ad2, y, had2, _, hs2, hny, d0, d1, d2⟩ := HA.out.at_ (show a < n by omega)
                        obtain rfl : ad = ad2 := by injection had2
                        have hyn := HX.out y (List.mem_of_getElem? hs2)
                        have HNR := Lib.hid fun q => l18Near_c (ad.add (a * 3)) y BA x.id (w.drewN q) ⟨d0, d1, d2⟩ hny hyn
                        have HIN2 : Hid (isNearR rs s x.id = nearV y.near x.id) := Lib.hid (by rw [HIN.out, if_neg h0, Int.toNat_natCast, hs2])
                        have han : (a : Int) < (n : Int) := by omega
                        clear had2 hs2 hny d0 d1 d2 HIN HFS
                        rcases Nat.eq_zero_or_pos k with hk0 | hk0
                        · have HK0 := Lib.hid hk0
                          have hkz : ¬ ((0 : Int) < (k : Int)) := by omega
                          have hkz2 : ¬ (0 < k) := by omega
                          clear hk0
                          cases hnr : nearV y.near x.id
                          · have HR : Hid (okTo rs n = false) := Lib.hid (HRET.out k hk (by rw [okIn, sAt_get HSK.out, HIN2.out, hnr]; simp))
                            rw [hnr] at HNR
                            clear hnr
                            go_wp2_with fail
                            refine HF.out.mono ?_
                            rintro e w5 ⟨rfl, rfl⟩
                            go_wp2
                            refine wp_region_quiet_lit (by kernel_rfl) (by kernel_rfl) ?_
                            repeat (first | go_big_quiet_step ((go_at_call 64; first | exact quiet_add_left (HNR.out _) | exact quiet_left (HNR.out _))) | quiet_step ((go_at_call 64; first | exact quiet_add_left (HNR.out _) | exact quiet_left (HNR.out _))))
                            refine wpQuiet_nil ?_
                            intro _ hw'
                            obtain ⟨nq, hw''⟩ := hw'
                            subst hw''
                            go_wp2
                            go_ret
                            exact ⟨ret_bool (by rw [HV.out, HR.out]), by first | exact Below.refl _ _ | exact below_drewN (Below.refl _ _) _ | exact below_drewN (below_drewN (Below.refl _ _) _) _ | exact below_drewN (below_drewN (below_drewN (Below.refl _ _) _) _) _⟩
                          · have HY : Hid (okNear rs x (k + 1) = true) := Lib.hid (by rw [okNear_succ, HN.out, okIn, sAt_get HSK.out, HIN2.out, hnr, HEQ.out, decide_eq_true HK0.out]; rfl)
                            rw [hnr] at HNR
                            clear hnr
                            go_wp2_with fail
                            refine HF.out.mono ?_
                            rintro e w5 ⟨rfl, rfl⟩
                            go_wp2
                            refine wp_region_quiet_lit (by kernel_rfl) (by kernel_rfl) ?_
                            repeat (first | go_big_quiet_step ((go_at_call 64; first | exact quiet_add_left (HNR.out _) | exact quiet_left (HNR.out _))) | quiet_step ((go_at_call 64; first | exact quiet_add_left (HNR.out _) | exact quiet_left (HNR.out _))))
                            refine wpQuiet_nil ?_
                            intro _ hw'
                            obtain ⟨nq, hw''⟩ := hw'
                            subst hw''
                            go_wp2
                            go_roundw
                            case rel => first | exact ⟨k + 1, _, by omega, by go_num, HY, rfl⟩ | exact ⟨k + 1, _, by omega, by go_num, HY, World.drewN_drewN _ _ _⟩
                            case measure => simp [intOf]; omega
                        · obtain ⟨j2, rfl⟩ : ∃ j2, k = j2 + 1 := ⟨k - 1, by omega⟩
                          obtain ⟨adn2, s2, hxA2, _, hsk2, hc2⟩ := Reads.str HNX.out (show j2 < x.n by omega)
                          obtain rfl : adn = adn2 := by have h := HXA.out.symm.trans hxA2; injection h
                          have HSK2 := Lib.hid hsk2
                          have hc0 : w.cell? ⟨adn.block, adn.off + (j2 + 1), none⟩ = some (.string s) := hc
                          have hkm2 : (j2 : Int) < (x.n : Int) := by omega
                          clear hsk2 hxA2
                          cases hlt2 : Op.bytesLess s2.toList s.toList
                          · have HR : Hid (okTo rs n = false) := Lib.hid (HRET.out (j2 + 1) hk (by rw [okIn, sAt_get HSK.out, Nat.add_sub_cancel, sAt_get HSK2.out, ltS, hlt2]; simp))
                            go_wp2_with fail
                            refine HF.out.mono ?_
                            rintro e w5 ⟨rfl, rfl⟩
                            go_wp2
                            refine wp_region_quiet_lit (by kernel_rfl) (by kernel_rfl) ?_
                            repeat (first | go_big_quiet_step (fail) | quiet_step (fail))
                            refine wpQuiet_nil ?_
                            intro _ hw'
                            obtain ⟨nq, hw''⟩ := hw'
                            subst hw''
                            go_wp2
                            go_ret
                            exact ⟨ret_bool (by rw [HV.out, HR.out]), by first | exact Below.refl _ _ | exact below_drewN (Below.refl _ _) _ | exact below_drewN (below_drewN (Below.refl _ _) _) _ | exact below_drewN (below_drewN (below_drewN (Below.refl _ _) _) _) _⟩
                          · have HLT : Hid (ltS s2 s = true) := Lib.hid hlt2
                            cases hnr : nearV y.near x.id
                            · have HR : Hid (okTo rs n = false) := Lib.hid (HRET.out (j2 + 1) hk (by rw [okIn, sAt_get HSK.out, HIN2.out, hnr]; simp))
                              rw [hnr] at HNR
                              clear hnr
                              go_wp2_with fail
                              refine HF.out.mono ?_
                              rintro e w5 ⟨rfl, rfl⟩
                              go_wp2
                              refine wp_region_quiet_lit (by kernel_rfl) (by kernel_rfl) ?_
                              repeat (first | go_big_quiet_step ((go_at_call 64; first | exact quiet_add_left (HNR.out _) | exact quiet_left (HNR.out _))) | quiet_step ((go_at_call 64; first | exact quiet_add_left (HNR.out _) | exact quiet_left (HNR.out _))))
                              refine wpQuiet_nil ?_
                              intro _ hw'
                              obtain ⟨nq, hw''⟩ := hw'
                              subst hw''
                              go_wp2
                              go_ret
                              exact ⟨ret_bool (by rw [HV.out, HR.out]), by first | exact Below.refl _ _ | exact below_drewN (Below.refl _ _) _ | exact below_drewN (below_drewN (Below.refl _ _) _) _ | exact below_drewN (below_drewN (below_drewN (Below.refl _ _) _) _) _⟩
                            · have HY : Hid (okNear rs x ((j2 + 1) + 1) = true) := Lib.hid (by rw [okNear_succ, HN.out, okIn, sAt_get HSK.out, HIN2.out, hnr, HEQ.out, Nat.add_sub_cancel, sAt_get HSK2.out, HLT.out, Bool.or_true]; rfl)
                              rw [hnr] at HNR
                              clear hnr
                              go_wp2_with fail
                              refine HF.out.mono ?_
                              rintro e w5 ⟨rfl, rfl⟩
                              go_wp2
                              refine wp_region_quiet_lit (by kernel_rfl) (by kernel_rfl) ?_
                              repeat (first | go_big_quiet_step ((go_at_call 64; first | exact quiet_add_left (HNR.out _) | exact quiet_left (HNR.out _))) | quiet_step ((go_at_call 64; first | exact quiet_add_left (HNR.out _) | exact quiet_left (HNR.out _))))
                              refine wpQuiet_nil ?_
                              intro _ hw'
                              obtain ⟨nq, hw''⟩ := hw'
                              subst hw''
                              go_wp2
                              go_roundw
                              case rel => first | exact ⟨(j2 + 1) + 1, _, by omega, by go_num, HY, rfl⟩ | exact ⟨(j2 + 1) + 1, _, by omega, by go_num, HY, World.drewN_drewN _ _ _⟩
                              case measure => simp [intOf]; omega
                      · have HEQ := Lib.hid ((HFS.out (by omega)).1 (by omega))
                        have HR : Hid (okTo rs n = false) := Lib.hid (HRET.out k hk (by rw [okIn, sAt_get HSK.out, HEQ.out]; simp))
                        clear HEQ HFS HIN
                        have hai1 : ((a : Int) == (jj : Int)) = true := by rw [beq_iff_eq]; omega
                        clear hai
                        go_wp2_with fail
                        refine HF.out.mono ?_
                        rintro e w5 ⟨rfl, rfl⟩
                        go_wp2
                        refine wp_region_quiet_lit (by kernel_rfl) (by kernel_rfl) ?_
                        repeat (first | go_big_quiet_step (fail) | quiet_step (fail))
                        refine wpQuiet_nil ?_
                        intro _ hw'
                        obtain ⟨nq, hw''⟩ := hw'
                        subst hw''
                        go_wp2
                        go_ret
                        exact ⟨ret_bool (by rw [HV.out, HR.out]), by first | exact Below.refl _ _ | exact below_drewN (Below.refl _ _) _ | exact below_drewN (below_drewN (Below.refl _ _) _) _ | exact below_drewN (below_drewN (below_drewN (Below.refl _ _) _) _) _⟩
                      · have hai2 : ((a : Int) == (jj : Int)) = false := by rw [beq_eq_false_iff_ne]; omega
                        have HEQ : Hid (eqS s x.id = false) := Lib.hid (by
                          cases h : eqS s x.id
                          · rfl
                          · exact absurd ((HFS.out (by omega)).2 h) (by omega))
                        obtain ⟨ad2, y, had2, _, hs2, hny, d0, d1, d2⟩ := HA.out.at_ (show a < n by omega)
                        obtain rfl : ad = ad2 := by injection had2
                        have hyn := HX.out y (List.mem_of_getElem? hs2)
                        have HNR := Lib.hid fun q => l18Near_c (ad.add (a * 3)) y BA x.id (w.drewN q) ⟨d0, d1, d2⟩ hny hyn
                        have HIN2 : Hid (isNearR rs s x.id = nearV y.near x.id) := Lib.hid (by rw [HIN.out, if_neg h0, Int.toNat_natCast, hs2])
                        have han : (a : Int) < (n : Int) := by omega
                        clear had2 hs2 hny d0 d1 d2 HIN HFS
                        rcases Nat.eq_zero_or_pos k with hk0 | hk0
                        · have HK0 := Lib.hid hk0
                          have hkz : ¬ ((0 : Int) < (k : Int)) := by omega
                          have hkz2 : ¬ (0 < k) := by omega
                          clear hk0
                          cases hnr : nearV y.near x.id
                          · have HR : Hid (okTo rs n = false) := Lib.hid (HRET.out k hk (by rw [okIn, sAt_get HSK.out, HIN2.out, hnr]; simp))
                            rw [hnr] at HNR
                            clear hnr
                            go_wp2_with fail
                            refine HF.out.mono ?_
                            rintro e w5 ⟨rfl, rfl⟩
                            go_wp2
                            refine wp_region_quiet_lit (by kernel_rfl) (by kernel_rfl) ?_
                            repeat (first | go_big_quiet_step ((go_at_call 64; first | exact quiet_add_left (HNR.out _) | exact quiet_left (HNR.out _))) | quiet_step ((go_at_call 64; first | exact quiet_add_left (HNR.out _) | exact quiet_left (HNR.out _))))
                            refine wpQuiet_nil ?_
                            intro _ hw'
                            obtain ⟨nq, hw''⟩ := hw'
                            subst hw''
                            go_wp2
                            go_ret
                            exact ⟨ret_bool (by rw [HV.out, HR.out]), by first | exact Below.refl _ _ | exact below_drewN (Below.refl _ _) _ | exact below_drewN (below_drewN (Below.refl _ _) _) _ | exact below_drewN (below_drewN (below_drewN (Below.refl _ _) _) _) _⟩
                          · have HY : Hid (okNear rs x (k + 1) = true) := Lib.hid (by rw [okNear_succ, HN.out, okIn, sAt_get HSK.out, HIN2.out, hnr, HEQ.out, decide_eq_true HK0.out]; rfl)
                            rw [hnr] at HNR
                            clear hnr
                            go_wp2_with fail
                            refine HF.out.mono ?_
                            rintro e w5 ⟨rfl, rfl⟩
                            go_wp2
                            refine wp_region_quiet_lit (by kernel_rfl) (by kernel_rfl) ?_
                            repeat (first | go_big_quiet_step ((go_at_call 64; first | exact quiet_add_left (HNR.out _) | exact quiet_left (HNR.out _))) | quiet_step ((go_at_call 64; first | exact quiet_add_left (HNR.out _) | exact quiet_left (HNR.out _))))
                            refine wpQuiet_nil ?_
                            intro _ hw'
                            obtain ⟨nq, hw''⟩ := hw'
                            subst hw''
                            go_wp2
                            go_roundw
                            case rel => first | exact ⟨k + 1, _, by omega, by go_num, HY, rfl⟩ | exact ⟨k + 1, _, by omega, by go_num, HY, World.drewN_drewN _ _ _⟩
                            case measure => simp [intOf]; omega
                        · obtain ⟨j2, rfl⟩ : ∃ j2, k = j2 + 1 := ⟨k - 1, by omega⟩
                          obtain ⟨adn2, s2, hxA2, _, hsk2, hc2⟩ := Reads.str HNX.out (show j2 < x.n by omega)
                          obtain rfl : adn = adn2 := by have h := HXA.out.symm.trans hxA2; injection h
                          have HSK2 := Lib.hid hsk2
                          have hc0 : w.cell? ⟨adn.block, adn.off + (j2 + 1), none⟩ = some (.string s) := hc
                          have hkm2 : (j2 : Int) < (x.n : Int) := by omega
                          clear hsk2 hxA2
                          cases hlt2 : Op.bytesLess s2.toList s.toList
                          · have HR : Hid (okTo rs n = false) := Lib.hid (HRET.out (j2 + 1) hk (by rw [okIn, sAt_get HSK.out, Nat.add_sub_cancel, sAt_get HSK2.out, ltS, hlt2]; simp))
                            go_wp2_with fail
                            refine HF.out.mono ?_
                            rintro e w5 ⟨rfl, rfl⟩
                            go_wp2
                            refine wp_region_quiet_lit (by kernel_rfl) (by kernel_rfl) ?_
                            repeat (first | go_big_quiet_step (fail) | quiet_step (fail))
                            refine wpQuiet_nil ?_
                            intro _ hw'
                            obtain ⟨nq, hw''⟩ := hw'
                            subst hw''
                            go_wp2
                            go_ret
                            exact ⟨ret_bool (by rw [HV.out, HR.out]), by first | exact Below.refl _ _ | exact below_drewN (Below.refl _ _) _ | exact below_drewN (below_drewN (Below.refl _ _) _) _ | exact below_drewN (below_drewN (below_drewN (Below.refl _ _) _) _) _⟩
                          · have HLT : Hid (ltS s2 s = true) := Lib.hid hlt2
                            cases hnr : nearV y.near x.id
                            · have HR : Hid (okTo rs n = false) := Lib.hid (HRET.out (j2 + 1) hk (by rw [okIn, sAt_get HSK.out, HIN2.out, hnr]; simp))
                              rw [hnr] at HNR
                              clear hnr
                              go_wp2_with fail
                              refine HF.out.mono ?_
                              rintro e w5 ⟨rfl, rfl⟩
                              go_wp2
                              refine wp_region_quiet_lit (by kernel_rfl) (by kernel_rfl) ?_
                              repeat (first | go_big_quiet_step ((go_at_call 64; first | exact quiet_add_left (HNR.out _) | exact quiet_left (HNR.out _))) | quiet_step ((go_at_call 64; first | exact quiet_add_left (HNR.out _) | exact quiet_left (HNR.out _))))
                              refine wpQuiet_nil ?_
                              intro _ hw'
                              obtain ⟨nq, hw''⟩ := hw'
                              subst hw''
                              go_wp2
                              go_ret
                              exact ⟨ret_bool (by rw [HV.out, HR.out]), by first | exact Below.refl _ _ | exact below_drewN (Below.refl _ _) _ | exact below_drewN (below_drewN (Below.refl _ _) _) _ | exact below_drewN (below_drewN (below_drewN (Below.refl _ _) _) _) _⟩
                            · have HY : Hid (okNear rs x ((j2 + 1) + 1) = true) := Lib.hid (by rw [okNear_succ, HN.out, okIn, sAt_get HSK.out, HIN2.out, hnr, HEQ.out, Nat.add_sub_cancel, sAt_get HSK2.out, HLT.out, Bool.or_true]; rfl)
                              rw [hnr] at HNR
                              clear hnr
                              go_wp2_with fail
                              refine HF.out.mono ?_
                              rintro e w5 ⟨rfl, rfl⟩
                              go_wp2
                              refine wp_region_quiet_lit (by kernel_rfl) (by kernel_rfl) ?_
                              repeat (first | go_big_quiet_step ((go_at_call 64; first | exact quiet_add_left (HNR.out _) | exact quiet_left (HNR.out _))) | quiet_step ((go_at_call 64; first | exact quiet_add_left (HNR.out _) | exact quiet_left (HNR.out _))))
                              refine wpQuiet_nil ?_
                              intro _ hw'
                              obtain ⟨nq, hw''⟩ := hw'
                              subst hw''
                              go_wp2
                              go_roundw
                              case rel => first | exact ⟨(j2 + 1) + 1, _, by omega, by go_num, HY, rfl⟩ | exact ⟨(j2 + 1) + 1, _, by omega, by go_num, HY, World.drewN_drewN _ _ _⟩
                              case measure => simp [intOf]; omega
                  · obtain rfl : k = x.n := by omega
                    have HNEXT := Lib.hid (HOKI.out HN.out)
                    go_wp2
                    go_roundw
                    case rel => exact ⟨jj + 1, _, by have := HJ.out; omega, by go_num, HNEXT, rfl⟩
                    case measure => have := HJ.out; simp [intOf]; omega
      · obtain rfl : i = n := by omega
        go_wp2
        go_ret
        exact ⟨ret_bool (by rw [HV.out, HT.out]), by first | exact Below.refl _ _ | exact below_drewN (Below.refl _ _) _ | exact below_drewN (below_drewN (Below.refl _ _) _) _ | exact below_drewN (below_drewN (below_drewN (Below.refl _ _) _) _) _⟩
end Go.Proofs.YteklfeeamjgplaaGreatDoor
