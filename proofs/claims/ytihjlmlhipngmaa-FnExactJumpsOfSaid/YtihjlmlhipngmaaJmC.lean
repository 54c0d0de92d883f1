/- JumpsOf: the reference's walk. -/
import Derived.Test.YtihjlmlhipngmaaJmB
import Derived.BigQuiet
import Derived.StillTailTactics
import Derived.Deep.RegionLaw
namespace Go.Proofs.Ytihjlmlhipngmaa
open Go.ChangeShapes Go.WideShapes Go.ChangeAt Go.RowKit
set_option linter.unusedVariables false
theorem l04Abs_c (n : Int) (w : World) (h0 : -4611686018427387904 ≤ n) (h1 : n ≤ 4611686018427387904) :
    Calls Try.prog 25 #[.int .i64 n] w fun e w' => e = .returned (.int .i64 (absI n)) ∧ w = w' := by
  go_enter Try.func25, Try.ntmps25
  have wn : IntKind.i64.wrap (-n) = -n := IntWalk.i64_in _ (by omega)
  go_wp2_with fail
  refine (l00Max_c n (-n) w).mono ?_
  rintro e w1 ⟨rfl, rfl⟩
  go_wp2
  go_ret
  exact ⟨ret_int (by unfold absI; omega), rfl⟩
set_option maxHeartbeats 8000000 in
set_option maxRecDepth 100000 in
theorem sJumpsOf_d (A : Option Addr) (n c BA : Nat) (rs : List Rg) (least : Int) (w : World) (ha : Regs w BA A n rs) (hB : BA ≤ w.heap.size) (hx : ∀ x ∈ rs, x.n ≤ 1048576) (hn : n ≤ 1048576) :
    Calls Try.prog 6 #[.slice A n c, .int .i64 least] w (PairsCode (jumpsV (rs.map Rg.dat) least) w) := by
  have HC := Lib.hid (l18Ok_d A n c BA rs w ha hx hn)
  have HVD := Lib.hid (show jumpsV (rs.map Rg.dat) least = if validD (rs.map Rg.dat) = false then ([], 1) else if inB least 0 4 = false then ([], 2) else (jTo (rs.map Rg.dat) least (rs.map Rg.dat).length, 0) from rfl)
  have HL := Lib.hid ha.len
  have HX := Lib.hid hx
  have HA := Lib.hid ha
  clear ha hx
  generalize jumpsV (rs.map Rg.dat) least = V at *
  go_enter Try.func6, Try.ntmps6
  go_wp2_with fail
  refine HC.out.mono ?_
  rintro e w1 ⟨rfl, B1⟩
  have T1 := Lib.hid B1; clear B1
  cases hv : validD (rs.map Rg.dat)
  · have HV : Hid (V = ([], 1)) := Lib.hid (by rw [HVD.out, if_pos hv])
    clear hv
    go_wp2
    go_ret2
    exact PairsCode.err HV.out T1.out
  · have HV1 := Lib.hid (show V = if inB least 0 4 = false then ([], 2) else (jTo (rs.map Rg.dat) least (rs.map Rg.dat).length, 0) by rw [HVD.out, hv]; rfl)
    have HVR : Hid (validR rs = true) := Lib.hid (by rw [validR_dat]; exact hv)
    have hn8 : n ≤ 8 := by have := validD_len hv; rw [HL.out] at this; exact this
    clear hv HC HVD
    go_wp2_with fail
    refine (l00In_c least 0 4 w1).mono ?_
    rintro e w2 ⟨rfl, rfl⟩
    cases hl : inB least 0 4
    · have HV : Hid (V = ([], 2)) := Lib.hid (by rw [HV1.out, if_pos hl])
      clear hl
      go_wp2
      go_ret2
      exact PairsCode.err HV.out T1.out
    · have HV : Hid (V = (jTo (rs.map Rg.dat) least n, 0)) := Lib.hid (by rw [HV1.out, hl, List.length_map, HL.out]; rfl)
      have HD : Hid ((rs.map Rg.dat).length = n) := Lib.hid (by rw [List.length_map, HL.out])
      obtain ⟨ds, hds⟩ : ∃ ds, ds = rs.map Rg.dat := ⟨_, rfl⟩
      have HDS := Lib.hid hds
      rw [← hds] at HV HD
      have hwz1 := T1.out.size
      have HP0 : Hid (PairsSt w (w1.alloc (.cells #[] 47)) (.slice (some ⟨w1.heap.size, 0, none⟩) 0 0) 0 (jTo ds least 0) []) := Lib.hid
        ⟨⟨Own.of_blk (n := 0) (Blk.new _ _ _) rfl hwz1 (by simp) (by simp [maxLen]), fun x hx => by simp at hx, List.Pairwise.nil⟩, rfl, fun x hx => by simp at hx, T1.out.alloc hwz1 _⟩
      clear hl HV1 hds T1
      go_wp2
      go_loopw [6, 7] (fun o i wr => ∃ (k cn : Nat) (l : List GRow), k ≤ n ∧ cn ≤ k * 8 ∧ i = .int .i64 k ∧ Hid (PairsSt w wr o cn (jTo ds least k) l)) (fun _ i _ => n - (intOf i).toNat)
      case atStart => exact ⟨0, 0, [], Nat.zero_le _, by omega, rfl, HP0⟩
      case round =>
        clear HP0
        obtain ⟨k, cn, l, hk, hcn, rfl, HP⟩ := hrel
        generalize wr = wo at *
        have hwz := HP.out.bel.size
        by_cases hlt : k < n
        · have HJS := Lib.hid (jTo_succ ds least k)
          have HP1 : Hid (PairsSt w wo u6 cn (jTo ds least k ++ jIn ds least k (nbs ds k (k + 1))) l) := Lib.hid (by rw [jIn_low, List.append_nil]; exact HP.out)
          have hkn : (k : Int) < (n : Int) := by omega
          have hk0 : (0 : Int) ≤ (k : Int) := by omega
          go_wp2
          go_loopw [6, 8] (fun o jj wr => ∃ (j cn' : Nat) (l' : List GRow), k < j ∧ j ≤ n ∧ cn' + k + 1 ≤ cn + j ∧ jj = .int .i64 j ∧ Hid (PairsSt w wr o cn' (jTo ds least k ++ jIn ds least k (nbs ds k j)) l')) (fun _ jj _ => n - (intOf jj).toNat)
          case atStart => exact ⟨k + 1, cn, l, by omega, by omega, by omega, by go_num, HP1⟩
          case round =>
            clear HP1 HP
            obtain ⟨j, cn', l', hkj, hj, hcn', rfl, HP⟩ := hrel
            generalize wr = wy at *
            have hyz := HP.out.bel.size
            by_cases hjl : j < n
            · have HRG := Lib.hid (HA.out.below (HP.out.bel.mono hB))
              obtain ⟨ad, x, rfl, hblx, hxs, hnx, a0, a1, a2⟩ := HRG.out.at_ hlt
              obtain ⟨ad2, y, had2, hbly, hys, hny, e0, e1, e2⟩ := HRG.out.at_ hjl
              obtain rfl : ad = ad2 := by injection had2
              have hxn := HX.out x (List.mem_of_getElem? hxs)
              obtain ⟨hlx1, hlx2⟩ := valid_lv HVR.out hxs
              obtain ⟨hly1, hly2⟩ := valid_lv HVR.out hys
              have HNB : Hid (isNb ds k j = nearV x.near y.id) := Lib.hid (by unfold isNb; rw [HDS.out, dNr_get hxs, dId_get hys])
              have HOK : Hid (jOk ds least k j = (decide (k < j) && decide (least ≤ absI (x.lv - y.lv)))) := Lib.hid (by unfold jOk; rw [HDS.out, dLv_get hxs, dLv_get hys])
              have HPR : Hid ([dId ds k, dId ds j] = [x.id, y.id]) := Lib.hid (by rw [HDS.out, dId_get hxs, dId_get hys])
              have HTK := Lib.hid (jIn_step ds least k j)
              have HNR := Lib.hid fun q => l18Near_c (ad.add (k * 3)) x BA y.id (wy.drewN q) ⟨a0, a1, a2⟩ hnx hxn
              have HAB := Lib.hid fun q => l04Abs_c (x.lv - y.lv) (wy.drewN q) (by omega) (by omega)
              have w1 : IntKind.i64.wrap (x.lv - y.lv) = x.lv - y.lv := IntWalk.i64_in _ (by omega)
              have hjr : (j : Int) < (n : Int) := by omega
              have hj0 : (0 : Int) ≤ (j : Int) := by omega
              clear had2 hxs hys hnx hny a2 e2
              cases hnb : nearV x.near y.id
              · have HST : Hid (jIn ds least k (nbs ds k (j + 1)) = jIn ds least k (nbs ds k j)) := Lib.hid (by rw [HTK.out, HNB.out, hnb]; simp)
                rw [hnb] at HNR
                clear hnb
                go_wp2
                refine wp_region_quiet_lit (by kernel_rfl) (by kernel_rfl) ?_
                repeat (first | go_big_quiet_step ((go_at_call 24; first | exact quiet_add_left (HNR.out _) | exact quiet_left (HNR.out _))) | quiet_step ((go_at_call 24; first | exact quiet_add_left (HNR.out _) | exact quiet_left (HNR.out _))))
                refine wpQuiet_nil ?_
                intro _ hw'
                obtain ⟨nq, hw''⟩ := hw'
                subst hw''
                go_wp2
                go_roundw
                case rel => exact ⟨j + 1, cn', l', by omega, by omega, by omega, by go_num, by rw [HST.out]; exact Lib.hid (HP.out.below (below_drewN (Below.refl _ _) _))⟩
                case measure => simp [intOf]; omega
              · rw [hnb] at HNR
                by_cases hle : least ≤ absI (x.lv - y.lv)
                · have HST : Hid (jIn ds least k (nbs ds k (j + 1)) = jIn ds least k (nbs ds k j) ++ [[x.id, y.id]]) := Lib.hid (by rw [HTK.out, HNB.out, hnb, HOK.out, HPR.out, decide_eq_true hkj, decide_eq_true hle]; rfl)
                  have hd : decide (least ≤ absI (x.lv - y.lv)) = true := by simpa using hle
                  clear hnb
                  go_wp2
                  refine wp_region_quiet_lit (by kernel_rfl) (by kernel_rfl) ?_
                  repeat (first | go_big_quiet_step ((first | (go_at_call 24; first | exact quiet_add_left (HNR.out _) | exact quiet_left (HNR.out _)) | (go_at_call 25; first | exact quiet_add_left (HAB.out _) | exact quiet_left (HAB.out _)))) | quiet_step ((first | (go_at_call 24; first | exact quiet_add_left (HNR.out _) | exact quiet_left (HNR.out _)) | (go_at_call 25; first | exact quiet_add_left (HAB.out _) | exact quiet_left (HAB.out _)))))
                  refine wpQuiet_nil ?_
                  intro _ hw'
                  obtain ⟨nq, hw''⟩ := hw'
                  subst hw''
                  obtain ⟨W3, hW3⟩ : ∃ W, W = wy.drewN nq := ⟨_, rfl⟩
                  rw [← hW3]
                  have HPv : Hid (PairsSt w W3 u6 cn' (jTo ds least k ++ jIn ds least k (nbs ds k j)) l') := Lib.hid (by rw [hW3]; exact HP.out.below (below_drewN (Below.refl _ _) _))
                  replace a0 : W3.cell? (ad.add (k * 3)) = some (.string x.id) := by rw [hW3]; exact a0
                  replace e0 : W3.cell? (ad.add (j * 3)) = some (.string y.id) := by rw [hW3]; exact e0
                  have hW3z : w.heap.size ≤ W3.heap.size := HPv.out.bel.size
                  clear a1 e1 hW3 HP HNR HAB
                  have HPw : Hid (PairsSt w W3.drew u6 cn' (jTo ds least k ++ jIn ds least k (nbs ds k j)) l') := Lib.hid (HPv.out.below ((Below.refl _ _).drew))
                  have hW4z : w.heap.size ≤ W3.drew.heap.size := HPw.out.bel.size
                  have HROW := Lib.hid (owns_al (owns_al HPw.out.g.row.1 (.cells #[.string x.id, .string y.id] 9)) (.cells #[.slice (some ⟨W3.drew.heap.size, 0, none⟩) 2 2] 47))
                  have hlo2 : w.heap.size ≤ ((W3.drew.alloc (.cells #[.string x.id, .string y.id] 9)).alloc (.cells #[.slice (some ⟨W3.drew.heap.size, 0, none⟩) 2 2] 47)).heap.size := Nat.le_trans HPw.out.bel.size (Nat.le_trans ((Below.refl W3.drew.heap.size W3.drew).alloc (Nat.le_refl _) _).size ((Below.refl _ _).alloc (Nat.le_refl _) _).size)
                  go_wp2
                  go_region_law (first
                    | (refine step_srow (by rfl) (.tmp 55) (.tmp 67) (by rfl) w.heap.size _ cn' (gcs l') (some ⟨W3.drew.heap.size, 0, none⟩) 2 2 _ (by rfl) HROW.out (by rfl) (by first | exact (Blk.new _ _ _).cell 0 | simp) (by omega) hlo2 ?_
                       intro v2 w2 O5 G5))
                  all_goals
                    have HP2 := Lib.hid (HPw.out.push ((Below.refl _ _).alloc (Nat.le_refl _) _ |>.mono (by simp)) O5 G5)
                    rw [List.append_assoc, ← HST.out] at HP2
                    clear O5 G5 HROW HPw HPv a0 e0
                    go_wp2
                    go_roundw
                    case rel => exact ⟨j + 1, cn' + 1, _, by omega, by omega, by omega, by go_num, HP2⟩
                    case measure => simp [intOf]; omega
                · have HST : Hid (jIn ds least k (nbs ds k (j + 1)) = jIn ds least k (nbs ds k j)) := Lib.hid (by rw [HTK.out, HOK.out, decide_eq_false hle]; simp)
                  have hd : decide (least ≤ absI (x.lv - y.lv)) = false := by simpa using hle
                  clear hnb
                  go_wp2
                  refine wp_region_quiet_lit (by kernel_rfl) (by kernel_rfl) ?_
                  repeat (first | go_big_quiet_step ((first | (go_at_call 24; first | exact quiet_add_left (HNR.out _) | exact quiet_left (HNR.out _)) | (go_at_call 25; first | exact quiet_add_left (HAB.out _) | exact quiet_left (HAB.out _)))) | quiet_step ((first | (go_at_call 24; first | exact quiet_add_left (HNR.out _) | exact quiet_left (HNR.out _)) | (go_at_call 25; first | exact quiet_add_left (HAB.out _) | exact quiet_left (HAB.out _)))))
                  refine wpQuiet_nil ?_
                  intro _ hw'
                  obtain ⟨nq, hw''⟩ := hw'
                  subst hw''
                  go_wp2
                  go_roundw
                  case rel => exact ⟨j + 1, cn', l', by omega, by omega, by omega, by go_num, by rw [HST.out]; exact Lib.hid (HP.out.below (below_drewN (Below.refl _ _) _))⟩
                  case measure => simp [intOf]; omega
            · obtain rfl : j = n := by omega
              have hfin : jTo ds least k ++ jIn ds least k (nbs ds k j) = jTo ds least (k + 1) := by rw [HJS.out, HD.out]
              rw [hfin] at HP
              clear hfin
              go_wp2
              go_roundw
              case rel => exact ⟨k + 1, cn', l', by omega, by omega, by go_num, HP⟩
              case measure => simp [intOf]; omega
        · obtain rfl : k = n := by omega
          go_wp2
          go_ret2
          exact HP.out.done HV.out (by omega)
end Go.Proofs.Ytihjlmlhipngmaa
