/- The program's joined. -/
import Derived.Test.YteklfeeamjgplaaGreatDoorJnB
import Derived.Deep.DrawnRows
namespace Go.Proofs.YteklfeeamjgplaaGreatDoor
open Go.ChangeShapes Go.WideShapes Go.ChangeAt Go.RowKit
set_option linter.unusedVariables false
def bPart (ds : List Dat) (x : Nat) (s : List Bool × List Nat) (j : Nat) : List Bool × List Nat := ((nbs ds x ds.length).take j).foldl (bStep ds x) s
theorem bPart_zero (ds : List Dat) (x : Nat) (s : List Bool × List Nat) : bPart ds x s 0 = s := rfl
theorem bPart_succ {ds : List Dat} {x j a : Nat} (s : List Bool × List Nat) (h : (nbs ds x ds.length)[j]? = some a) : bPart ds x s (j + 1) = bStep ds x (bPart ds x s j) a := by
  unfold bPart
  rw [List.take_add_one, h]; simp
theorem bPart_all {ds : List Dat} {x j : Nat} (s : List Bool × List Nat) (h : (nbs ds x ds.length).length ≤ j) : bPart ds x s j = bRound ds x s := by
  unfold bPart bRound
  rw [List.take_of_length_le h]
theorem bPart_len (ds : List Dat) (x : Nat) (s : List Bool × List Nat) (j : Nat) : s.2.length ≤ (bPart ds x s j).2.length := fold_len ds x _ s
theorem bStep_yes {ds : List Dat} {x a : Nat} {s : List Bool × List Nat} (h : s.1[a]? = some false) (hl : dLv ds a = dLv ds x) : bStep ds x s a = (s.1.set a true, s.2 ++ [a]) := if_pos ⟨h, hl⟩
theorem bStep_seen {ds : List Dat} {x a : Nat} {s : List Bool × List Nat} (h : s.1[a]? = some true) : bStep ds x s a = s := by
  unfold bStep; rw [if_neg]; rintro ⟨h1, _⟩; rw [h] at h1; cases h1
theorem bStep_lv {ds : List Dat} {x a : Nat} {s : List Bool × List Nat} (hl : dLv ds a ≠ dLv ds x) : bStep ds x s a = s := by
  unfold bStep; rw [if_neg]; rintro ⟨_, h1⟩; exact hl h1
def joinedV (ds : List Dat) : List (List Int) := (jAll ds ds.length).2.map fun q => sortV (ofN q)
theorem info_bool : (Tryz.prog.info? 4).map (fun i => (i.zero, i.size, i.bytes)) = some (some (.bool false), 1, 1) := by kernel_rfl
theorem made_bools (n : Nat) : (madeCells #[.bool false] n).toList = bools (List.replicate n false) := by simp [madeCells, bools, Nat.mod_one, List.map_const']
/-- sets as a call's result -/
def SetsPost (ss : List (List Int)) (w : World) (e : Ending) (w' : World) : Prop :=
  ∃ A n c l, e = .returned (.slice A n c) ∧ OwnG 31 2 w' w.heap.size w'.heap.size (.slice A n c) n l ∧ l.map GRow.xs = ss.map ints ∧ n ≤ 8 ∧ Below w.heap.size w w'
set_option maxHeartbeats 8000000 in
set_option maxRecDepth 100000 in
theorem joined_c (A : Option Addr) (n c B : Nat) (rs : List Rg) (w : World) (ha : Regs w B A n rs) (hB : B ≤ w.heap.size) (hx : ∀ x ∈ rs, x.n ≤ 1048576) (hv : validR rs = true) :
    Calls Tryz.prog 22 #[.slice A n c] w (SetsPost (joinedV (rs.map Rg.dat)) w) := by
  obtain ⟨i0, hi, hz, hs, hb⟩ := info_parts info_bool
  have hn8 : n ≤ 8 := by have := (valid_len hv).1; have := ha.len; omega
  have hmk : ∀ W : World, (Instr.makeSlice 78 (.int .i64 (n : Int)) (.int .i64 (n : Int))).run Tryz.prog W = .ok (.slice (some ⟨W.heap.size, 0, none⟩) n n) (W.alloc (.cells (madeCells #[.bool false] n) 4)) := fun W => by
    have h := run_make_rowN (P := Tryz.prog) 78 4 i0 _ Tryz.underlying78 hi hz .i64 .i64 n n (Nat.le_refl _) (by rw [hb]; omega) (by omega) W
    rw [hs, Nat.mul_one] at h
    exact h
  have HL := Lib.hid ha.len
  have HD : Hid ((rs.map Rg.dat).length = n) := Lib.hid (by rw [List.length_map, ha.len])
  have HA := Lib.hid ha
  have HX := Lib.hid hx
  have HV := Lib.hid hv
  obtain ⟨ds, hds⟩ : ∃ ds, ds = rs.map Rg.dat := ⟨_, rfl⟩
  have HDS := Lib.hid hds
  rw [← hds] at HD ⊢
  have HJ0 : Hid (JSt w (w.alloc (.cells (madeCells #[.bool false] n) 4)) w.heap.size n (.slice none 0 0) (jAll ds 0) []) := Lib.hid (by
    refine ⟨?_, OwnG.nil, rfl, (Below.refl _ _).alloc (Nat.le_refl _) _, Nat.le_refl _, by simp⟩
    have h := Own.of_blk (lo := w.heap.size) (hi := w.heap.size + 1) (n := n) (s := 1) (Blk.new w 4 (madeCells #[.bool false] n)) (by rw [made_size, Nat.mul_one]) (Nat.le_refl _) (Nat.lt_succ_self _) (by simp [maxLen]; omega)
    rw [made_bools] at h
    have e : (jAll ds 0).1 = List.replicate n false := by simp [jAll, HD.out]
    rw [e]; exact h)
  have HSP := Lib.hid (show joinedV ds = (jAll ds ds.length).2.map fun q => sortV (ofN q) from rfl)
  clear hi hz hs hb i0 ha hx hv hds
  go_enter Tryz.func22, Tryz.ntmps22
  go_wp2
  clear hmk
  generalize hgs : w.heap.size = gs at *
  have HGS := Lib.hid hgs
  clear hgs
  go_loopw [3, 17] (fun v i wr => ∃ (k : Nat) (l : List GRow), k ≤ n ∧ i = .int .i64 k ∧ Hid (JSt w wr gs n v (jAll ds k) l)) (fun _ i _ => n - (intOf i).toNat)
  case atStart => exact ⟨0, [], Nat.zero_le _, rfl, HJ0⟩
  case round =>
    clear HJ0
    obtain ⟨k, l, hk, rfl, HJ⟩ := hrel
    generalize wr = wo at *
    by_cases hlt : k < n
    · have HI := Lib.hid (jAll_inv ds k (by rw [HD.out]; omega))
      have HST := Lib.hid (jAll_succ ds k)
      have hsk : (jAll ds k).1[k]? = some ((jAll ds k).1[k]'(by rw [HI.out.len, HD.out]; exact hlt)) := List.getElem?_eq_getElem _
      generalize (jAll ds k).1[k]'(by rw [HI.out.len, HD.out]; exact hlt) = b at hsk
      obtain ⟨c0, f0, -⟩ := HJ.out.seenAt hsk
      have hkn : (k : Int) < (n : Int) := by omega
      cases b
      · have HN : Hid (jAll ds (k + 1) = ((bfs ds n 0 ((jAll ds k).1.set k true, [k])).1, (jAll ds k).2 ++ [(bfs ds n 0 ((jAll ds k).1.set k true, [k])).2])) := Lib.hid (by rw [HST.out, jStep, if_pos hsk, HD.out])
        have HQI := Lib.hid (QInv.start HI.out.len hsk)
        have HSK := Lib.hid hsk
        have hwz := HJ.out.bel.size
        have HQ0 : Hid (QSt wo ((wo.setCell ⟨gs, k, none⟩ (.bool true)).alloc (.cells #[.int .i64 k] 2)) gs n (.slice (some ⟨wo.heap.size, 0, none⟩) 1 1) ((jAll ds k).1.set k true, [k])) := Lib.hid (HJ.out.begin ((Below.refl _ _).alloc (by simp) _) (by
          have h := World.ownsRow_lit (w := wo.setCell ⟨gs, k, none⟩ (.bool true)) (base := wo.heap.size) (e := 2) (size := 1) #[.int .i64 (k : Int)] 1 (by simp) (by simp [maxLen]) (by simp)
          simpa [ints] using h))
        clear hsk HST
        go_wp2
        clear c0 f0
        generalize hs0 : ((jAll ds k).1.set k true, [k]) = s0 at HN HQI HQ0
        have HS0 : Hid (s0.2.length = 1) := Lib.hid (by rw [← hs0]; rfl)
        clear hs0
        go_loopw [6, 7] (fun o a wx => ∃ (at_ f : Nat) (s : List Bool × List Nat), a = .int .i64 at_ ∧ at_ ≤ n ∧ Hid (at_ ≤ s.2.length) ∧ Hid (at_ + f = n) ∧ Hid (bfs ds f at_ s = bfs ds n 0 s0) ∧ Hid (QInv ds k (jAll ds k).1 s) ∧ Hid (QSt wo wx gs n o s)) (fun _ a _ => n - (intOf a).toNat)
        case atStart => exact ⟨0, n, s0, rfl, Nat.zero_le _, Lib.hid (Nat.zero_le _), Lib.hid (by omega), Lib.hid rfl, HQI, HQ0⟩
        case round =>
          clear HQI HQ0
          obtain ⟨at_, f, s, rfl, hatn, HAT, HF, HB, HQI, HQ⟩ := hrel
          generalize wr = wx at *
          have hle := HQI.out.le
          rw [HD.out] at hle
          obtain ⟨oA, oc, hov, hoc, _⟩ := (Own.of_owns HQ.out.own (Nat.le_refl _)).slice
          subst hov
          generalize hm : s.2.length = m at HAT hle
          have HM := Lib.hid hm
          clear hm
          by_cases hat : at_ < m
          · obtain ⟨x, hx⟩ : ∃ x, s.2[at_]? = some x := ⟨_, List.getElem?_eq_getElem (by rw [HM.out]; exact hat)⟩
            have hxn : x < n := by have := HQI.out.lt x (List.mem_of_getElem? hx); rw [HD.out] at this; exact this
            have HLV := Lib.hid (HQI.out.lv x (List.mem_of_getElem? hx))
            have HB2 : Hid (bfs ds (f - 1) (at_ + 1) (bRound ds x s) = bfs ds n 0 s0) := Lib.hid (by
              rw [← HB.out]
              conv => rhs; rw [show f = (f - 1) + 1 by have := HF.out; omega]
              rw [bfs_some hx])
            obtain ⟨g2, hoA, hg1, hg2, hg3⟩ := (Own.of_owns HQ.out.own (Nat.le_refl _)).at_ (by rw [HM.out]; omega)
            subst hoA
            have hcx : wx.cell? ⟨g2, at_, none⟩ = some (.int .i64 (x : Int)) := by
              rw [(Own.of_owns HQ.out.own (Nat.le_refl _)).1.cellAt at_ (by rw [HM.out]; omega)]
              simp [ints, ofN_get hx]
            have hbelx : Below w.heap.size w wx := HJ.out.bel.trans (HQ.out.only.below (by have := HGS.out; omega) HJ.out.bel.size)
            obtain ⟨ad, r, hAr, hbl, hrs, hnr, d0, d1, d2⟩ := (HA.out.below (hbelx.mono (by have := HGS.out; omega))).at_ hxn
            subst hAr
            have HRS := Lib.hid hrs
            have hrn := HX.out r (List.mem_of_getElem? hrs)
            have HFN := Lib.hid (fnd_nbs HV.out hrs)
            have hrl : r.near.length = r.n := Reads.strLen hnr
            have HRL := Lib.hid hrl
            have HNB : Hid ((nbs ds x ds.length).length = r.n) := Lib.hid (by rw [HDS.out, List.length_map, ← HFN.out]; simp [fnd, hrl])
            have HDLR : Hid (dLv ds x = r.lv) := Lib.hid (by rw [HDS.out]; exact dLv_get hrs)
            have hs8 := HQ.out.only.size
            obtain ⟨W1, hW1⟩ : ∃ W, W = wx.alloc (.cells #[.string r.id, .int .i64 r.lv, .slice r.A r.n r.c] 37) := ⟨_, rfl⟩
            have HWE := Lib.hid hW1
            have HQ1 : Hid (QSt wo W1 gs n (.slice (some ⟨g2, 0, none⟩) m oc) (bPart ds x s 0)) := Lib.hid (by rw [bPart_zero, hW1]; exact HM.out ▸ HQ.out.alloc _)
            have HK1 : Hid (Blk W1 wx.heap.size 37 #[.string r.id, .int .i64 r.lv, .slice r.A r.n r.c]) := Lib.hid (by rw [hW1]; exact Blk.new _ _ _)
            have hxn' : (x : Int) < (n : Int) := by omega
            have hatm : (at_ : Int) < (m : Int) := by omega
            obtain ⟨rA, hrA⟩ : ∃ a, a = r.A := ⟨_, rfl⟩
            have HRA := Lib.hid hrA
            have b2 : W1.cell? ⟨wx.heap.size, 2, none⟩ = some (.slice rA r.n r.c) := by rw [hrA]; exact HK1.out.cell 2
            have hgbx : gs ≠ wx.heap.size := by have := HJ.out.h1; omega
            clear hW1 hrs hnr hrl hx hrA
            go_upto_region 13 with (fail)
            rw [← HWE.out]
            clear d0 d1 d2 hcx HWE
            generalize wx.heap.size = bx at *
            go_wp2
            clear b2
            go_loopw [6, 45] (fun o jj wy => ∃ (j : Nat), j ≤ r.n ∧ jj = .int .i64 j ∧ Hid (QInv ds k (jAll ds k).1 (bPart ds x s j)) ∧ Hid (QSt wo wy gs n o (bPart ds x s j)) ∧ Hid (Blk wy bx 37 #[.string r.id, .int .i64 r.lv, .slice r.A r.n r.c])) (fun _ jj _ => r.n - (intOf jj).toNat)
            case atStart => exact ⟨0, Nat.zero_le _, rfl, HQI, HQ1, HK1⟩
            case round =>
              clear HQ1 HK1 HQ
              obtain ⟨j, hj, rfl, HI2, HQ, HK⟩ := hrel
              generalize wr = wy at *
              by_cases hjl : j < r.n
              · have hbely : Below w.heap.size w wy := HJ.out.bel.trans (HQ.out.only.below (by have := HGS.out; omega) HJ.out.bel.size)
                have HRG := Lib.hid (HA.out.below (hbely.mono (by have := HGS.out; omega)))
                have hyz := hbely.size
                obtain ⟨ad3, r', had3, -, hr', hnr, -⟩ := HRG.out.at_ hxn
                obtain rfl : r = r' := by have h := HRS.out; rw [hr'] at h; injection h with h; exact h.symm
                obtain ⟨adn, nm, hadn, _, hnm, hcn⟩ := Reads.str hnr hjl
                obtain rfl : rA = some adn := HRA.out.trans hadn
                obtain ⟨a, hfa, han, _⟩ := near_found HV.out HRS.out hnm
                rw [HL.out] at han
                have HNA : Hid ((nbs ds x ds.length)[j]? = some a) := Lib.hid (by
                  rw [HDS.out, List.length_map, ← HFN.out, fnd, List.getElem?_map, hnm]
                  simp [hfa])
                have HSU := Lib.hid (bPart_succ s HNA.out)
                have hsa : (bPart ds x s j).1[a]? = some ((bPart ds x s j).1[a]'(by rw [HI2.out.len, HD.out]; exact han)) := List.getElem?_eq_getElem _
                generalize (bPart ds x s j).1[a]'(by rw [HI2.out.len, HD.out]; exact han) = b at hsa
                have hys : rs[a]? = some (rs[a]'(by rw [HL.out]; exact han)) := List.getElem?_eq_getElem _
                generalize rs[a]'(by rw [HL.out]; exact han) = y at hys
                have HDLY : Hid (dLv ds a = y.lv) := Lib.hid (by rw [HDS.out]; exact dLv_get hys)
                have HI3 := Lib.hid (HI2.out.step (by rw [HLV.out]) a)
                have HSA := Lib.hid hsa
                have HYS := Lib.hid hys
                have hjr : (j : Int) < (r.n : Int) := by omega
                have hj0 : (0 : Int) ≤ (j : Int) := by omega
                have han' : (a : Int) < (n : Int) := by omega
                have HCF := Lib.hid (regionAt_c (some ad) n c B rs nm wy HRG.out (by have := HGS.out; omega) (by omega))
                rw [hfa] at HCF
                clear had3 hr' hnr hadn hnm hfa hsa hys
                go_wp2_with fail
                refine HCF.out.mono ?_
                rintro e wz ⟨rfl, Bz⟩
                have HQz := Lib.hid (HQ.out.bel Bz)
                have HKz := Lib.hid (HK.out.below Bz HK.out.lt)
                have hbelz : Below w.heap.size w wz := hbely.trans (Bz.mono hyz)
                obtain ⟨ad2, y', had2, hblz, hy', _, e0, e1, e2⟩ := (HA.out.below (hbelz.mono (by have := HGS.out; omega))).at_ han
                obtain rfl : ad = ad2 := by injection had2
                obtain rfl : y = y' := by have h := HYS.out; rw [hy'] at h; injection h with h; exact h.symm
                obtain ⟨s0, sf0, _⟩ := HQz.out.seenAt HSA.out
                have b1 : wz.cell? ⟨bx, 1, none⟩ = some (.int .i64 r.lv) := HKz.out.cell 1
                clear had2 hy' e0 e2 Bz hcn HCF HQ HK HRG
                cases b
                · by_cases hlv : y.lv = r.lv
                  · have hbe : (y.lv == r.lv) = true := by simp [hlv]
                    have HY2 : Hid (bPart ds x s (j + 1) = ((bPart ds x s j).1.set a true, (bPart ds x s j).2 ++ [a])) := Lib.hid (by rw [HSU.out, bStep_yes HSA.out (by rw [HDLY.out, HDLR.out, hlv])])
                    have HIY : Hid (QInv ds k (jAll ds k).1 (bPart ds x s (j + 1))) := Lib.hid (by rw [HSU.out]; exact HI3.out)
                    have HIL := Lib.hid HIY.out.le
                    clear hlv
                    go_wp2
                    refine wp_region_quiet_lit (by kernel_rfl) (by kernel_rfl) ?_
                    repeat (first | go_big_quiet_step (fail) | quiet_step (fail))
                    refine wpQuiet_nil ?_
                    intro _ hw'
                    obtain ⟨nq, hw''⟩ := hw'
                    subst hw''
                    obtain ⟨W3, hW3⟩ : ∃ W, W = wz.drewN nq := ⟨_, rfl⟩
                    rw [← hW3]
                    have HQ3 : Hid (QSt wo W3 gs n u6 (bPart ds x s j)) := Lib.hid (by rw [hW3]; exact HQz.out.drewN nq)
                    have HK3 : Hid (Blk W3 bx 37 #[.string r.id, .int .i64 r.lv, .slice (some adn) r.n r.c]) := Lib.hid (by rw [hW3, HRA.out]; exact HKz.out)
                    replace s0 : W3.cell? ⟨gs, a, none⟩ = some (.bool false) := by rw [hW3]; exact s0
                    replace sf0 : W3.frozen? ⟨gs, a, none⟩ = false := by rw [hW3]; exact sf0
                    clear b1 e1 hW3 hbe
                    have HOWN := Lib.hid ((HQ3.out.mark a).alloc (.cells #[.int .i64 a] 2))
                    have hwo3 := HQ3.out.only.size
                    have hq8 : (bPart ds x s j).2.length ≤ 8 := by have := HI2.out.le; rw [HD.out] at this; omega
                    go_wp2_with (at_builtin; refine app_i64k rfl (.tmp 70) (.tmp 72) rfl wo.heap.size _ (bPart ds x s j).2.length (ofN (bPart ds x s j).2) (a : Int) _ rfl HOWN.out.own rfl ?_ (by omega) ?_ ?_)
                    rotate_left 2
                    · intro v' w' O4 G4 h4
                      have HQ4 : Hid (QSt wo w' gs n v' (bPart ds x s (j + 1))) := Lib.hid (by rw [HY2.out]; exact (HQ3.out.mark a).push ((Below.refl _ _).alloc (Nat.le_refl _) _) O4 G4)
                      have hkx := (HK3.out.far (p := ⟨gs, a, none⟩) (fun e => hgbx e.symm) (.bool true)).alloc (.cells #[.int .i64 a] 2)
                      have HK4 : Hid (Blk w' bx 37 #[.string r.id, .int .i64 r.lv, .slice r.A r.n r.c]) := Lib.hid (by
                        rw [← HRA.out]
                        exact hkx.grown G4 (fun e => own_blk_ne HOWN.out.own hkx (by decide) e.symm))
                      clear O4 G4 h4 hkx s0 sf0 HOWN
                      go_wp2
                      go_roundw
                      case rel => exact ⟨j + 1, by omega, by go_num, HIY, HQ4, HK4⟩
                      case measure => simp [intOf]; omega
                    · have h := (Blk.new (W3.setCell ⟨gs, a, none⟩ (.bool true)) 2 #[.int .i64 (a : Int)]).cell 0
                      simpa using h
                    · simp; omega
                  · have hbe : (y.lv == r.lv) = false := by simp [hlv]
                    have HY2 : Hid (bPart ds x s (j + 1) = bPart ds x s j) := Lib.hid (by rw [HSU.out, bStep_lv (by rw [HDLY.out, HDLR.out]; exact hlv)])
                    clear hlv
                    go_wp2
                    refine wp_region_quiet_lit (by kernel_rfl) (by kernel_rfl) ?_
                    repeat (first | go_big_quiet_step (fail) | quiet_step (fail))
                    refine wpQuiet_nil ?_
                    intro _ hw'
                    obtain ⟨nq, hw''⟩ := hw'
                    subst hw''
                    go_wp2
                    go_roundw
                    case rel => exact ⟨j + 1, by omega, by go_num, by rw [HY2.out]; exact HI2, by rw [HY2.out]; exact Lib.hid (HQz.out.drewN _), Lib.hid (HKz.out.drewN _)⟩
                    case measure => simp [intOf]; omega
                · have HY2 : Hid (bPart ds x s (j + 1) = bPart ds x s j) := Lib.hid (by rw [HSU.out, bStep_seen HSA.out])
                  go_wp2
                  refine wp_region_quiet_lit (by kernel_rfl) (by kernel_rfl) ?_
                  repeat (first | go_big_quiet_step (fail) | quiet_step (fail))
                  refine wpQuiet_nil ?_
                  intro _ hw'
                  obtain ⟨nq, hw''⟩ := hw'
                  subst hw''
                  go_wp2
                  go_roundw
                  case rel => exact ⟨j + 1, by omega, by go_num, by rw [HY2.out]; exact HI2, by rw [HY2.out]; exact Lib.hid (HQz.out.drewN _), Lib.hid (HKz.out.drewN _)⟩
                  case measure => simp [intOf]; omega
              · have HEQ : Hid (bPart ds x s j = bRound ds x s) := Lib.hid (bPart_all s (by rw [HNB.out]; omega))
                rw [HEQ.out] at HI2 HQ
                go_wp2
                go_roundw
                case rel => exact ⟨at_ + 1, f - 1, bRound ds x s, by go_num, by omega, Lib.hid (by have := fold_len ds x (nbs ds x ds.length) s; rw [HM.out] at this; exact Nat.le_trans hat this), Lib.hid (by have := HF.out; omega), HB2, HI2, HQ⟩
                case measure => simp [intOf]; omega
          · have hat2 : at_ = m := by have := HAT.out; omega
            subst hat2
            have HFIN : Hid (bfs ds n 0 s0 = s) := Lib.hid (by rw [← HB.out]; exact bfs_end (by rw [HM.out]; exact Nat.le_refl _))
            have hm0 : 0 < at_ := by
              obtain ⟨y, hy⟩ : ∃ y, y ∈ s0.2 := by
                have := HS0.out
                cases hq : s0.2 with
                | nil => rw [hq] at this; simp at this
                | cons y r => exact ⟨y, by simp⟩
              have h2 := bfs_mem (ds := ds) n 0 s0 hy
              rw [HFIN.out] at h2
              have h3 := List.length_pos_of_mem h2
              rw [HM.out] at h3; exact h3
            have hown := Own.of_owns HQ.out.own (Nat.le_refl wx.heap.size)
            rw [HM.out] at hown
            obtain ⟨g2, hoA, hg1, hg2, hg3⟩ := hown.at_ hm0
            subst hoA
            have HSO := Lib.hid (sort_c g2 at_ oc wo.heap.size wx.heap.size (ofN s.2) wx hown (by omega) (ofN_nodup HQI.out.nodup))
            rw [HFIN.out] at HN
            clear hown
            go_wp2_with fail
            refine HSO.out.mono ?_
            rintro e wa ⟨rfl, hoa, hya⟩
            have HOA := Lib.hid hoa
            have HYA := Lib.hid hya
            have HROW := Lib.hid (owns_al (HJ.out.rowAt HQ.out hya) (.cells #[.slice (some ⟨g2, 0, none⟩) at_ oc] 31))
            have hlm : l.length ≤ 8 := by
              have h1 := congrArg List.length HJ.out.dat
              simp at h1
              have := HI.out.many
              omega
            have hsz1 := HJ.out.bel.size
            have hsz2 := HQ.out.only.size
            have hsz3 := hya.size
            clear hoa hya HSO
            go_wp2_with (at_builtin; refine app_rows rfl (.tmp 77) (.tmp 79) rfl w.heap.size _ l.length (gcs l) (some ⟨g2, 0, none⟩) at_ oc _ rfl HROW.out rfl ?_ (by omega) ?_ ?_)
            rotate_left 2
            · intro v2 w2 O5 G5
              have HJ2 := Lib.hid (HJ.out.push HQ.out HYA.out HOA.out hsz3 ((Below.refl wa.heap.size wa).alloc (Nat.le_refl _) _) O5 G5)
              rw [← HN.out] at HJ2
              clear O5 G5 HROW
              go_wp2
              go_roundw
              case rel => exact ⟨k + 1, _, by omega, by go_num, HJ2⟩
              case measure => simp [intOf]; omega
            · exact (Blk.new _ _ _).cell 0
            · simp; have := HGS.out; omega
      · have HN : Hid (jAll ds (k + 1) = jAll ds k) := Lib.hid (by rw [HST.out, jStep, if_neg (by rw [hsk]; simp)])
        clear hsk
        go_wp2
        go_roundw
        case rel => exact ⟨k + 1, l, by omega, by go_num, by rw [HN.out]; exact HJ⟩
        case measure => simp [intOf]; omega
    · obtain rfl : k = n := by omega
      have HI := Lib.hid (jAll_inv ds k (by rw [HD.out]; omega))
      obtain ⟨D, d, hv, _, _⟩ := HJ.out.g.row.slice
      subst hv
      have HM : Hid (l.length ≤ 8) := Lib.hid (by
        have h1 := congrArg List.length HJ.out.dat
        simp at h1
        have := HI.out.many
        omega)
      go_wp2
      go_ret
      exact ⟨D, l.length, d, l, rfl, HGS.out ▸ HJ.out.g, by rw [HJ.out.dat, HSP.out, HD.out, List.map_map]; rfl, HM.out, HJ.out.bel⟩
end Go.Proofs.YteklfeeamjgplaaGreatDoor
