/- Regions read from a text, by the program. -/
import Derived.Test.YteklfeeamjgplaaGreatDoorRtI
import Derived.Test.YteklfeeamjgplaaGreatDoorNmB
namespace Go.Proofs.YteklfeeamjgplaaGreatDoor
open Go.ChangeShapes Go.WideShapes Go.ChangeAt Go.RowKit
set_option linter.unusedVariables false
theorem splitN_c (s : ByteArray) (m : Int) (w : World) (hs : s.size ≤ 1048576) (hm : w.cell? ⟨0, 0, none⟩ = some (.int .i64 m)) :
    Calls Tryz.prog 25 #[.string s, .string ⟨#[47]⟩, .int .i64 9] w (SPost (parts9 s) w) := by
  refine (Tryz.strings_SplitN s ⟨#[47]⟩ 9 m w (by omega) hm (by show 1 ≤ 1; omega) (by omega) (by omega)).mono ?_
  rintro e w' ⟨rfl, rfl⟩
  have hle := Lib.splitB_length_le ⟨#[47]⟩ 0 (min 9 (s.size + 1) - 1) s
  have hn : (parts9 s).length ≤ min 9 (s.size + 1) := by unfold parts9; omega
  refine ⟨some ⟨w.heap.size, 0, none⟩, min 9 (s.size + 1), rfl, ⟨⟨by simp [strs], .inr ⟨w.heap.size, min 9 (s.size + 1), Lib.cellsOf (parts9 s) (min 9 (s.size + 1)), rfl, Nat.le_refl _, Blk.new _ _ _, hn, by simp only [maxLen]; omega, ?_, ?_⟩⟩, fun g hg => by simp [Value.ownBlock] at hg; subst hg; simp⟩, (Below.refl _ _).alloc (Nat.le_refl _) _⟩
  · rw [Lib.cellsOf_size hn]; omega
  · unfold Lib.cellsOf
    rw [List.take_append_of_le_length (by simp), List.take_of_length_le (by simp)]
    rfl
theorem split_c (s : ByteArray) (m : Int) (w : World) (hs : s.size ≤ 1048576) (hm : w.cell? ⟨0, 0, none⟩ = some (.int .i64 m)) :
    Calls Tryz.prog 26 #[.string s, .string ⟨#[32]⟩] w (SPost (splitS s 32) w) := by
  have h := Tryz.strings_Split s ⟨#[32]⟩ m w (by omega) hm (by show 1 ≤ 1; omega)
  rw [splitB_all, split_count] at h
  refine h.mono ?_
  rintro e w' ⟨rfl, rfl⟩
  have hl := split_len s 32
  have ho := Own.of_blk (lo := w.heap.size) (hi := (w.alloc (.cells ((splitS s 32).map Value.string).toArray 9)).heap.size) (n := (splitS s 32).length) (s := 1) (Blk.new w 9 ((splitS s 32).map Value.string).toArray) (by simp) (Nat.le_refl _) (by simp) (by simp only [maxLen]; omega)
  exact ⟨_, _, rfl, ho, (Below.refl _ _).alloc (Nat.le_refl _) _⟩
theorem neT (t s : ByteArray) : (!(t.toList == s.toList)) = decide (t ≠ s) := by rw [eqT]; by_cases h : t = s <;> simp [h]

set_option maxHeartbeats 4000000 in
set_option maxRecDepth 100000 in
theorem iReadRegions_c (s : ByteArray) (hs : s.size ≤ 1048576) (w : World) (he : Env w) : Calls Tryz.prog 11 #[.string s] w (RRPost (rrV s) w) := by
  have HEN := Lib.hid (fun W (hW : Below w.heap.size w W) => he.below hW)
  have HEM := Lib.hid (empT s)
  by_cases h0 : s.size = 0
  · have hd : (s.toList == []) = true := by rw [HEM.out]; simpa using h0
    have HV := Lib.hid (rrV_nil h0)
    clear h0
    go_enter Tryz.func11, Tryz.ntmps11
    go_wp2
    go_ret2
    exact RRPost.nil HV.out (Below.refl _ _)
  · have hd : (s.toList == []) = false := by rw [HEM.out]; simpa using h0
    obtain ⟨m0, hm0⟩ := he.m0
    have HM : Hid (∀ W, Below w.heap.size w W → W.cell? ⟨0, 0, none⟩ = some (.int .i64 m0)) := Lib.hid (fun W hW => (hW.cell (World.block_lt_of_cell? _ _ hm0)).trans hm0)
    have HSP := Lib.hid (splitN_c s m0 w hs hm0)
    have HSW := Lib.hid (fun (p : ByteArray) (hp : p.size ≤ 1048576) W (hW : Below w.heap.size w W) => split_c p m0 W hp (HM.out W hW))
    have HDONE := Lib.hid (fun L (h : PartsD (parts9 s) L) => prog_done h0 h)
    have HBAD := Lib.hid (fun p (hp : p ∈ parts9 s) h => prog_bad h0 hp h)
    have HPS := Lib.hid (fun p (hp : p ∈ parts9 s) => (show p.size ≤ 1048576 from Nat.le_trans (part9_size hp) hs))
    have hlen : (parts9 s).length ≤ 9 := by
      have hle := Lib.splitB_length_le ⟨#[47]⟩ 0 (min 9 (s.size + 1) - 1) s
      unfold parts9; omega
    have HS0 := Lib.hid h0
    generalize rrV s = V at *
    generalize parts9 s = P at *
    clear h0 he hm0
    go_enter Tryz.func11, Tryz.ntmps11
    go_wp2_with fail
    refine HSP.out.mono ?_
    rintro e w1 ⟨A1, c1, rfl, OL, BL⟩
    have HB1 := Lib.hid BL
    have HL1 : Hid (Own w1 w.heap.size w1.heap.size 9 1 (.slice A1 P.length c1) P.length (strs P)) := Lib.hid OL
    have HR1 : Hid (RdSt w w1 (.slice none 0 0) 0 P [] []) := Lib.hid ⟨⟨World.ownsRow_nil _ _ _ _, rfl, rfl, fun x hx => by simp at hx, List.Pairwise.nil, BL⟩, rfl, .nil, fun x hx => by simp at hx⟩
    clear OL BL HSP
    go_wp2
    go_loopw [4, 15] (fun ov iv wr => ∃ (k : Nat) (rs ds : List Rg), k ≤ P.length ∧ iv = .int .i64 k ∧ Hid (RdSt w wr ov k P rs ds) ∧ Hid (Own wr w.heap.size w1.heap.size 9 1 (.slice A1 P.length c1) P.length (strs P)) ∧ Hid (Below w.heap.size w wr) ∧ w1.heap.size ≤ wr.heap.size) (fun _ iv _ => P.length - (intOf iv).toNat)
    case atStart => exact ⟨0, [], [], Nat.zero_le _, rfl, HR1, HL1, HB1, Nat.le_refl _⟩
    case round =>
      clear HL1 HB1 HR1
      obtain ⟨k, rs, ds, hk, rfl, HR, HL, HB, hw1o⟩ := hrel
      generalize wr = wo at *
      by_cases hlt : k < P.length
      · obtain ⟨ad1, p, rfl, _, hp, cp⟩ := HL.out.reads.str hlt
        have HP := Lib.hid hp
        have HPM := Lib.hid (List.mem_of_getElem? hp)
        have hps := HPS.out p HPM.out
        have hkn : (k : Int) < (P.length : Int) := by omega
        have hk0 : (0 : Int) ≤ (k : Int) := by omega
        clear hp
        go_wp2_with fail
        refine (HSW.out p hps wo HB.out).mono ?_
        rintro e w2 ⟨A2, c2, rfl, O2, B2⟩
        have HB2 := Lib.hid (HB.out.trans (B2.mono HB.out.size))
        have HW2 := Lib.hid O2
        have HBW := Lib.hid B2
        have hwl := split_len p 32
        have HNO := Lib.hid (fun (h : ∀ d : Dat, 1 ≤ d.2.1 ∧ d.2.1 ≤ 5 → splitS p 32 ≠ wordsD d) => HBAD.out p HPM.out h)
        have HPD : Hid (∀ (d : Dat) lv, splitS p 32 = d.1 :: lv :: d.2.2 → digD lv d.2.1 → PartD p d) := Lib.hid (fun d lv h1 h2 => ⟨lv, h1, h2⟩)
        have H2W := Lib.hid (fun (d : Dat) (h : splitS p 32 = wordsD d) => two_words h)
        have HWS := Lib.hid (fun q (hq : q ∈ splitS p 32) => (show q.size ≤ 1048576 from Nat.le_trans (part_size hq) hps))
        generalize splitS p 32 = ws at *
        clear O2 B2 cp
        by_cases h2 : ws.length < 2
        · have h2' : (ws.length : Int) < 2 := by omega
          have HV := Lib.hid (HNO.out (fun d _ e => by have := H2W.out d e; omega))
          go_wp2
          go_ret2
          exact RRPost.nil HV.out HB2.out
        · have h2' : ¬ (ws.length : Int) < 2 := by omega
          obtain ⟨id, lvt, near, rfl⟩ : ∃ a b l, ws = a :: b :: l := by
            match ws, h2 with
            | a :: b :: l, _ => exact ⟨a, b, l, rfl⟩
            | [a], h => simp at h
            | [], h => simp at h
          have hm : (id :: lvt :: near).length = near.length + 2 := rfl
          rw [hm] at HW2 hwl h2' ⊢
          obtain ⟨g2, rfl, hg1, hg2, hg3⟩ := HW2.out.at_ (by omega)
          obtain ⟨A', c', ec, hc1, hc2⟩ := HW2.out.slice
          obtain ⟨rfl⟩ : c' = c2 := by injection ec with _ _ e; exact e.symm
          have cw0 : w2.cell? ⟨g2, 0, none⟩ = some (.string id) := HW2.out.1.cellAt 0 (by omega)
          have cw1 : w2.cell? ⟨g2, 1, none⟩ = some (.string lvt) := HW2.out.1.cellAt 1 (by omega)
          have HRD := Lib.hid (iReadDecimal_c lvt (HWS.out lvt (by simp)) w2 (HEN.out _ HB2.out))
          have HDP := Lib.hid (fun z (h : rdV lvt = (z, true)) => digD_prog h)
          have HDF := Lib.hid (rd_fail (s := lvt))
          obtain ⟨z, b, hzb⟩ : ∃ z b, rdV lvt = (z, b) := ⟨_, _, rfl⟩
          rw [hzb] at HRD HDP HDF
          clear hzb
          go_wp2_with fail
          refine HRD.out.mono ?_
          rintro e w3 ⟨rfl, B3⟩
          have HB3 := Lib.hid (HB2.out.trans (B3.mono HB2.out.size))
          have HBW3 := Lib.hid (HBW.out.trans (B3.mono HBW.out.size))
          have HW3 := Lib.hid (HW2.out.below B3 (Nat.le_refl _))
          have cw3 : w3.cell? ⟨g2, 0, none⟩ = some (.string id) := HW3.out.1.cellAt 0 (by omega)
          have hs23 := B3.size
          clear B3 cw0 cw1 HRD HB2 HBW HW2
          simp only
          cases b
          · have HV := Lib.hid (HNO.out (fun d hd e => by
              have e2 : id :: lvt :: near = d.1 :: decZ d.2.1 :: d.2.2 := e
              injection e2 with _ e2
              injection e2 with e2 _
              exact HDF.out rfl _ hd e2))
            go_wp2
            go_ret2
            exact RRPost.nil HV.out HB3.out
          · have HDG := Lib.hid (HDP.out z rfl)
            clear HNO H2W HWS h2 HDP HDF
            have HPN := Lib.hid (HPD.out (id, z, near) lvt rfl HDG.out)
            obtain ⟨i1, hi1, hz1, hs1, hb1⟩ := info_parts info_rg
            have HJ := Lib.hid (And.intro hi1 (And.intro hz1 (And.intro hs1 hb1)))
            clear hi1 hz1 hs1 hb1
            have HRO : Hid (Own w3 w.heap.size wo.heap.size 37 3 u4 k (rgs ds)) := Lib.hid ((Own.of_owns HR.out.po.row (Nat.le_refl _)).below HBW3.out (Nat.le_refl _))
            have HS : Hid (∀ W', w3.grownBy W' u4.ownBlock → W'.cell? ⟨g2, 0, none⟩ = some (.string id)) := Lib.hid fun W' hW => (HW3.out.grownBy hW (fun g hg e => own_types_ne HW3.out HRO.out (by decide) hg e.symm)).1.cellAt 0 (by omega)
            have hwo := HB.out.size
            have hnl : near.length ≤ 1048576 := by omega
            have hBW := HBW3.out.size
            obtain ⟨A', hif⟩ : ∃ A' : Option Addr, (if c2 = 2 then (some ⟨g2, 0, none⟩ : Option Addr) else some ⟨g2, 2, none⟩) = A' := ⟨_, rfl⟩
            have HCL : Hid (Calls Tryz.prog 28 #[.slice A' near.length (c2 - 2)] w3.drew fun e w' => ∃ D d, e = .returned (.slice D near.length d) ∧ Own w' w3.heap.size w'.heap.size 9 1 (.slice D near.length d) near.length (strs near) ∧ Below w3.heap.size w3 w') := Lib.hid ((scloneS_c _ near.length (c2 - 2) w3.heap.size near w3.drew (by
              have h := (HW3.out.reads.more hs23).cut (k := 2) (cap := c2) (by omega) (by omega)
              rw [← hif]
              exact h) (Nat.le_refl _) hnl).mono fun e w' ⟨D, d, h1, h2, h3⟩ => ⟨D, d, h1, h2, h3.os, h3.tape, h3.output, h3.size, h3.block⟩)
            have hG := World.grownBy.refl w3 u4.ownBlock
            have hn0 : (0 : Int) < (near.length : Int) + 2 := by omega
            have HFIN : Hid (∀ wa D d v2 w5, Below w3.heap.size w3 wa → Own wa w3.heap.size wa.heap.size 9 1 (.slice D near.length d) near.length (strs near) → w5.ownsRow w.heap.size 37 3 v2 (k + 1) (rgs ds ++ [.string id, .int .i64 z, .slice D near.length d]) → (wa.alloc (.cells #[.string id, .int .i64 z, .slice D near.length d] 37)).grownBy w5 u4.ownBlock →
                RdSt w w5 v2 (k + 1) P (rs ++ [⟨id, z, none, near.length, 0, near⟩]) (ds ++ [⟨id, z, D, near.length, d, near⟩]) ∧ Own w5 w.heap.size w1.heap.size 9 1 (.slice (some ad1) P.length c1) P.length (strs P)) := Lib.hid (by
              intro wa D d v2 w5 HB4 HO4 O5 G5
              have hs4 := HB4.size
              have hx : Below wo.heap.size wo wa := HBW3.out.trans (HB4.mono hBW)
              have hX : Below wa.heap.size wa (wa.alloc (.cells #[.string id, .int .i64 z, .slice D near.length d] 37)) := (Below.refl wa.heap.size wa).alloc (Nat.le_refl _) _
              have hrow : Own (wa.alloc (.cells #[.string id, .int .i64 z, .slice D near.length d] 37)) w.heap.size wo.heap.size 37 3 u4 k (rgs ds) := (HRO.out.below HB4 hBW).below hX (by omega)
              have hl : Own (wa.alloc (.cells #[.string id, .int .i64 z, .slice D near.length d] 37)) w.heap.size w1.heap.size 9 1 (.slice (some ad1) P.length c1) P.length (strs P) := (HL.out.below hx hw1o).below hX (by omega)
              exact ⟨HR.out.next HP.out HPN.out rfl hnl hx (HO4.widen hBW (Nat.le_refl _)) hX O5 G5, hl.grownBy G5 (fun g hg e => own_types_ne hl hrow (by decide) hg e.symm)⟩)
            have HBZ : Hid (∀ wa, Below w3.heap.size w3 wa → ∀ o, (wa.alloc o).ownsRow w.heap.size 37 3 u4 k (rgs ds)) := Lib.hid (fun wa hB4 o => owns_al (HRO.out.below hB4 hBW).1 o)
            go_upto_region 13 with (fail)
            go_region_held3 (fun w' => w3.grownBy w' u4.ownBlock ∧ w'.cell? ⟨g2, 0, none⟩ = some (.string id))
              (first | exact keepGL HS.out (by assumption) (by first | assumption | exact And.left (by assumption)) | exact keepGB HS.out (by assumption) (by first | assumption | exact And.left (by assumption)) | exact keepGD HS.out (by assumption) | exact keepGA HS.out (by first | assumption | exact And.left (by assumption)) | exact keepGAD HS.out (by first | assumption | exact And.left (by assumption)) | exact keepGG HS.out (by assumption) (by first | assumption | exact And.left (by assumption)) | (go_keep; done))
              (first
                | (go_at_call 28; refine HCL.out.mono ?_; rintro e wa ⟨D, d, rfl, O4, B4⟩
                   have BKa : Below w3.heap.size w3.drew wa := ⟨B4.os, B4.tape, B4.output, B4.size, B4.block⟩
                   have HB4 := Lib.hid B4
                   have HO4 := Lib.hid O4)
                | (refine step_append_any _ (by rfl) (.tmp 33) (.tmp 42) _ (by rfl) w.heap.size 37 i1 _ 3 48 Tryz.underlying24 HJ.out.1 HJ.out.2.1 HJ.out.2.2.1 HJ.out.2.2.2 rfl (by omega) _ k (rgs ds) (by rfl) (HBZ.out wa HB4.out _) (wa.heap.size + 1) (some ⟨wa.heap.size, 0, none⟩) 1 1 [.string id, .int .i64 z, .slice D near.length d] (by rfl) (reads_one wa 37 [.string id, .int .i64 z, .slice D near.length d]) (by simp [Value.oneCell']) (by simp [maxLen]; omega) (by omega) (by have := HB4.out.size; simp; omega) ?_
                   intro v2 w5 O5 G5 h5
                   have HST := Lib.hid (HFIN.out wa D d v2 w5 HB4.out HO4.out O5 G5)
                   have hs5 : w1.heap.size ≤ w5.heap.size := by have h6 := HB4.out.size; have h7 := G5.size; simp at h7; omega)
                | fail "no arm")
            have HST1 := Lib.hid HST.out.1
            have HST2 := Lib.hid HST.out.2
            have HB5 := Lib.hid HST.out.1.po.bel
            clear HS HCL HFIN HO4 HBZ HB4 HST HRO HW3 HPN hG HJ
            go_wp2
            go_roundw
            case rel => exact ⟨k + 1, _, _, by omega, by go_num, HST1, HST2, HB5, hs5⟩
            case measure => simp [intOf]; omega
      · obtain rfl : k = P.length := by omega
        obtain ⟨A2, c2, hv', _, _⟩ := (Own.of_owns HR.out.po.row (Nat.le_refl _)).slice
        subst hv'
        obtain ⟨h1, h2, h3⟩ := HR.out.all rfl
        have HO := Lib.hid h1
        have HX := Lib.hid h3
        have HV1 := Lib.hid (HDONE.out _ h2).1
        have HV2 := Lib.hid (HDONE.out _ h2).2
        have hTb := (HEN.out _ HB.out).tab
        have HRT := Lib.hid (iRegionsText_c A2 P.length c2 _ ds wo HO.out.regs (Nat.le_refl _) HX.out (by omega) hTb)
        have HNT := Lib.hid (neT (rtV (ds.map Rg.dat)) s)
        have HVD := Lib.hid (show rtV (ds.map Rg.dat) = if validD (ds.map Rg.dat) = true then rgT (ds.map Rg.dat) else ⟨#[]⟩ from rfl)
        clear h1 h2 h3 HR HL hTb
        cases hv : validD (ds.map Rg.dat)
        · rw [hv, if_neg (by decide)] at HVD
          have HV := Lib.hid (HV2.out hv)
          have hq : (!((rtV (ds.map Rg.dat)).toList == s.toList)) = true := by
            rw [HNT.out, decide_eq_true_eq, HVD.out]
            intro e
            exact HS0.out (by rw [← e]; rfl)
          generalize rtV (ds.map Rg.dat) = tx at *
          clear HVD HNT
          go_wp2_with fail
          refine HRT.out.mono ?_
          rintro e w5 ⟨rfl, B5⟩
          have HB5 := Lib.hid (HB.out.trans (B5.mono HB.out.size))
          clear B5
          go_wp2
          go_ret2
          exact RRPost.nil HV.out HB5.out
        · rw [hv, if_pos rfl] at HVD
          obtain ⟨hv1, hv2⟩ := HV1.out hv
          have HV := Lib.hid hv1
          have hq : (!((rtV (ds.map Rg.dat)).toList == s.toList)) = false := by
            rw [HNT.out, HVD.out, hv2]; simp
          generalize rtV (ds.map Rg.dat) = tx at *
          clear HVD HNT hv1 hv2
          go_wp2_with fail
          refine HRT.out.mono ?_
          rintro e w5 ⟨rfl, B5⟩
          have HB5 := Lib.hid (HB.out.trans (B5.mono HB.out.size))
          have HO5 := Lib.hid (HO.out.below B5 (Nat.le_refl _))
          have hs5 := B5.size
          clear B5
          go_wp2
          go_ret2
          exact ⟨A2, P.length, c2, ds, by rw [HV.out]; rfl, HO5.out.widen (Nat.le_refl _) hs5, by rw [HV.out], by omega, HX.out, HB5.out⟩
end Go.Proofs.YteklfeeamjgplaaGreatDoor

