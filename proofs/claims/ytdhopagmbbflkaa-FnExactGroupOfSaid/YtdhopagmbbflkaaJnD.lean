/- The reference's l18Groups. -/
import Derived.Test.YtdhopagmbbflkaaJnC
namespace Go.Proofs.Ytdhopagmbbflkaa
open Go.ChangeShapes Go.WideShapes Go.ChangeAt Go.RowKit
set_option linter.unusedVariables false
def lvs (ds : List Dat) : List Int := ds.map (·.2.1)
theorem lvs_get {ds : List Dat} {k : Nat} (h : k < ds.length) : (lvs ds)[k]? = some (dLv ds k) := by
  unfold lvs dLv
  rw [List.getElem?_map, List.getElem?_eq_getElem h]; rfl
theorem ins_len (n : Int) : ∀ l : List Int, (ins n l).length ≤ l.length + 1
  | [] => by simp [ins]
  | x :: l => by
    have ih := ins_len n l
    rw [ins]
    split
    · split <;> simp
    · simp; omega
theorem foldPut_len : ∀ (q a : List Int), (q.foldl putV a).length ≤ a.length + q.length
  | [], a => by simp
  | x :: q, a => by
    have h1 := foldPut_len q (putV a x)
    have h2 := ins_len x a
    rw [← putV_ins] at h2
    simp only [List.foldl_cons, List.length_cons]; omega
theorem sortV_len (q : List Int) : (sortV q).length ≤ q.length := by have := foldPut_len q []; simpa [sortV] using this
def bNb (ds : List Dat) (x : Nat) (s : List Bool × List Nat) (k : Nat) : List Bool × List Nat := (nbs ds x k).foldl (bStep ds x) s
theorem bNb_zero (ds : List Dat) (x : Nat) (s : List Bool × List Nat) : bNb ds x s 0 = s := rfl
theorem bNb_yes {ds : List Dat} {x k : Nat} (s : List Bool × List Nat) (h : isNb ds x k = true) : bNb ds x s (k + 1) = bStep ds x (bNb ds x s k) k := by
  unfold bNb; rw [nbs_succ, if_pos h]; simp
theorem bNb_no {ds : List Dat} {x k : Nat} (s : List Bool × List Nat) (h : isNb ds x k = false) : bNb ds x s (k + 1) = bNb ds x s k := by
  unfold bNb; rw [nbs_succ, if_neg (by rw [h]; simp)]
theorem bStep_take (ds : List Dat) (x : Nat) (s : List Bool × List Nat) (k m : Nat) (h : m ≤ s.2.length) : (bStep ds x s k).2.take m = s.2.take m := by
  unfold bStep
  split
  · show (s.2 ++ [k]).take m = _
    rw [List.take_append_of_le_length h]
  · rfl
theorem fold_take (ds : List Dat) (x : Nat) {m : Nat} : ∀ (l : List Nat) (s : List Bool × List Nat), m ≤ s.2.length → (l.foldl (bStep ds x) s).2.take m = s.2.take m
  | [], s, _ => rfl
  | k :: l, s, h => by
    rw [List.foldl_cons, fold_take ds x l _ (Nat.le_trans h (bStep_len ds x s k)), bStep_take ds x s k m h]
set_option maxHeartbeats 1000000 in
theorem l18Levels_c (A : Option Addr) (n c B : Nat) (rs : List Rg) (w : World) (ha : Regs w B A n rs) (hB : B ≤ w.heap.size) (hn : n ≤ 1048576) :
    Calls Try.prog 62 #[.slice A n c] w fun e w' => ∃ D d, e = .returned (.slice D n d) ∧ Own w' w.heap.size w'.heap.size 2 1 (.slice D n d) n (ints (lvs (rs.map Rg.dat))) ∧ Below w.heap.size w w' := by
  have HA := Lib.hid ha
  have HL := Lib.hid ha.len
  have O1 : Hid ((w.alloc (.cells #[] 2)).ownsRow w.heap.size 2 1 (.slice (some ⟨w.heap.size, 0, none⟩) 0 0) 0 (ints [])) := Lib.hid (World.ownsRow_lit (w := w) (base := w.heap.size) (e := 2) (size := 1) #[] 0 (Nat.le_refl _) (by simp [maxLen]) (by simp))
  have HT0 := Lib.hid ((Below.refl w.heap.size w).alloc (Nat.le_refl _) (.cells #[] 2))
  clear ha
  go_enter Try.func62, Try.ntmps62
  go_wp2
  go_loopw [3, 4] (fun o i wr => ∃ k : Nat, k ≤ n ∧ i = .int .i64 k ∧ Hid (wr.ownsRow w.heap.size 2 1 o k (ints ((lvs (rs.map Rg.dat)).take k))) ∧ Hid (Below w.heap.size w wr)) (fun _ i _ => n - (intOf i).toNat)
  case atStart => exact ⟨0, Nat.zero_le _, rfl, O1, HT0⟩
  case round =>
    clear O1 HT0
    obtain ⟨k, hk, rfl, HO, HT⟩ := hrel
    have hwz := HT.out.size
    by_cases hlt : k < n
    · obtain ⟨ad, x, rfl, hbl, hs, hnx, c0, c1, c2⟩ := (HA.out.below (HT.out.mono hB)).at_ hlt
      have HTK : Hid ((lvs (rs.map Rg.dat)).take (k + 1) = (lvs (rs.map Rg.dat)).take k ++ [x.lv]) := Lib.hid (by rw [List.take_add_one, lvs_get (by rw [List.length_map, HL.out]; exact hlt), dLv_get hs]; rfl)
      clear hs hnx
      go_wp2_with (at_builtin; refine app_i64 rfl (.tmp 12) (.tmp 18) rfl w.heap.size _ k ((lvs (rs.map Rg.dat)).take k) x.lv _ rfl (owns_al HO.out _) rfl ?_ (by omega) ?_ ?_)
      rotate_left 2
      · intro v' w' O4 B4 hs4
        have HO4 := Lib.hid O4
        have HT4 := Lib.hid ((HT.out.alloc hwz _).trans B4)
        clear O4 B4 hs4 c0 c1 c2
        go_wp2
        go_roundw
        case rel => exact ⟨k + 1, by omega, by go_num, Lib.hid (by rw [HTK.out]; exact HO4.out), HT4⟩
        case measure => simp [intOf]; omega
      · exact (Blk.new _ _ _).cell 0
      · simp; omega
    · obtain rfl : k = n := by omega
      obtain ⟨D, d, hv, _, _⟩ := (Own.of_owns HO.out (Nat.le_refl _)).slice
      subst hv
      go_wp2
      go_ret
      refine ⟨D, d, rfl, ?_, HT.out⟩
      have h := Own.of_owns HO.out (Nat.le_refl wr.heap.size)
      rwa [List.take_of_length_le (by simp [lvs, HL.out])] at h
set_option maxHeartbeats 8000000 in
set_option maxRecDepth 100000 in
theorem l18Groups_c (A : Option Addr) (n c B : Nat) (rs : List Rg) (E : Option Addr) (ec BE : Nat) (w : World) (ha : Regs w B A n rs) (hB : B ≤ w.heap.size) (hx : ∀ x ∈ rs, x.n ≤ 1048576) (hv : validR rs = true)
    (he : Reads w BE 1 E n (ints (lvs (rs.map Rg.dat)))) (hE : BE ≤ w.heap.size) :
    Calls Try.prog 61 #[.slice A n c, .slice E n ec] w (SetsPost (joinedV (rs.map Rg.dat)) w) := by
  obtain ⟨i0, hi, hz, hs, hb⟩ := info_parts info_bool
  have hn8 : n ≤ 8 := by have := (valid_len hv).1; have := ha.len; omega
  have hmk : ∀ W : World, (Instr.makeSlice 82 (.int .i64 (n : Int)) (.int .i64 (n : Int))).run Try.prog W = .ok (.slice (some ⟨W.heap.size, 0, none⟩) n n) (W.alloc (.cells (madeCells #[.bool false] n) 4)) := fun W => by
    have h := run_make_rowN (P := Try.prog) 82 4 i0 _ Try.underlying82 hi hz .i64 .i64 n n (Nat.le_refl _) (by rw [hb]; omega) (by omega) W
    rw [hs, Nat.mul_one] at h
    exact h
  have HL := Lib.hid ha.len
  have HD : Hid ((rs.map Rg.dat).length = n) := Lib.hid (by rw [List.length_map, ha.len])
  have HA := Lib.hid ha
  have HX := Lib.hid hx
  have HV := Lib.hid hv
  have HE := Lib.hid he
  obtain ⟨ds, hds⟩ : ∃ ds, ds = rs.map Rg.dat := ⟨_, rfl⟩
  have HDS := Lib.hid hds
  rw [← hds] at HD HE ⊢
  have HJ0 : Hid (JSt w ((w.alloc (.cells #[] 70)).alloc (.cells (madeCells #[.bool false] n) 4)) (w.heap.size + 1) n (.slice (some ⟨w.heap.size, 0, none⟩) 0 0) (jAll ds 0) []) := Lib.hid (by
    have hb0 : Below w.heap.size w ((w.alloc (.cells #[] 70)).alloc (.cells (madeCells #[.bool false] n) 4)) := ((Below.refl _ _).alloc (Nat.le_refl _) _).alloc (by simp) _
    refine ⟨?_, ⟨?_, fun x hx => by simp at hx, List.Pairwise.nil⟩, rfl, hb0, by omega, by simp⟩
    · have h := Own.of_blk (lo := w.heap.size + 1) (hi := w.heap.size + 1 + 1) (n := n) (s := 1) (Blk.new (w.alloc (.cells #[] 70)) 4 (madeCells #[.bool false] n)) (by rw [made_size, Nat.mul_one]) (by simp) (by simp) (by simp [maxLen]; omega)
      rw [made_bools] at h
      have e : (jAll ds 0).1 = List.replicate n false := by simp [jAll, HD.out]
      rw [e]; simpa using h
    · have h := World.ownsRow_lit (w := w) (base := w.heap.size) (e := 70) (size := 1) #[] 0 (Nat.le_refl _) (by simp [maxLen]) (by simp)
      exact Own.of_owns (by simpa [gcs] using owns_al h (.cells (madeCells #[.bool false] n) 4)) (Nat.le_refl _))
  have HSP := Lib.hid (show joinedV ds = (jAll ds ds.length).2.map fun q => sortV (ofN q) from rfl)
  clear hi hz hs hb i0 ha hx hv hds he
  go_enter Try.func61, Try.ntmps61
  go_wp2
  clear hmk
  have hgs0 : w.heap.size + 1 = w.heap.size + 1 := rfl
  generalize hgs : w.heap.size + 1 = gs at HJ0 ⊢
  have HGS := Lib.hid hgs
  have hBg : B < gs := by omega
  have hEg : BE < gs := by omega
  clear hgs hgs0
  go_loopw [5, 7] (fun v i wr => ∃ (k : Nat) (l : List GRow), k ≤ n ∧ i = .int .i64 k ∧ Hid (JSt w wr gs n v (jAll ds k) l)) (fun _ i _ => n - (intOf i).toNat)
  case atStart => exact ⟨0, [], Nat.zero_le _, rfl, HJ0⟩
  case round =>
    clear HJ0
    obtain ⟨k, l, hk, rfl, HJ⟩ := hrel
    generalize wr = wo at *
    by_cases hlt : k < n
    · have HI := Lib.hid (jAll_inv ds k (by rw [HD.out]; omega))
      have HST := Lib.hid (jAll_succ ds k)
      have hsk : (jAll ds k).1[k]? = some ((jAll ds k).1[k]'(by rw [HI.out.len, HD.out]; exact hlt)) := List.getElem?_eq_getElem _
      generalize (jAll ds k).1[k]'(by rw [HI.out.len, HD.out]; exact hlt) = b at hsk
      obtain ⟨c0, f0, -⟩ := HJ.out.seenAt hsk
      have hkn : (k : Int) < (n : Int) := by omega
      cases b
      · have HN : Hid (jAll ds (k + 1) = ((bfs ds n 0 ((jAll ds k).1.set k true, [k])).1, (jAll ds k).2 ++ [(bfs ds n 0 ((jAll ds k).1.set k true, [k])).2])) := Lib.hid (by rw [HST.out, jStep, if_pos hsk, HD.out])
        have HQI := Lib.hid (QInv.start HI.out.len hsk)
        have hwz := HJ.out.bel.size
        have HQ0 : Hid (QSt wo (((wo.setCell ⟨gs, k, none⟩ (.bool true)).alloc (.cells #[.int .i64 k] 2)).alloc (.cells #[] 2)) gs n (.slice (some ⟨wo.heap.size, 0, none⟩) 1 1) ((jAll ds k).1.set k true, [k])) := Lib.hid ((HJ.out.begin ((Below.refl _ _).alloc (by simp) _) (by
          have h := World.ownsRow_lit (w := wo.setCell ⟨gs, k, none⟩ (.bool true)) (base := wo.heap.size) (e := 2) (size := 1) #[.int .i64 (k : Int)] 1 (by simp) (by simp [maxLen]) (by simp)
          simpa [ints] using h)).alloc _)
        have HG0 : Hid (Own (((wo.setCell ⟨gs, k, none⟩ (.bool true)).alloc (.cells #[.int .i64 k] 2)).alloc (.cells #[] 2)) wo.heap.size (wo.heap.size + 1 + 1) 2 1 (.slice (some ⟨wo.heap.size + 1, 0, none⟩) 0 0) 0 (ints [])) := Lib.hid (by
          have h := World.ownsRow_lit (w := (wo.setCell ⟨gs, k, none⟩ (.bool true)).alloc (.cells #[.int .i64 k] 2)) (base := wo.heap.size) (e := 2) (size := 1) #[] 0 (by simp) (by simp [maxLen]) (by simp)
          have h2 := Own.of_owns h (Nat.le_refl _)
          simpa [ints] using h2)
        clear hsk HST
        go_wp2
        clear c0 f0
        generalize hs0 : ((jAll ds k).1.set k true, [k]) = s0 at HN HQI HQ0
        have HS0 : Hid (s0.2.length = 1) := Lib.hid (by rw [← hs0]; rfl)
        clear hs0
        go_loopw [8, 9, 10] (fun o gv a wx => ∃ (at_ f gn : Nat) (s : List Bool × List Nat), a = .int .i64 at_ ∧ at_ ≤ n ∧ Hid (at_ ≤ s.2.length) ∧ Hid (at_ + f = n) ∧ Hid (bfs ds f at_ s = bfs ds n 0 s0) ∧ Hid (QInv ds k (jAll ds k).1 s) ∧ Hid (QSt wo wx gs n o s) ∧
          Hid (Own wx wo.heap.size wx.heap.size 2 1 gv gn (ints (sortV (ofN (s.2.take at_))))) ∧ Hid (∀ q, gv.ownBlock = some q → o.ownBlock ≠ some q)) (fun _ _ a _ => n - (intOf a).toNat)
        case atStart => exact ⟨0, n, 0, s0, rfl, Nat.zero_le _, Lib.hid (Nat.zero_le _), Lib.hid (by omega), Lib.hid rfl, HQI, HQ0, Lib.hid (HG0.out.widen (Nat.le_refl _) (by simp)), Lib.hid (fun q hq => by simp [Value.ownBlock] at hq ⊢; omega)⟩
        case round =>
          clear HQI HQ0 HG0
          obtain ⟨at_, f, gn, s, rfl, hatn, HAT, HF, HB, HQI, HQ, HG, HNE⟩ := hrel
          generalize wr = wx at *
          have hle := HQI.out.le
          rw [HD.out] at hle
          obtain ⟨oA, oc, hov, hoc, _⟩ := (Own.of_owns HQ.out.own (Nat.le_refl _)).slice
          subst hov
          obtain ⟨gA, gc, hgv, hgc, _⟩ := HG.out.slice
          subst hgv
          generalize hm : s.2.length = m at HAT hle
          have HM := Lib.hid hm
          clear hm
          by_cases hat : at_ < m
          · obtain ⟨x, hx⟩ : ∃ x, s.2[at_]? = some x := ⟨_, List.getElem?_eq_getElem (by rw [HM.out]; exact hat)⟩
            have hxn : x < n := by have := HQI.out.lt x (List.mem_of_getElem? hx); rw [HD.out] at this; exact this
            have HLV := Lib.hid (HQI.out.lv x (List.mem_of_getElem? hx))
            have HB2 : Hid (bfs ds (f - 1) (at_ + 1) (bRound ds x s) = bfs ds n 0 s0) := Lib.hid (by
              rw [← HB.out]
              conv => rhs; rw [show f = (f - 1) + 1 by have := HF.out; omega]
              rw [bfs_some hx])
            have HTK : Hid (sortV (ofN (s.2.take (at_ + 1))) = putV (sortV (ofN (s.2.take at_))) (x : Int)) := Lib.hid (by
              rw [List.take_add_one, hx, ofN_app, show ofN (some x).toList = [(x : Int)] from rfl, sortV_snoc])
            have hgl : gn = (sortV (ofN (s.2.take at_))).length := (HG.out.reads.len).symm
            have hgn : gn ≤ 1000 := by
              have h1 := sortV_len (ofN (s.2.take at_))
              rw [ofN_len, List.length_take, HM.out] at h1
              omega
            obtain ⟨g2, hoA, hg1, hg2, hg3⟩ := (Own.of_owns HQ.out.own (Nat.le_refl _)).at_ (by rw [HM.out]; omega)
            subst hoA
            have hcx : wx.cell? ⟨g2, at_, none⟩ = some (.int .i64 (x : Int)) := by
              rw [(Own.of_owns HQ.out.own (Nat.le_refl _)).1.cellAt at_ (by rw [HM.out]; omega)]
              simp [ints, ofN_get hx]
            have hatm : (at_ : Int) < (m : Int) := by omega
            have hxn' : (x : Int) < (n : Int) := by omega
            have HXS := Lib.hid hx
            have HPC := Lib.hid (l00Put_c gA gn gc wx.heap.size (sortV (ofN (s.2.take at_))) (x : Int) wx HG.out.reads (Nat.le_refl _) hgn)
            clear hx hgl
            go_wp2_with fail
            refine HPC.out.mono ?_
            rintro e wp ⟨gA2, gn2, gc2, rfl, hgo, Bp⟩
            rw [← HTK.out] at hgo
            have hps := Bp.size
            have hwoz := HQ.out.only.size
            have HQ1 : Hid (QSt wo wp gs n (.slice (some ⟨g2, 0, none⟩) m oc) (bNb ds x s 0)) := Lib.hid (by rw [bNb_zero]; exact HM.out ▸ HQ.out.bel Bp)
            have HG1 : Hid (Own wp wo.heap.size wp.heap.size 2 1 (.slice gA2 gn2 gc2) gn2 (ints (sortV (ofN (s.2.take (at_ + 1)))))) := Lib.hid (hgo.widen hwoz (Nat.le_refl _))
            have HNE1 : Hid (∀ q, (Value.slice gA2 gn2 gc2).ownBlock = some q → (Value.slice (some ⟨g2, 0, none⟩) m oc).ownBlock ≠ some q) := Lib.hid (fun q hq => by
              have := hgo.blk_bd hq
              intro e
              simp [Value.ownBlock] at e
              omega)
            clear hgo Bp HPC hcx HG HNE
            go_wp2
            go_loopw [8, 12] (fun o jj wy => ∃ j : Nat, j ≤ n ∧ jj = .int .i64 j ∧ Hid (QInv ds k (jAll ds k).1 (bNb ds x s j)) ∧ Hid (QSt wo wy gs n o (bNb ds x s j)) ∧
              Hid (Own wy wo.heap.size wy.heap.size 2 1 (.slice gA2 gn2 gc2) gn2 (ints (sortV (ofN (s.2.take (at_ + 1)))))) ∧ Hid (∀ q, (Value.slice gA2 gn2 gc2).ownBlock = some q → o.ownBlock ≠ some q)) (fun _ jj _ => n - (intOf jj).toNat)
            case atStart => exact ⟨0, Nat.zero_le _, rfl, HQI, HQ1, HG1, HNE1⟩
            case round =>
              clear HQ1 HG1 HNE1 HQ
              obtain ⟨j, hj, rfl, HI2, HQ, HG, HNE⟩ := hrel
              generalize wr = wy at *
              by_cases hjl : j < n
              · have hbely : Below w.heap.size w wy := HJ.out.bel.trans (HQ.out.only.below (by have := HGS.out; omega) HJ.out.bel.size)
                have hyz := hbely.size
                obtain ⟨ad, r, hAr, -, hrs, hnr, a0, a1, a2⟩ := (HA.out.below (hbely.mono hB)).at_ hxn
                subst hAr
                obtain ⟨ad2, y, had2, -, hys, hny, e0, e1, e2⟩ := (HA.out.below (hbely.mono hB)).at_ hjl
                obtain rfl : ad = ad2 := by injection had2
                have hrn := HX.out r (List.mem_of_getElem? hrs)
                obtain ⟨adE, zj, hEE, -, hzj, cj⟩ := (HE.out.below (hbely.mono hE)).int hjl
                subst hEE
                obtain ⟨adE2, zk, hEE2, -, hzk, ck⟩ := (HE.out.below (hbely.mono hE)).int hlt
                obtain rfl : adE = adE2 := by injection hEE2
                rw [lvs_get (by rw [HD.out]; exact hjl)] at hzj
                rw [lvs_get (by rw [HD.out]; exact hlt)] at hzk
                obtain rfl : dLv ds j = zj := by injection hzj
                obtain rfl : dLv ds k = zk := by injection hzk
                have HNV : Hid (isNb ds x j = nearV r.near y.id) := Lib.hid (by unfold isNb; rw [HDS.out, dNr_get hrs, dId_get hys])
                have HNR := Lib.hid fun q => l18Near_c (ad.add (x * 3)) r B y.id (wy.drewN q) ⟨a0, a1, a2⟩ hnr hrn
                have hsa : (bNb ds x s j).1[j]? = some ((bNb ds x s j).1[j]'(by rw [HI2.out.len, HD.out]; exact hjl)) := List.getElem?_eq_getElem _
                generalize (bNb ds x s j).1[j]'(by rw [HI2.out.len, HD.out]; exact hjl) = b at hsa
                have HSA := Lib.hid hsa
                have HI3 := Lib.hid (HI2.out.step (by rw [HLV.out]) j)
                obtain ⟨s0c, sf0, _⟩ := HQ.out.seenAt hsa
                have hjr : (j : Int) < (n : Int) := by omega
                have hj0 : (0 : Int) ≤ (j : Int) := by omega
                have hk0 : (0 : Int) ≤ (k : Int) := by omega
                have hx0 : (0 : Int) ≤ (x : Int) := by omega
                clear had2 hEE2 hzj hzk hrs hys hnr hny hsa a0 a1 a2 e1 e2
                cases b
                · by_cases hlv : dLv ds j = dLv ds k
                  · have hbe : (dLv ds j == dLv ds k) = true := by simp [hlv]
                    have HLV2 := Lib.hid hlv
                    clear hlv
                    cases hnb : nearV r.near y.id
                    · have HY2 : Hid (bNb ds x s (j + 1) = bNb ds x s j) := Lib.hid (bNb_no s (by rw [HNV.out, hnb]))
                      rw [hnb] at HNR
                      clear hnb
                      go_wp2
                      refine wp_region_quiet_lit (by kernel_rfl) (by kernel_rfl) ?_
                      repeat (first | go_big_quiet_step ((go_at_call 58; first | exact quiet_add_left (HNR.out _) | exact quiet_left (HNR.out _))) | quiet_step ((go_at_call 58; first | exact quiet_add_left (HNR.out _) | exact quiet_left (HNR.out _))))
                      refine wpQuiet_nil ?_
                      intro _ hw'
                      obtain ⟨nq, hw''⟩ := hw'
                      subst hw''
                      go_wp2
                      go_roundw
                      case rel => exact ⟨j + 1, by omega, by go_num, by rw [HY2.out]; exact HI2, by rw [HY2.out]; exact Lib.hid (HQ.out.drewN _), Lib.hid (HG.out.drewN _), HNE⟩
                      case measure => simp [intOf]; omega
                    · have HY1 : Hid (bNb ds x s (j + 1) = bStep ds x (bNb ds x s j) j) := Lib.hid (bNb_yes s (by rw [HNV.out, hnb]))
                      have HY2 : Hid (bNb ds x s (j + 1) = ((bNb ds x s j).1.set j true, (bNb ds x s j).2 ++ [j])) := Lib.hid (by rw [HY1.out, bStep_yes HSA.out (by rw [HLV2.out, HLV.out])])
                      have HIY : Hid (QInv ds k (jAll ds k).1 (bNb ds x s (j + 1))) := Lib.hid (by rw [HY1.out]; exact HI3.out)
                      rw [hnb] at HNR
                      clear hnb
                      go_wp2
                      refine wp_region_quiet_lit (by kernel_rfl) (by kernel_rfl) ?_
                      repeat (first | go_big_quiet_step ((go_at_call 58; first | exact quiet_add_left (HNR.out _) | exact quiet_left (HNR.out _))) | quiet_step ((go_at_call 58; first | exact quiet_add_left (HNR.out _) | exact quiet_left (HNR.out _))))
                      refine wpQuiet_nil ?_
                      intro _ hw'
                      obtain ⟨nq, hw''⟩ := hw'
                      subst hw''
                      obtain ⟨W3, hW3⟩ : ∃ W, W = wy.drewN nq := ⟨_, rfl⟩
                      rw [← hW3]
                      have HQ3 : Hid (QSt wo W3 gs n u8 (bNb ds x s j)) := Lib.hid (by rw [hW3]; exact HQ.out.drewN nq)
                      have HG3 : Hid (Own W3 wo.heap.size W3.heap.size 2 1 (.slice gA2 gn2 gc2) gn2 (ints (sortV (ofN (s.2.take (at_ + 1)))))) := Lib.hid (by rw [hW3]; exact HG.out.drewN nq)
                      replace s0c : W3.cell? ⟨gs, j, none⟩ = some (.bool false) := by rw [hW3]; exact s0c
                      replace sf0 : W3.frozen? ⟨gs, j, none⟩ = false := by rw [hW3]; exact sf0
                      clear e0 cj ck hW3 hbe
                      have HOWN := Lib.hid ((HQ3.out.mark j).alloc (.cells #[.int .i64 j] 2))
                      have hwo3 := HQ3.out.only.size
                      have hgw := HQ3.out.hgs
                      have hq8 : (bNb ds x s j).2.length ≤ 8 := by have := HI2.out.le; rw [HD.out] at this; omega
                      go_wp2_with (at_builtin; refine app_i64k rfl (.tmp 82) (.tmp 84) rfl wo.heap.size _ (bNb ds x s j).2.length (ofN (bNb ds x s j).2) (j : Int) _ rfl HOWN.out.own rfl ?_ (by omega) ?_ ?_)
                      rotate_left 2
                      · intro v' w' O4 G4 h4
                        have HQ4 : Hid (QSt wo w' gs n v' (bNb ds x s (j + 1))) := Lib.hid (by rw [HY2.out]; exact (HQ3.out.mark j).push ((Below.refl _ _).alloc (Nat.le_refl _) _) O4 G4)
                        have hgx := (((HG3.out.setOut (p := ⟨gs, j, none⟩) hgw (.bool true))).below ((Below.refl (W3.setCell ⟨gs, j, none⟩ (.bool true)).heap.size _).alloc (Nat.le_refl _) (.cells #[.int .i64 j] 2)) (by simp))
                        have hgs4 := G4.size
                        have HG4 : Hid (Own w' wo.heap.size w'.heap.size 2 1 (.slice gA2 gn2 gc2) gn2 (ints (sortV (ofN (s.2.take (at_ + 1)))))) := Lib.hid ((hgx.grownBy G4 (fun q hq e => HNE.out q hq e.symm)).widen (Nat.le_refl _) (by simp at hgs4; omega))
                        have HNE4 : Hid (∀ q, (Value.slice gA2 gn2 gc2).ownBlock = some q → v'.ownBlock ≠ some q) := Lib.hid (fun q hq => by
                          have hb := hgx.blk_bd hq
                          rcases h4 with h5 | h5
                          · rw [h5]; exact HNE.out q hq
                          · rw [h5]; simp; omega)
                        clear O4 G4 h4 hgx hgs4 s0c sf0 HOWN
                        go_wp2
                        go_roundw
                        case rel => exact ⟨j + 1, by omega, by go_num, HIY, HQ4, HG4, HNE4⟩
                        case measure => simp [intOf]; omega
                      · have h := (Blk.new (W3.setCell ⟨gs, j, none⟩ (.bool true)) 2 #[.int .i64 (j : Int)]).cell 0
                        simpa using h
                      · simp; omega
                  · have hbe : (dLv ds j == dLv ds k) = false := by simp [hlv]
                    have HY2 : Hid (bNb ds x s (j + 1) = bNb ds x s j) := Lib.hid (by
                      cases hb : isNb ds x j
                      · exact bNb_no s hb
                      · rw [bNb_yes s hb, bStep_lv (by rw [HLV.out]; exact hlv)])
                    clear hlv
                    go_wp2
                    refine wp_region_quiet_lit (by kernel_rfl) (by kernel_rfl) ?_
                    repeat (first | go_big_quiet_step (fail) | quiet_step (fail))
                    refine wpQuiet_nil ?_
                    intro _ hw'
                    obtain ⟨nq, hw''⟩ := hw'
                    subst hw''
                    go_wp2
                    go_roundw
                    case rel => exact ⟨j + 1, by omega, by go_num, by rw [HY2.out]; exact HI2, by rw [HY2.out]; exact Lib.hid (HQ.out.drewN _), Lib.hid (HG.out.drewN _), HNE⟩
                    case measure => simp [intOf]; omega
                · have HY2 : Hid (bNb ds x s (j + 1) = bNb ds x s j) := Lib.hid (by
                    cases hb : isNb ds x j
                    · exact bNb_no s hb
                    · rw [bNb_yes s hb, bStep_seen HSA.out])
                  go_wp2
                  refine wp_region_quiet_lit (by kernel_rfl) (by kernel_rfl) ?_
                  repeat (first | go_big_quiet_step (fail) | quiet_step (fail))
                  refine wpQuiet_nil ?_
                  intro _ hw'
                  obtain ⟨nq, hw''⟩ := hw'
                  subst hw''
                  go_wp2
                  go_roundw
                  case rel => exact ⟨j + 1, by omega, by go_num, by rw [HY2.out]; exact HI2, by rw [HY2.out]; exact Lib.hid (HQ.out.drewN _), Lib.hid (HG.out.drewN _), HNE⟩
                  case measure => simp [intOf]; omega
              · obtain rfl : j = n := by omega
                have HEQ : Hid (bNb ds x s j = bRound ds x s) := Lib.hid (by unfold bNb bRound; rw [HD.out])
                rw [HEQ.out] at HI2 HQ
                go_wp2
                go_roundw
                case rel => exact ⟨at_ + 1, f - 1, gn2, bRound ds x s, by go_num, by omega, Lib.hid (by have := fold_len ds x (nbs ds x ds.length) s; rw [HM.out] at this; exact Nat.le_trans hat this), Lib.hid (by have := HF.out; omega), HB2, HI2, HQ, Lib.hid (by
                  have h := HG.out
                  rw [show (bRound ds x s).2.take (at_ + 1) = s.2.take (at_ + 1) from fold_take ds x _ s (by rw [HM.out]; omega)]
                  exact h), HNE⟩
                case measure => simp [intOf]; omega
          · have hat2 : at_ = m := by have := HAT.out; omega
            subst hat2
            have HFIN : Hid (bfs ds n 0 s0 = s) := Lib.hid (by rw [← HB.out]; exact bfs_end (by rw [HM.out]; exact Nat.le_refl _))
            rw [HFIN.out] at HN
            rw [List.take_of_length_le (by rw [HM.out]; exact Nat.le_refl _)] at HG
            have HROW := Lib.hid (owns_al (HJ.out.rowAt HQ.out (Only.refl wo.heap.size wx.heap.size wx)) (.cells #[.slice gA gn gc] 70))
            have hlm : l.length ≤ 8 := by
              have h1 := congrArg List.length HJ.out.dat
              simp at h1
              have := HI.out.many
              omega
            have hsz1 := HJ.out.bel.size
            have hsz2 := HQ.out.only.size
            go_wp2_with (at_builtin; refine app_rows rfl (.tmp 86) (.tmp 88) rfl w.heap.size _ l.length (gcs l) gA gn gc _ rfl HROW.out rfl ?_ (by omega) ?_ ?_)
            rotate_left 2
            · intro v2 w2 O5 G5
              have HJ2 := Lib.hid (HJ.out.push HQ.out (Only.refl wo.heap.size wx.heap.size wx) HG.out (Nat.le_refl _) ((Below.refl wx.heap.size wx).alloc (Nat.le_refl _) _) O5 G5)
              rw [← HN.out] at HJ2
              clear O5 G5 HROW
              go_wp2
              go_roundw
              case rel => exact ⟨k + 1, _, by omega, by go_num, HJ2⟩
              case measure => simp [intOf]; omega
            · exact (Blk.new _ _ _).cell 0
            · simp; omega
      · have HN : Hid (jAll ds (k + 1) = jAll ds k) := Lib.hid (by rw [HST.out, jStep, if_neg (by rw [hsk]; simp)])
        clear hsk
        go_wp2
        go_roundw
        case rel => exact ⟨k + 1, l, by omega, by go_num, by rw [HN.out]; exact HJ⟩
        case measure => simp [intOf]; omega
    · obtain rfl : k = n := by omega
      have HI := Lib.hid (jAll_inv ds k (by rw [HD.out]; omega))
      obtain ⟨D, d, hv, _, _⟩ := HJ.out.g.row.slice
      subst hv
      have HM : Hid (l.length ≤ 8) := Lib.hid (by
        have h1 := congrArg List.length HJ.out.dat
        simp at h1
        have := HI.out.many
        omega)
      go_wp2
      go_ret
      exact ⟨D, l.length, d, l, rfl, HJ.out.g, by rw [HJ.out.dat, HSP.out, HD.out, List.map_map]; rfl, HM.out, HJ.out.bel⟩
end Go.Proofs.Ytdhopagmbbflkaa
