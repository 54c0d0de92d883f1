/- FnDanger: levels never fall when likelihood, extent or size grow; wider bounds are never less likely; changes are opposite to each other. -/
import Derived.Test.YtipchejcgbmpgaaDangP
import Derived.Test.YtipchejcgbmpgaaOpenU
namespace Go.Proofs.Ytipchejcgbmpgaa
open Go.ChangeShapes Go.WideShapes Go.ChangeAt Go.RowKit
set_option linter.unusedVariables false
set_option maxHeartbeats 8000000 in
set_option maxRecDepth 100000 in
theorem wDanger (w : World) (A : Option Addr) (n cp : Nat) (bs : List Int) (ha : Bytes w w.heap.size A n bs) (_ : n ≤ 9223372036854775807) (D : Option Addr) (m d : Nat) (cs : List Int) (hd : Bytes w w.heap.size D m cs) (_ : m ≤ 9223372036854775807) :
    Calls Try.prog 9 #[.slice A n cp, .slice D m d] w fun e w' => e = .returned (.bool true) ∧ Below w.heap.size w w' := by
  by_cases h20 : 1048576 < n ∨ 1048576 < m
  · clear ha hd
    have hl := r8Long_c A n cp D m d w
    rw [decide_eq_true h20] at hl
    go_enter Try.func9, Try.ntmps9
    go_wp2_with fail
    refine hl.mono ?_
    rintro e w1 ⟨rfl, rfl⟩
    clear hl
    go_wp2
    go_ret
    exact ⟨rfl, Below.refl _ _⟩
  · have hl := r8Long_c A n cp D m d w
    rw [decide_eq_false h20] at hl
    have HA := Lib.hid ha
    have HD := Lib.hid hd
    clear ha hd
    go_enter Try.func9, Try.ntmps9
    go_wp2_with fail
    refine hl.mono ?_
    rintro e w1 ⟨rfl, rfl⟩
    clear hl
    have T := Lib.hid (Below.refl w.heap.size w)
    go_wp2_with fail
    refine (r8At_c D m d _ cs 0 4 w (HD.out.below T.out) (by omega) (by omega)).mono ?_
    rintro e w1 ⟨v0, rfl, pv0, qv0, _, B1⟩
    have hs1 := B1.size
    replace T := Lib.hid (T.out.trans (B1.mono T.out.size))
    clear B1
    go_wp2_with fail
    refine (r8At_c D m d _ cs 1 3 w1 (HD.out.below T.out) (by omega) (by omega)).mono ?_
    rintro e w2 ⟨v1, rfl, pv1, qv1, _, B2⟩
    have hs2 := B2.size
    replace T := Lib.hid (T.out.trans (B2.mono T.out.size))
    clear B2
    go_wp2_with fail
    refine (r8At_c D m d _ cs 2 5 w2 (HD.out.below T.out) (by omega) (by omega)).mono ?_
    rintro e w3 ⟨v2, rfl, pv2, qv2, _, B3⟩
    have hs3 := B3.size
    replace T := Lib.hid (T.out.trans (B3.mono T.out.size))
    clear B3
    obtain ⟨a, ha⟩ : ∃ z : Int, z = 1 + v0 := ⟨_, rfl⟩
    have a1 : 1 ≤ a := by omega
    have a2 : a ≤ 4 := by omega
    obtain ⟨b, hb⟩ : ∃ z : Int, z = 1 + v1 := ⟨_, rfl⟩
    have b1 : 1 ≤ b := by omega
    have b2 : b ≤ 3 := by omega
    obtain ⟨c, hc⟩ : ∃ z : Int, z = 1 + v2 := ⟨_, rfl⟩
    have c1 : 1 ≤ c := by omega
    have c2 : c ≤ 5 := by omega
    go_wp2_with fail
    rw [← ha]
    rw [← hb]
    rw [← hc]
    clear ha hb hc pv0 qv0 pv1 qv1 pv2 qv2
    refine (iDanger_ok a b c _ a1 a2 b1 b2 c1 c2).mono ?_
    rintro e w' ⟨rfl, rfl⟩
    have hM := Lib.hid (fun a b c => dangerV_mono a b c)
    have hL := dangerV_bd a b c
    obtain ⟨hL1, hL2⟩ := hL
    have M1 : dangerV a b c ≤ dangerV (if a + 1 < 4 then a + 1 else 4) b c := hM.out _ _ _ _ _ _ (by omega) (by omega) (by omega)
    have M2 : dangerV a b c ≤ dangerV a (if b + 1 < 3 then b + 1 else 3) c := hM.out _ _ _ _ _ _ (by omega) (by omega) (by omega)
    have M3 : dangerV a b c ≤ dangerV a b (if c + 1 < 5 then c + 1 else 5) := hM.out _ _ _ _ _ _ (by omega) (by omega) (by omega)
    obtain ⟨lv, hlv⟩ : ∃ z : Int, z = dangerV a b c := ⟨_, rfl⟩
    rw [← hlv] at M1 M2 M3 hL1 hL2 ⊢
    have HLV := Lib.hid hlv; clear hlv
    have N1 : decide (dangerV (if a + 1 < 4 then a + 1 else 4) b c < lv) = false := by simp; omega
    have N2 : decide (dangerV a (if b + 1 < 3 then b + 1 else 3) c < lv) = false := by simp; omega
    have N3 : decide (dangerV a b (if c + 1 < 5 then c + 1 else 5) < lv) = false := by simp; omega
    go_wp2_with fail
    refine (iLevelName_ne lv w3 hL1 hL2).mono ?_
    rintro e w4 ⟨str, rfl, hs1, hs2, B4⟩
    have hs4 := B4.size
    replace T := Lib.hid (T.out.trans (B4.mono T.out.size))
    clear B4
    go_wp2
    clear hs1 hs2
    go_loop [10] (fun i => LoopK 3 i) (fun i => 3 - (intOf i).toNat)
    case atStart => exact ⟨0, by omega, rfl⟩
    case round =>
      obtain ⟨k, hk, rfl⟩ := hrel
      by_cases hlt : k < 3
      · have hk3 : k = 0 ∨ k = 1 ∨ k = 2 := by omega
        rcases hk3 with rfl | rfl | rfl
        · go_wp2_with (go_at_call 29; refine (iDanger_ok _ _ _ _ (by omega) (by omega) (by omega) (by omega) (by omega) (by omega)).mono ?_; rintro e w' ⟨rfl, rfl⟩)
          all_goals first
            | (exfalso; omega)
            | (go_round
               case rel => exact ⟨1, by omega, rfl⟩
               case measure => simp [intOf])
        · go_wp2_with (go_at_call 29; refine (iDanger_ok _ _ _ _ (by omega) (by omega) (by omega) (by omega) (by omega) (by omega)).mono ?_; rintro e w' ⟨rfl, rfl⟩)
          all_goals first
            | (exfalso; omega)
            | (go_round
               case rel => exact ⟨2, by omega, rfl⟩
               case measure => simp [intOf])
        · go_wp2_with (go_at_call 29; refine (iDanger_ok _ _ _ _ (by omega) (by omega) (by omega) (by omega) (by omega) (by omega)).mono ?_; rintro e w' ⟨rfl, rfl⟩)
          all_goals first
            | (exfalso; omega)
            | (go_round
               case rel => exact ⟨3, by omega, rfl⟩
               case measure => simp [intOf])
      · obtain rfl : k = 3 := by omega
        clear M1 M2 M3 N1 N2 N3 hk hlt
        go_wp2_with fail
        refine (r8At_c D m d _ cs 3 200 w4 (HD.out.below T.out) (by omega) (by omega)).mono ?_
        rintro e w5 ⟨v3, rfl, pv3, qv3, _, B5⟩
        have hs5 := B5.size
        replace T := Lib.hid (T.out.trans (B5.mono T.out.size))
        clear B5
        go_wp2_with fail
        refine (r8At_c D m d _ cs 4 100 w5 (HD.out.below T.out) (by omega) (by omega)).mono ?_
        rintro e w6 ⟨v4, rfl, pv4, qv4, _, B6⟩
        have hs6 := B6.size
        replace T := Lib.hid (T.out.trans (B6.mono T.out.size))
        clear B6
        have l1 : 0 ≤ 10 * v3 := by omega
        have l2 : 10 * v3 ≤ 1990 := by omega
        have l3 : 10 * v4 ≤ 990 := by omega
        have l4 : 0 ≤ 10 * v4 := by omega
        have F1 := likeV_shift (10 * v3) (10 * v3 + 10 * v4)
        have F2 := likeV_bd (10 * v3) (10 * v3 + 10 * v4)
        go_wp2_with fail
        refine (iLikely_ok _ _ _ (by omega) (by omega) (by omega)).mono ?_
        rintro e w' ⟨rfl, rfl⟩
        go_wp2_with fail
        refine (iLikely_ok _ _ _ (by omega) (by omega) (by omega)).mono ?_
        rintro e w' ⟨rfl, rfl⟩
        obtain ⟨k1, hk1⟩ : ∃ z : Int, z = likeV (10 * v3) (10 * v3 + 10 * v4) := ⟨_, rfl⟩
        obtain ⟨k2, hk2⟩ : ∃ z : Int, z = likeV (10 * v3 + 10) (10 * v3 + 10 * v4 + 10) := ⟨_, rfl⟩
        rw [← hk1, ← hk2] at F1 ⊢
        rw [← hk1] at F2
        clear hk1 hk2
        have G1 : decide (k1 < k2) = false := by simp; omega
        have G2 : decide (k1 < 1) = false := by simp; omega
        have G3 : decide (4 < k1) = false := by simp; omega
        go_wp2_with fail
        refine (r8Wide_c D m d _ cs 5 30000 w6 (HD.out.below T.out) T.out.size (by omega) (by omega) (by omega)).mono ?_
        rintro e w7 ⟨sm, rfl, psm, qsm, B7⟩
        have hs7 := B7.size
        replace T := Lib.hid (T.out.trans (B7.mono T.out.size))
        clear B7
        go_wp2_with fail
        refine (iSize_ok _ _ (by omega) (by omega)).mono ?_
        rintro e w' ⟨rfl, rfl⟩
        go_wp2_with fail
        refine (r8Wide_c D m d _ cs 7 30000 w7 (HD.out.below T.out) T.out.size (by omega) (by omega) (by omega)).mono ?_
        rintro e w8 ⟨sg, rfl, psg, qsg, B8⟩
        have hs8 := B8.size
        replace T := Lib.hid (T.out.trans (B8.mono T.out.size))
        clear B8
        go_wp2_with fail
        refine (iSize_ok _ _ (by omega) (by omega)).mono ?_
        rintro e w' ⟨rfl, rfl⟩
        have F3 := sizeV_mono (show sm ≤ sm + 1 + sg by omega)
        have F4 := sizeV_bd sm
        obtain ⟨z1, hz1⟩ : ∃ z : Int, z = sizeV sm := ⟨_, rfl⟩
        obtain ⟨z2, hz2⟩ : ∃ z : Int, z = sizeV (sm + 1 + sg) := ⟨_, rfl⟩
        rw [← hz1, ← hz2] at F3 ⊢
        rw [← hz1] at F4
        clear hz1 hz2
        have G4 : decide (z2 < z1) = false := by simp; omega
        have G5 : decide (z1 < 1) = false := by simp; omega
        go_wp2_with fail
        refine (r8At_c D m d _ cs 9 20 w8 (HD.out.below T.out) (by omega) (by omega)).mono ?_
        rintro e w9 ⟨v5, rfl, pv5, qv5, _, B9⟩
        have hs9 := B9.size
        replace T := Lib.hid (T.out.trans (B9.mono T.out.size))
        clear B9
        have l5 : 0 ≤ v5 := by omega
        have l6 : v5 ≤ 19 := by omega
        go_wp2_with fail
        refine (r8At_c D m d _ cs 10 (1 + v5 + 1) w9 (HD.out.below T.out) (by omega) (by omega)).mono ?_
        rintro e w10 ⟨v6, rfl, pv6, qv6, _, B10⟩
        have hs10 := B10.size
        replace T := Lib.hid (T.out.trans (B10.mono T.out.size))
        clear B10
        have l7 : v6 ≤ 1 + v5 := by omega
        go_wp2_with fail
        refine (iExtent_ok _ _ _ (by omega) (by omega) (by omega) (by omega)).mono ?_
        rintro e w' ⟨rfl, rfl⟩
        have F5 := extentV_bd v6 (1 + v5)
        have F6 := extentV_iff v6 (1 + v5)
        obtain ⟨x1, hx1⟩ : ∃ z : Int, z = extentV v6 (1 + v5) := ⟨_, rfl⟩
        rw [← hx1] at F5 F6 ⊢
        clear hx1
        obtain ⟨F6a, F6b, F6c⟩ := F6
        have G6 : decide (x1 < 1) = false := by simp; omega
        have G7 : decide (3 < x1) = false := by simp; omega
        go_wp2_with fail
        refine (r8At_c D m d _ cs 11 5 w10 (HD.out.below T.out) (by omega) (by omega)).mono ?_
        rintro e w11 ⟨v7, rfl, pv7, qv7, _, B11⟩
        have hs11 := B11.size
        replace T := Lib.hid (T.out.trans (B11.mono T.out.size))
        clear B11
        have l8 : 0 ≤ v7 := by omega
        have l9 : v7 ≤ 4 := by omega
        go_wp2_with fail
        refine (iChange_ok (1 + v7) lv _ (by omega) (by omega) hL1 hL2).mono ?_
        rintro e w' ⟨rfl, rfl⟩
        go_wp2_with fail
        refine (iChange_ok lv (1 + v7) _ hL1 hL2 (by omega) (by omega)).mono ?_
        rintro e w' ⟨rfl, rfl⟩
        have F7 := cmpV_neg lv (1 + v7)
        have F8 := cmpV_pos lv (1 + v7)
        have F9 := cmpV_bd lv (1 + v7)
        rw [F7]
        clear F7
        obtain ⟨u1, hu1⟩ : ∃ z : Int, z = cmpV lv (1 + v7) := ⟨_, rfl⟩
        rw [← hu1] at F8 F9 ⊢
        clear hu1
        go_wp2_with fail
        refine (R8Profile_c A n cp bs w11 (HA.out.belowSelf T.out) (by omega)).mono ?_
        rintro e w12 ⟨A1, n1, c1, ls, rfl, O1, hpro, hn1, hnc1, B12⟩
        have hs12 := B12.size
        replace T := Lib.hid (T.out.trans (B12.mono T.out.size))
        replace O1 := Lib.hid O1
        clear B12
        have HPRO := Lib.hid hpro; clear hpro
        have HLL : Hid (ls.length = n1) := Lib.hid O1.out.reads.layLen
        go_wp2_with fail
        refine (r8At_c A n cp _ bs 50 100 w12 (HA.out.below T.out) (by omega) (by omega)).mono ?_
        rintro e w13 ⟨v8, rfl, p8, q8, _, B13⟩
        have hs13 := B13.size
        replace T := Lib.hid (T.out.trans (B13.mono T.out.size))
        replace O1 := Lib.hid (O1.out.below B13 (by omega))
        clear B13
        go_wp2_with fail
        refine (r8At_c A n cp _ bs 51 100 w13 (HA.out.below T.out) (by omega) (by omega)).mono ?_
        rintro e w14 ⟨v9, rfl, p9, q9, _, B14⟩
        have hs14 := B14.size
        replace T := Lib.hid (T.out.trans (B14.mono T.out.size))
        replace O1 := Lib.hid (O1.out.below B14 (by omega))
        clear B14
        have hR : Hid (Reads (w14.alloc (.cells #[.int .i64 v8, .int .i64 v9] 2)) (w14.heap.size + 1) 1 (some ⟨w14.heap.size, 0, none⟩) 2 (ints [v8, v9])) := Lib.hid (reads_lit2 _ _ _)
        obtain ⟨X, hX⟩ : ∃ X, X = w14.alloc (.cells #[.int .i64 v8, .int .i64 v9] 2) := ⟨_, rfl⟩
        have TX : Hid (Below w.heap.size w X) := Lib.hid (by rw [hX]; exact T.out.alloc T.out.size _)
        have hXs : X.heap.size = w14.heap.size + 1 := by rw [hX]; simp
        have OX : Hid (Own X _ _ 52 7 (.slice A1 n1 c1) n1 (lays ls)) := Lib.hid (by rw [hX]; exact O1.out.below ((Below.refl _ _).alloc (Nat.le_refl _) _) (by omega))
        rw [← hX] at hR
        go_wp2_with fail
        rw [← hX]
        clear hX T O1
        refine (iLevelOfSlopes_c A1 n1 c1 _ ls _ 2 2 _ [v8, v9] 100 200 sm X OX.out.reads (by omega) (by omega) hnc1 hR.out (by omega) (by omega)).mono ?_
        rintro e X1 ⟨rfl, BX⟩
        have hXs1 := BX.size
        have TX1 := Lib.hid (TX.out.trans (BX.mono TX.out.size))
        have OX1 := Lib.hid (OX.out.below BX (by omega))
        have hR1 := Lib.hid (hR.out.below (BX.mono (by omega)))
        clear BX TX OX hR
        have HLQ := Lib.hid (lvlV_two ls v8 v9 sm HPRO.out (by omega) (by omega) (by omega) (by omega) (by omega) (by omega))
        go_wp2_with fail
        refine (iLevelOfSlopes_c A1 n1 c1 _ ls _ 2 2 _ [v8, v9] 100 200 (sm + 30000) X1 OX1.out.reads (by omega) (by omega) hnc1 hR1.out (by omega) (by omega)).mono ?_
        rintro e X2 ⟨rfl, BX2⟩
        have TX2 := Lib.hid (TX1.out.trans (BX2.mono TX1.out.size))
        clear BX2 TX1 OX1 hR1 hXs hXs1
        have HLQ2 := HLQ.out
        rw [HLL.out] at HLQ2
        rcases HLQ2 with ⟨hn0, e1, e2⟩ | ⟨hn0, t1, t2, e1, e2, ht1, ht2, ht3⟩
        · rw [e1, e2]
          clear e1 e2 HLQ
          subst hn0
          go_wp2
          go_ret
          exact ⟨rfl, TX2.out⟩
        · rw [e1, e2]
          clear e1 e2 HLQ
          have hn1p : 0 < n1 := by omega
          go_wp2
          go_ret
          exact ⟨rfl, TX2.out⟩
namespace fnDanger
set_option maxRecDepth 100000 in
theorem lifted (os : Os) (started : os.Started) (H : Type) (enc : TypeId × Value → H) :
    ReturnsInHanded {} Try.checked os 9 .any (Rows.fnDangerSpec.pre6 enc Try.prog Try.f9 Rows.fnDangerRow.domain false) (Rows.fnDangerSpec.post enc Try.prog Try.f9 false true false false) := by
  refine returnsInHanded_of_change (C := Try.checked) ownKnobNone started (by kernel_rfl) Try.func9
    (ChangeSpec.witness6 (enc := enc) (C := Try.checked) false ⟨#[], #[.slice none 0 0, .slice none 0 0], []⟩ 8 (by kernel_rfl) (by kernel_rfl) (by kernel_rfl) (by kernel_rfl)) ?_
  intro W base args ds gs before hval0 hW hcnd _
  have hval : ∀ (j : Nat) t v, Try.f9.params[j]? = some t → args[j]? = some v → Value.okWide Try.prog W .any base t v := hval0
  have hW' := hW
  obtain ⟨p, q, hA0, hV, rfl, hfz, hnd⟩ := hW
  have hA : DataW.TrodAll enc Try.prog W 0 (fun _ => true) true Try.f9.params.toList args.toList ds p := hA0
  rw [Try.params9] at hA hval
  obtain ⟨v0, vs0, d0, ds0, p0, q0, hargs, rfl, rfl, h0, r0⟩ := trodAll_cons hA
  obtain ⟨v1, vs1, d1, ds1, p1, q1, rfl, rfl, rfl, h1, r1⟩ := trodAll_cons r0
  obtain ⟨rfl, rfl, rfl⟩ := trodAll_nil r1
  obtain rfl : args = #[v0, v1] := by cases args; simp_all
  obtain ⟨rfl, rfl⟩ := trodVars_none hV
  have k0 := h0
  have lt0 : ∀ x ∈ p0, x.block < W.heap.size := by obtain ⟨m, hm⟩ := k0; exact DataW.trod_lt m _ _ _ hm
  have k1 := h1
  have lt1 : ∀ x ∈ p1, x.block < W.heap.size := by obtain ⟨m, hm⟩ := k1; exact DataW.trod_lt m _ _ _ hm
  obtain ⟨A0, n0, c0, z0, rfl, R0, -, -, wf0⟩ := open_u8s (hval 0 40 v0 rfl rfl) h0
  obtain ⟨A1, n1, c1, z1, rfl, R1, -, -, wf1⟩ := open_u8s (hval 1 40 v1 rfl rfl) h1
  clear hA0 hval0
  refine (wDanger W A0 n0 c0 z0 R0 wf0 A1 n1 c1 z1 R1 wf1).mono fun e W' ⟨he, bel⟩ => ?_
  subst he
  exact ⟨_, rfl, _, _, _, [], _, [], hW', trodAll_mk1 (shut_bool Try.underlying4 _), (trodAll_cons_mk (Below.trod laidOut (by kernel_rfl) (of_decide_eq_true (by kernel_rfl)) k0 bel lt0) (trodAll_cons_mk (Below.trod laidOut (by kernel_rfl) (of_decide_eq_true (by kernel_rfl)) k1 bel lt1) trodAll_mk0)), rfl, bel.frame _, fun h => by cases h⟩
theorem over : Rows.fnDangerRow.holds Try.pinned (OpenSpec.ofChange Rows.fnDangerSpec) :=
  OpenClaim.holds_of_wide 9 Try.f9 rfl rfl rfl rfl rfl rfl rfl ⟨rfl, rfl, rfl, rfl, rfl⟩ rfl rfl rfl rfl rfl (by kernel_rfl) Try.func9 (by kernel_rfl)
    (of_decide_eq_true (by kernel_rfl)) (by unfold Func.isWrapper; first | (rw [if_pos (by decide +kernel)]; kernel_rfl) | (rw [if_neg (by decide +kernel)]; exact ⟨rfl, rfl⟩))
    (fun os started H enc _ => lifted os started H enc)
theorem proved : Rows.FnDangerSaid := over
end fnDanger
end Go.Proofs.Ytipchejcgbmpgaa
