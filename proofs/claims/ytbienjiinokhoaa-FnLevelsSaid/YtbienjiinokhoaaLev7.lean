/- FnLevels: levels are counted, the worst one is no less than others, a longest series is as long as told. -/
import Derived.Test.YtbienjiinokhoaaLev6
import Derived.Test.YtbienjiinokhoaaR8
import Derived.Test.YtbienjiinokhoaaR8a
import Derived.Test.YtbienjiinokhoaaOpenU
import Derived.Deep.DeepCutAuto
namespace Go.Proofs.Ytbienjiinokhoaa
open Go.ChangeShapes Go.WideShapes Go.ChangeAt Go.RowKit
set_option linter.unusedVariables false

set_option maxHeartbeats 8000000 in
set_option maxRecDepth 100000 in
theorem wLevels (w : World) (A : Option Addr) (n c : Nat) (bs : List Int) (ha : Bytes w w.heap.size A n bs) (_ : n ≤ 9223372036854775807) (D : Option Addr) (m d : Nat) (cs : List Int) (hd : Bytes w w.heap.size D m cs) (_ : m ≤ 9223372036854775807) :
    Calls Try.prog 6 #[.slice A n c, .slice D m d] w fun e w' => e = .returned (.bool true) ∧ Below w.heap.size w w' := by
  by_cases h20 : 1048576 < n ∨ 1048576 < m
  · clear ha hd
    have hl := r8Long_c A n c D m d w
    rw [decide_eq_true h20] at hl
    go_enter Try.func6, Try.ntmps6
    go_wp2_with fail
    refine hl.mono ?_
    rintro e w1 ⟨rfl, rfl⟩
    clear hl
    go_wp2
    go_ret
    exact ⟨rfl, Below.refl _ _⟩
  · have hl := r8Long_c A n c D m d w
    rw [decide_eq_false h20] at hl
    have HA := Lib.hid ha
    have HD := Lib.hid hd
    clear ha hd
    have T := Lib.hid (Below.refl w.heap.size w)
    go_enter Try.func6, Try.ntmps6
    go_wp2_with fail
    refine hl.mono ?_
    rintro e w1 ⟨rfl, rfl⟩
    clear hl
    go_wp2_with fail
    refine (R8Levels_c A n c bs w HA.out (by omega)).mono ?_
    rintro e w1 ⟨A1, n1, c1, zs, rfl, O1, hAll, hn1, B1⟩
    have hs1 := B1.size
    replace T := Lib.hid (T.out.trans (B1.mono T.out.size))
    replace O1 := Lib.hid O1
    have HL : Hid (zs.length = n1) := Lib.hid (by have := O1.out.1.1; simpa [ints] using this)
    have HZ : Hid (levelsCodeV zs = 0) := Lib.hid (by unfold levelsCodeV; rw [hAll, HL.out]; simp; omega)
    have HALL := Lib.hid hAll
    clear B1 hAll
    go_wp2_with fail
    refine (iCountLevels_c A1 n1 c1 _ zs w1 O1.out.reads (by omega) (by omega)).mono ?_
    rintro e w2 ⟨A2, n2, c2, rfl, hn2, O2, B2⟩
    have hs2 := B2.size
    replace T := Lib.hid (T.out.trans (B2.mono T.out.size))
    replace O1 := Lib.hid (O1.out.below B2 (by omega))
    replace O2 := Lib.hid O2
    clear B2
    go_wp2_with fail
    refine (iWorstLevel_c A1 n1 c1 _ zs w2 O1.out.reads (by omega) (by omega)).mono ?_
    rintro e w3 ⟨rfl, B3⟩
    have hs3 := B3.size
    replace T := Lib.hid (T.out.trans (B3.mono T.out.size))
    replace O1 := Lib.hid (O1.out.below B3 (by omega))
    replace O2 := Lib.hid (O2.out.below B3 (by omega))
    clear B3
    go_wp2_with fail
    refine (r8At_c D m d _ cs 0 5 w3 (HD.out.below T.out) (by omega) (by omega)).mono ?_
    rintro e w4 ⟨v, rfl, hv0, hv1, _, B4⟩
    have hs4 := B4.size
    replace T := Lib.hid (T.out.trans (B4.mono T.out.size))
    replace O1 := Lib.hid (O1.out.below B4 (by omega))
    replace O2 := Lib.hid (O2.out.below B4 (by omega))
    clear B4
    have hlev : inB (1 + v) 1 5 = true := inB_t (by omega) (by omega)
    have hv4 : v ≤ 4 := by omega
    obtain ⟨worst, at_, wc, first, many, cc, e1, e2, hwc, hcc, hfacts⟩ := levels_facts (1 + v) zs hlev HZ.out
    have E1 := Lib.hid e1
    have E2 := Lib.hid e2
    have HF := Lib.hid hfacts
    have hL := HL.out
    rw [hL] at hwc hcc
    clear e1 e2 hfacts hL hlev hv1
    go_wp2_with fail
    refine (iLongestHigh_c A1 n1 c1 _ zs (1 + v) w4 O1.out.reads (by omega) (by omega)).mono ?_
    rintro e w5 ⟨he, B5⟩
    have hs5 := B5.size
    replace T := Lib.hid (T.out.trans (B5.mono T.out.size))
    replace O1 := Lib.hid (O1.out.below B5 (by omega))
    replace O2 := Lib.hid (O2.out.below B5 (by omega))
    clear B5
    rw [E2.out] at he
    subst he
    rw [E1.out, HZ.out]
    have hc2 : n2 = 5 := by
      have := O2.out.1.1
      rw [if_pos HZ.out] at this
      simpa [ints, cnts] using this.symm
    subst hc2
    have O2' : Hid (Own w5 w1.heap.size w2.heap.size 2 1 (.slice A2 5 c2) 5 (ints (cnts zs))) := Lib.hid (by have := O2.out; rwa [if_pos HZ.out] at this)
    clear O2
    have hsA : w1.heap.size ≤ w5.heap.size := by omega
    have hT := T.out.size
    have hn100 : n1 ≤ 8 := hn1
    go_upto_region 8 with (fail)
    go_cut [60] (fun b wx => b = .bool false ∧ wx = w5)
    case first =>
      rcases hwc with ⟨rfl, hwn, hat0, hatn⟩ | ⟨rfl, hwn⟩
      · have d0 : decide (0 < (n1 : Int)) = true := by simp; omega
        go_wp2_with fail
        go_meet
        exact ⟨rfl, rfl⟩
      · subst hwn
        go_wp2_with fail
        go_meet
        exact ⟨rfl, rfl⟩
    case rest =>
      obtain ⟨rfl, hwx⟩ := hcut
      rw [hwx]
      clear hwx
      go_wp2_with (at_builtin; refine app_i64s rfl (.tmp 61) (.tmp 62) rfl w5.heap.size _ 0 [] (cnts zs) w2.heap.size A2 5 c2 rfl ?_ rfl ?_ (by omega) ?_ ?_)
      rotate_left 3
      · intro v6 w6 O6 B6 hs6
        have O6' := Own.of_owns O6 (Nat.le_refl _)
        obtain ⟨A6, c6, rfl, _, _⟩ := O6'.slice
        obtain ⟨g6, rfl, hg6, hg6', _⟩ := O6'.at_ (by omega)
        have O6'' : Hid (Own w6 w5.heap.size w6.heap.size 2 1 (.slice (some ⟨g6, 0, none⟩) 5 c6) 5 (ints (lefts zs 0))) := Lib.hid (by rw [lefts_zero]; simpa using O6')
        have B6' : Hid (Below w5.heap.size w5 w6) := Lib.hid ((Below.refl w5.heap.size w5).alloc (Nat.le_refl _) _ |>.trans B6)
        have hs6' : w5.heap.size ≤ w6.heap.size := B6'.out.size
        clear O6 O6' B6 hs6
        have HWC := Lib.hid hwc
        have HCC := Lib.hid hcc
        clear hwc hcc
        go_wp2
        go_loopw [15, 16, 18] (fun fo nw i wr => ∃ (k : Nat) (nz : Int) (f : Bool), k ≤ n1 ∧ i = .int .i64 k ∧ nw = .int .i64 nz ∧ fo = .bool f ∧ 0 ≤ nz ∧ nz ≤ k ∧ Hid ((lhFold (1 + v) (zs.take k)).now = nz) ∧ Hid (f = anyHigh (1 + v) (zs.take k)) ∧
          Hid (Own wr w5.heap.size w6.heap.size 2 1 (.slice (some ⟨g6, 0, none⟩) 5 c6) 5 (ints (lefts zs k))) ∧ Hid (Below w5.heap.size w5 wr)) (fun _ _ i _ => n1 - (intOf i).toNat)
        case atStart => exact ⟨0, 0, false, by omega, rfl, rfl, rfl, by omega, by omega, Lib.hid rfl, Lib.hid rfl, O6'', B6'⟩
        case round =>
          clear O6'' B6'
          obtain ⟨k, nz, f, hk, rfl, rfl, rfl, hz0, hzk0, HN, HFD, HO, HT⟩ := hrel
          by_cases hlt : k < n1
          · have O1r := O1.out.below HT.out (by omega)
            obtain ⟨ad, z, rfl, hbl, hzk, hc0⟩ := O1r.reads.int hlt
            have hzb := allIn_get HALL.out hzk
            obtain ⟨hzb1, hzb2⟩ := hzb
            obtain ⟨j, rfl⟩ : ∃ j : Nat, z = (j : Int) + 1 := ⟨(z - 1).toNat, by omega⟩
            have hcs : ∀ u, (wr.setCell ⟨g6, j, none⟩ u).cell? (ad.add k) = some (.int .i64 ((j : Int) + 1)) := fun u =>
              (World.cell?_setCell_other wr ⟨g6, j, none⟩ _ u (by intro e; have := congrArg Addr.block e; rw [block_of_add] at this; simp at this; omega)).trans hc0
            have hj5 : (j : Int) < 5 := by omega
            have ej : ((j : Int) + 1 - 1).toNat = j := by omega
            have hf := HF.out k _ hzk
            obtain ⟨hfw, hfa, hfb, hfc⟩ := hf
            have HZK := Lib.hid hzk
            obtain ⟨y, hy⟩ : ∃ y, y = (cnt ((j : Int) + 1) zs : Int) - cnt ((j : Int) + 1) (zs.take k) := ⟨_, rfl⟩
            have hcy : wr.cell? ⟨g6, j, none⟩ = some (.int .i64 y) := by
              rw [HO.out.1.cellAt _ (by omega), hy]
              simp only [ints, List.getElem?_map]
              have h := lefts_get (zs := zs) (k := k) hzb1 hzb2
              rw [ej] at h
              rw [h]; rfl
            have hfy := HO.out.1.frozenAt j
            have hyb : -100 ≤ y ∧ y ≤ 100 := by
              have h1 := cnt_le ((j : Int) + 1) zs; have h2 := cnt_le ((j : Int) + 1) (zs.take k); have h3 := List.length_take_le k zs; have := HL.out; omega
            obtain ⟨hyb1, hyb2⟩ := hyb
            have HYS : Hid ((lefts zs k).set j (y - 1) = lefts zs (k + 1)) := Lib.hid (by have h := lefts_set hzk hzb1 hzb2; rw [ej] at h; rw [hy]; exact h)
            have hnw : (lhFold (1 + v) (zs.take (k + 1))).now = if (j : Int) + 1 < 1 + v then 0 else nz + 1 := by
              rw [take_snoc' hzk, lhFold_snoc, lhStep, HN.out]
              split
              · rfl
              · split <;> rfl
            rw [hnw] at hfc
            have HNW := Lib.hid hnw
            have HFC := Lib.hid hfc
            have HFA := Lib.hid hfa
            have HFB := Lib.hid hfb
            obtain ⟨fx, hfx⟩ : ∃ b, b = (f || decide (1 + v ≤ (j : Int) + 1)) := ⟨_, rfl⟩
            have HFX : Hid (anyHigh (1 + v) (zs.take (k + 1)) = fx) := Lib.hid (by rw [take_snoc' HZK.out, anyHigh_snoc, ← HFD.out, hfx])
            have HFXD := Lib.hid hfx
            clear hfx
            have hkn : (k : Int) < (n1 : Int) := by omega
            have hk0 : (0 : Int) ≤ (k : Int) := by omega
            clear ej hzk hy hnw hfc hfa hfb O1r
            go_upto_region 17 with (fail)
            obtain ⟨W1, hW1⟩ : ∃ W, W = wr.setCell ⟨g6, j, none⟩ (.int .i64 (y - 1)) := ⟨_, rfl⟩
            rw [← hW1]
            have c1 : W1.cell? (ad.add k) = some (.int .i64 ((j : Int) + 1)) := by rw [hW1]; exact hcs _
            have HO1 : Hid (Own W1 w5.heap.size w6.heap.size 2 1 (.slice (some ⟨g6, 0, none⟩) 5 c6) 5 (ints (lefts zs (k + 1)))) := Lib.hid (by have h := (Own.stored (j := j) HO.out (.int .i64 (y - 1))).1; rw [ints_set, HYS.out] at h; rw [hW1]; exact h)
            have HT1 : Hid (Below w5.heap.size w5 W1) := Lib.hid (by rw [hW1]; exact HT.out.setCell (by omega) _)
            clear hW1 hcs hc0 hcy hfy HO HT
            go_cut [15] (fun b wx => b = .bool fx ∧ wx = W1)
            case first =>
              cases f
              · by_cases hzl : 1 + v ≤ (j : Int) + 1
                · have d0 : decide (1 + v ≤ (j : Int) + 1) = true := by simpa using hzl
                  rw [d0] at HFXD
                  go_wp2_with fail
                  go_meet
                  exact ⟨by rw [HFXD.out]; rfl, rfl⟩
                · have d0 : decide (1 + v ≤ (j : Int) + 1) = false := by simpa using hzl
                  rw [d0] at HFXD
                  go_wp2_with fail
                  go_meet
                  exact ⟨by rw [HFXD.out]; rfl, rfl⟩
              · rw [Bool.true_or] at HFXD
                go_wp2_with fail
                go_meet
                exact ⟨by rw [HFXD.out], rfl⟩
            case rest =>
              obtain ⟨rfl, hwx⟩ := hcut
              rw [hwx]
              clear hwx
              go_upto_region 18 with (fail)
              go_cut [120] (fun b wx => b = .bool false ∧ wx = W1)
              case first =>
                have d1 : decide (worst < (j : Int) + 1) = false := by simp; omega
                by_cases hka : (k : Int) = at_
                · have d2 : ((k : Int) == at_) = true := by simpa using hka
                  have d3 : ((j : Int) + 1 != worst) = false := by simpa using HFA.out hka
                  have d4 : decide ((k : Int) < at_) = false := by simp; omega
                  clear hka
                  go_wp2_with fail
                  go_meet
                  exact ⟨rfl, rfl⟩
                · have d2 : ((k : Int) == at_) = false := by simpa using hka
                  by_cases hkb : (k : Int) < at_
                  · have d4 : decide ((k : Int) < at_) = true := by simpa using hkb
                    have d3 : ((j : Int) + 1 == worst) = false := by simpa using HFB.out hkb
                    go_wp2_with fail
                    go_meet
                    exact ⟨rfl, rfl⟩
                  · have d4 : decide ((k : Int) < at_) = false := by simpa using hkb
                    go_wp2_with fail
                    go_meet
                    exact ⟨rfl, rfl⟩
              case rest =>
                obtain ⟨rfl, hwx⟩ := hcut
                rw [hwx]
                clear hwx
                by_cases hzl : (j : Int) + 1 < 1 + v
                all_goals
                  first | rw [if_pos hzl] at HFC HNW | rw [if_neg hzl] at HFC HNW
                  first | have dz : decide ((j : Int) + 1 < 1 + v) = true := by simpa using hzl
                        | have dz : decide ((j : Int) + 1 < 1 + v) = false := by simpa using hzl
                  go_upto_region 23 with (fail)
                  go_cut [155] (fun b wx => b = .bool false ∧ wx = W1)
                  case first =>
                    rcases HCC.out with ⟨rfl, hah, hm1, hf0, hfm⟩ | ⟨rfl, hah⟩
                    · obtain ⟨h1, h2⟩ := HFC.out rfl
                      have wf : IntKind.i64.wrap (first + many) = first + many := IntWalk.i64_in _ (by omega)
                      have d5 : ∀ q : Int, q ≤ many → decide (many < q) = false := fun q hq => by simp; omega
                      have d5' := d5 _ h1
                      by_cases hw1 : first ≤ (k : Int)
                      · have d6 : decide (first ≤ (k : Int)) = true := by simpa using hw1
                        by_cases hw2 : (k : Int) < first + many
                        · have d7 : decide ((k : Int) < first + many) = true := by simpa using hw2
                          have h3 := h2 hw1 hw2
                          first
                            | (exfalso; omega)
                            | (go_wp2_with fail
                               go_meet
                               exact ⟨rfl, rfl⟩)
                        · have d7 : decide ((k : Int) < first + many) = false := by simpa using hw2
                          go_wp2_with fail
                          go_meet
                          exact ⟨rfl, rfl⟩
                      · have d6 : decide (first ≤ (k : Int)) = false := by simpa using hw1
                        go_wp2_with fail
                        go_meet
                        exact ⟨rfl, rfl⟩
                    · go_wp2_with fail
                      go_meet
                      exact ⟨rfl, rfl⟩
                  case rest =>
                    obtain ⟨rfl, hwx⟩ := hcut
                    rw [hwx]
                    clear hwx
                    go_wp2
                    go_roundw
                    case rel => exact ⟨k + 1, _, _, by omega, by go_num, rfl, rfl, by omega, by omega, HNW, Lib.hid (by rw [HFX.out]), HO1, HT1⟩
                    case measure => simp [intOf]; omega
          · obtain rfl : k = n1 := by omega
            have HAll : Hid (lefts zs k = [0, 0, 0, 0, 0]) := Lib.hid (by
              have h := lefts_all zs
              rw [HL.out] at h
              have hl : (lefts zs k).length = 5 := rfl
              apply List.ext_getElem?
              intro j
              by_cases hj : j < 5
              · rw [h j hj]
                have h5 : j = 0 ∨ j = 1 ∨ j = 2 ∨ j = 3 ∨ j = 4 := by omega
                rcases h5 with rfl | rfl | rfl | rfl | rfl <;> rfl
              · rw [List.getElem?_eq_none (by omega), List.getElem?_eq_none (by simp; omega)])
            have HO' : Hid (Own wr w5.heap.size w6.heap.size 2 1 (.slice (some ⟨g6, 0, none⟩) 5 c6) 5 (ints [0, 0, 0, 0, 0])) := Lib.hid (by rw [← HAll.out]; exact HO.out)
            have z0 : wr.cell? ⟨g6, 0, none⟩ = some (.int .i64 0) := (HO'.out.1.cellAt 0 (by omega)).trans rfl
            have z1 : wr.cell? ⟨g6, 1, none⟩ = some (.int .i64 0) := (HO'.out.1.cellAt 1 (by omega)).trans rfl
            have z2 : wr.cell? ⟨g6, 2, none⟩ = some (.int .i64 0) := (HO'.out.1.cellAt 2 (by omega)).trans rfl
            have z3 : wr.cell? ⟨g6, 3, none⟩ = some (.int .i64 0) := (HO'.out.1.cellAt 3 (by omega)).trans rfl
            have z4 : wr.cell? ⟨g6, 4, none⟩ = some (.int .i64 0) := (HO'.out.1.cellAt 4 (by omega)).trans rfl
            have hfd : f = anyHigh (1 + v) zs := by have h1 := HFD.out; rw [List.take_of_length_le (by have := HL.out; omega)] at h1; exact h1
            generalize wr = w9 at *
            rcases HWC.out with ⟨rfl, hwn, hat0, hatn⟩ | ⟨rfl, hwn⟩ <;> rcases HCC.out with ⟨rfl, hah, hm1, hf0, hfm⟩ | ⟨rfl, hah⟩
            · rw [hah] at hfd
              subst hfd
              try (have d9 : decide (first ≤ (k : Int) - many) = true := by simp; omega)
              go_wp2
              go_rounds 6
              go_ret
              exact ⟨rfl, T.out.trans (HT.out.mono (by omega))⟩
            · rw [hah] at hfd
              subst hfd
              try (have d9 : decide (first ≤ (k : Int) - many) = true := by simp; omega)
              go_wp2
              go_rounds 6
              go_ret
              exact ⟨rfl, T.out.trans (HT.out.mono (by omega))⟩
            · exfalso; omega
            · rw [hah] at hfd
              subst hfd
              try (have d9 : decide (first ≤ (k : Int) - many) = true := by simp; omega)
              go_wp2
              go_rounds 6
              go_ret
              exact ⟨rfl, T.out.trans (HT.out.mono (by omega))⟩
      · have h := World.ownsRow_lit (w := w5) (base := w5.heap.size) (e := 2) (size := 1) #[] 0 (Nat.le_refl _) (by simp [maxLen]) (by simp)
        exact h
      · exact (O2'.out.reads).alloc (by omega) _
      · simp
namespace fnLevels
set_option maxRecDepth 100000 in
theorem lifted (os : Os) (started : os.Started) (H : Type) (enc : TypeId × Value → H) :
    ReturnsInHanded {} Try.checked os 6 .any (Rows.fnLevelsSpec.pre6 enc Try.prog Try.f6 Rows.fnLevelsRow.domain false) (Rows.fnLevelsSpec.post enc Try.prog Try.f6 false true false false) := by
  refine returnsInHanded_of_change (C := Try.checked) ownKnobNone started (by kernel_rfl) Try.func6
    (ChangeSpec.witness6 (enc := enc) (C := Try.checked) false ⟨#[], #[.slice none 0 0, .slice none 0 0], []⟩ 8 (by kernel_rfl) (by kernel_rfl) (by kernel_rfl) (by kernel_rfl)) ?_
  intro W base args ds gs before hval0 hW hcnd _
  have hval : ∀ (j : Nat) t v, Try.f6.params[j]? = some t → args[j]? = some v → Value.okWide Try.prog W .any base t v := hval0
  have hW' := hW
  obtain ⟨p, q, hA0, hV, rfl, hfz, hnd⟩ := hW
  have hA : DataW.TrodAll enc Try.prog W 0 (fun _ => true) true Try.f6.params.toList args.toList ds p := hA0
  rw [Try.params6] at hA hval
  obtain ⟨v0, vs0, d0, ds0, p0, q0, hargs, rfl, rfl, h0, r0⟩ := trodAll_cons hA
  obtain ⟨v1, vs1, d1, ds1, p1, q1, rfl, rfl, rfl, h1, r1⟩ := trodAll_cons r0
  obtain ⟨rfl, rfl, rfl⟩ := trodAll_nil r1
  obtain rfl : args = #[v0, v1] := by cases args; simp_all
  obtain ⟨rfl, rfl⟩ := trodVars_none hV
  have k0 := h0
  have lt0 : ∀ x ∈ p0, x.block < W.heap.size := by obtain ⟨m, hm⟩ := k0; exact DataW.trod_lt m _ _ _ hm
  have k1 := h1
  have lt1 : ∀ x ∈ p1, x.block < W.heap.size := by obtain ⟨m, hm⟩ := k1; exact DataW.trod_lt m _ _ _ hm
  obtain ⟨A0, n0, c0, z0, rfl, R0, -, -, wf0⟩ := open_u8s (hval 0 33 v0 rfl rfl) h0
  obtain ⟨A1, n1, c1, z1, rfl, R1, -, -, wf1⟩ := open_u8s (hval 1 33 v1 rfl rfl) h1
  clear hA0 hval0
  refine (wLevels W A0 n0 c0 z0 R0 wf0 A1 n1 c1 z1 R1 wf1).mono fun e W' ⟨he, bel⟩ => ?_
  subst he
  exact ⟨_, rfl, _, _, _, [], _, [], hW', trodAll_mk1 (shut_bool Try.underlying4 _), (trodAll_cons_mk (Below.trod laidOut (by kernel_rfl) (of_decide_eq_true (by kernel_rfl)) k0 bel lt0) (trodAll_cons_mk (Below.trod laidOut (by kernel_rfl) (of_decide_eq_true (by kernel_rfl)) k1 bel lt1) trodAll_mk0)), rfl, bel.frame _, fun h => by cases h⟩
theorem over : Rows.fnLevelsRow.holds Try.pinned (OpenSpec.ofChange Rows.fnLevelsSpec) :=
  OpenClaim.holds_of_wide 6 Try.f6 rfl rfl rfl rfl rfl rfl rfl ⟨rfl, rfl, rfl, rfl, rfl⟩ rfl rfl rfl rfl rfl (by kernel_rfl) Try.func6 (by kernel_rfl)
    (of_decide_eq_true (by kernel_rfl)) (by unfold Func.isWrapper; first | (rw [if_pos (by decide +kernel)]; kernel_rfl) | (rw [if_neg (by decide +kernel)]; exact ⟨rfl, rfl⟩))
    (fun os started H enc _ => lifted os started H enc)
theorem proved : Rows.FnLevelsSaid := over
end fnLevels
end Go.Proofs.Ytbienjiinokhoaa
