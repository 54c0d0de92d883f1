/- LevelOfSlopes by the reference. -/
import Derived.Test.YtipchejcgbmpgaaLayN
namespace Go.Proofs.Ytipchejcgbmpgaa
open Go.ChangeShapes Go.WideShapes Go.ChangeAt Go.RowKit
set_option linter.unusedVariables false

theorem okR_all {run d t : Int} {rs : List Int} : (0 :: rs).all (okR run d t) = (rs.all (fun z => inB z 0 1000) && slopeB 0 run && doubtB d && inB t 0 1000000) := by
  have h0 : ∀ z, okR run d t z = (inB z 0 1000 && (inB run 1 1000 && doubtB d && inB t 0 1000000)) := fun z => by simp only [okR, slopeB, Bool.and_assoc]
  have h1 : slopeB 0 run = inB run 1 1000 := by simp [slopeB, inB]
  rw [List.all_cons, h0, h1, show inB 0 0 1000 = true from rfl]
  induction rs with
  | nil => simp
  | cons x l ih =>
    rw [List.all_cons, List.all_cons, h0 x]
    revert ih
    generalize l.all (okR run d t) = u
    generalize (l.all fun z => inB z 0 1000) = v
    cases u <;> cases v <;> cases inB x 0 1000 <;> cases inB run 1 1000 <;> cases doubtB d <;> cases inB t 0 1000000 <;> simp
set_option maxHeartbeats 4000000 in
theorem sLevelOfSlopes_c (A : Option Addr) (n c BA : Nat) (ls : List Lay) (D : Option Addr) (m e BD : Nat) (rs : List Int) (run d t : Int) (w : World) (ha : Reads w BA 7 A n (lays ls)) (hB : BA ≤ w.heap.size) (hn : n ≤ 1048576) (hnc : n ≤ c)
    (hd : Reads w BD 1 D m (ints rs)) (hBD : BD ≤ w.heap.size) (hm : m ≤ 1048576) :
    Calls Try.prog 23 #[.slice A n c, .slice D m e, .int .i64 run, .int .i64 d, .int .i64 t] w fun en w' => en = .returned (.tuple #[.int .i64 (lvlV ls rs run d t).1, .int .i64 (lvlV ls rs run d t).2]) ∧ Below w.heap.size w w' := by
  have HO := Lib.hid (l03Ok_c A n c BA ls w ha (by omega))
  have HR := Lib.hid ha
  have HD := Lib.hid hd
  have HLN := Lib.hid ha.layLen
  have HLM := Lib.hid hd.len
  clear ha hd
  cases hp : proB ls
  · have HP := Lib.hid hp; clear hp
    go_enter Try.func23, Try.ntmps23
    go_wp2_with fail
    refine HO.out.mono ?_
    rintro en w' ⟨rfl, rfl⟩
    rw [HP.out]
    go_wp2
    go_ret2
    exact ⟨ret2 (by rw [lvlV, if_pos HP.out]) (by rw [lvlV, if_pos HP.out]), Below.refl _ _⟩
  · have HP := Lib.hid hp; clear hp
    have HV : Hid (lvlV ls rs run d t = if (rs.all (fun z => inB z 0 1000) && slopeB 0 run && doubtB d && inB t 0 1000000) = false then (0, 2) else if rs.length < 1 ∨ 64 < rs.length then (0, 7) else if ls.length = 0 then (0, 3) else (dangerV (maxI (likeR ls run d) 1 rs) (extentV (sumI (unstR ls run d) rs) rs.length) (sizeV t), 0)) := Lib.hid (by rw [lvlV, if_neg (by simp [HP.out]), okR_all])
    go_enter Try.func23, Try.ntmps23
    go_wp2_with fail
    refine HO.out.mono ?_
    rintro en w' ⟨rfl, rfl⟩
    rw [HP.out]
    clear HO
    go_wp2
    go_loopw [12] (fun i wr => ∃ k : Nat, k ≤ m ∧ i = .int .i64 k ∧ Hid ((rs.take k).all (fun z => inB z 0 1000) = true) ∧ w = wr) (fun i _ => m - (intOf i).toNat)
    case atStart => exact ⟨0, Nat.zero_le _, rfl, Lib.hid rfl, rfl⟩
    case round =>
      obtain ⟨k, hk, rfl, HA, rfl⟩ := hrel
      by_cases hlt : k < m
      · obtain ⟨ad, z, rfl, hbl, hz, hc⟩ := HD.out.int hlt
        have HZ := Lib.hid hz
        clear hz
        cases h1 : inB z 0 1000
        · have H1 := Lib.hid h1
          clear h1
          go_wp2_with fail
          refine (l00In_c _ _ _ _).mono ?_
          rintro en w' ⟨rfl, rfl⟩
          rw [H1.out]
          go_wp2
          go_ret2
          have hv : lvlV ls rs run d t = (0, 2) := by
            have : rs.all (fun z => inB z 0 1000) = false := List.all_eq_false.2 ⟨z, List.mem_of_getElem? HZ.out, by simp [H1.out]⟩
            rw [HV.out, this]; rfl
          exact ⟨ret2 (by rw [hv]) (by rw [hv]), Below.refl _ _⟩
        · have H1 := Lib.hid h1
          clear h1
          go_wp2_with fail
          refine (l00In_c _ _ _ _).mono ?_
          rintro en w' ⟨rfl, rfl⟩
          rw [H1.out]
          go_wp2
          go_roundw
          case rel => exact ⟨k + 1, by omega, by go_num, Lib.hid (by rw [List.take_add_one, HZ.out, List.all_append, HA.out]; simp [H1.out]), by first | trivial | rfl⟩
          case measure => simp [intOf]; omega
      · have hge : ¬ (k : Int) < (m : Int) := by omega
        have hall : rs.all (fun z => inB z 0 1000) = true := by
          have h := HA.out
          rwa [List.take_of_length_le (by have := HLM.out; omega)] at h
        obtain ⟨kz, hkz⟩ : ∃ kz : Int, kz = (k : Int) := ⟨_, rfl⟩
        rw [← hkz] at hge ⊢
        clear hkz
        rw [hall] at HV
        have HALL := Lib.hid hall
        clear hall HA hk hlt
        cases h1 : slopeB 0 run <;> cases h2 : doubtB d <;> cases h3 : inB t 0 1000000
        rotate_right 1
        · have H1 := Lib.hid h1
          have H2 := Lib.hid h2
          have HV2 : Hid (lvlV ls rs run d t = if rs.length < 1 ∨ 64 < rs.length then (0, 7) else if ls.length = 0 then (0, 3) else (dangerV (maxI (likeR ls run d) 1 rs) (extentV (sumI (unstR ls run d) rs) rs.length) (sizeV t), 0)) := Lib.hid (by rw [HV.out, h1, h2, h3]; rfl)
          clear HV
          by_cases hm7 : m < 1 ∨ 64 < m
          · have hv : Hid (lvlV ls rs run d t = (0, 7)) := Lib.hid (by rw [HV2.out, HLM.out, if_pos hm7])
            have hb : inB (m : Int) 1 64 = false := inB_f (by omega)
            go_wp2_with (first | (go_at_call 53; refine (l07Slope_c _ _ _).mono ?_; rintro e w' ⟨rfl, rfl⟩) | (go_at_call 54; refine (l07Doubt_c _ _).mono ?_; rintro e w' ⟨rfl, rfl⟩) | (go_at_call 55; refine (l17Tonnes_c _ _).mono ?_; rintro e w' ⟨rfl, rfl⟩) | (go_at_call 52; refine (l00In_c _ _ _ _).mono ?_; rintro e w' ⟨rfl, rfl⟩))
            go_ret2
            exact ⟨ret2 (by rw [hv.out]) (by rw [hv.out]), Below.refl _ _⟩
          · have hm1 : 1 ≤ m := by omega
            have hm64 : m ≤ 64 := by omega
            have hb : inB (m : Int) 1 64 = true := inB_t (by omega) (by omega)
            by_cases hn0 : n = 0
            · have hv : Hid (lvlV ls rs run d t = (0, 3)) := Lib.hid (by rw [HV2.out, HLM.out, HLN.out, if_neg hm7, if_pos hn0])
              subst hn0
              clear hm7
              go_wp2_with (first | (go_at_call 53; refine (l07Slope_c _ _ _).mono ?_; rintro e w' ⟨rfl, rfl⟩) | (go_at_call 54; refine (l07Doubt_c _ _).mono ?_; rintro e w' ⟨rfl, rfl⟩) | (go_at_call 55; refine (l17Tonnes_c _ _).mono ?_; rintro e w' ⟨rfl, rfl⟩) | (go_at_call 52; refine (l00In_c _ _ _ _).mono ?_; rintro e w' ⟨rfl, rfl⟩))
              go_ret2
              exact ⟨ret2 (by rw [hv.out]) (by rw [hv.out]), Below.refl _ _⟩
            · have hv : Hid (lvlV ls rs run d t = (dangerV (maxI (likeR ls run d) 1 rs) (extentV (sumI (unstR ls run d) rs) m) (sizeV t), 0)) := Lib.hid (by
                rw [HV2.out, HLM.out, HLN.out, if_neg hm7, if_neg hn0])
              have hn1 : 0 < n := by omega
              have hbd := Lib.hid (unst_bd ls run d)
              have hmx := Lib.hid fun l => maxI_bd (likeR ls run d) 4 (fun x => by have := likeV_bd (weakV ls 0 x run d).2 (idxHi ls 0 x run d (weakV ls 0 x run d).1.toNat); unfold likeR; omega) l 1 (by omega) (by omega)
              have hsv := sizeV_bd t
              have hev := extentV_bd (sumI (unstR ls run d) rs) m
              have bb3 : ((n : Int) == 0) = false := by simp; omega
              clear hm7 HV2
              go_wp2_with (first | (go_at_call 53; refine (l07Slope_c _ _ _).mono ?_; rintro e w' ⟨rfl, rfl⟩) | (go_at_call 54; refine (l07Doubt_c _ _).mono ?_; rintro e w' ⟨rfl, rfl⟩) | (go_at_call 55; refine (l17Tonnes_c _ _).mono ?_; rintro e w' ⟨rfl, rfl⟩) | (go_at_call 52; refine (l00In_c _ _ _ _).mono ?_; rintro e w' ⟨rfl, rfl⟩))
              clear bb3 hb h1 h2 h3
              go_loopw [13, 14, 15] (fun a b i wr => ∃ k : Nat, k ≤ m ∧ i = .int .i64 k ∧ a = .int .i64 (maxI (likeR ls run d) 1 (rs.take k)) ∧ b = .int .i64 (sumI (unstR ls run d) (rs.take k)) ∧ Hid (Below w.heap.size w wr)) (fun _ _ i _ => m - (intOf i).toNat)
              case atStart => exact ⟨0, Nat.zero_le _, rfl, rfl, rfl, Lib.hid (Below.refl _ _)⟩
              case round =>
                obtain ⟨k, hk, rfl, rfl, rfl, HT⟩ := hrel
                by_cases hlt : k < m
                · obtain ⟨ad, r, rfl, hbl, hr, hc⟩ := (HD.out.below (HT.out.mono hBD)).int hlt
                  have hok := okR_get (zs := rs) (k := k) (run := run) (d := d) (t := 0) (by
                    have h := okR_all (rs := rs) (run := run) (d := d) (t := 0)
                    rw [HALL.out, H1.out, H2.out] at h
                    simp only [List.all_cons] at h
                    rw [show inB 0 0 1000000 = true from rfl] at h
                    simp at h
                    simpa using h.2) hr
                  simp only [okR, Bool.and_eq_true] at hok
                  obtain ⟨⟨ok1, ok2⟩, -⟩ := hok
                  have HG := Lib.hid (args_of (more := 0) (by omega) (by omega) ok1 ok2)
                  obtain ⟨j, hj, hw⟩ := weakV_some (ls := ls) (r := r) (run := run) (d := d) (by rw [HLN.out]; omega)
                  have hwf : weakF (idxLo ls 0 r run d) 0 n = ((j : Int), idxLo ls 0 r run d j) := by
                    rw [← hw, weakV, HLN.out]; exact weakF_init _ _ _ n hn1
                  rw [HLN.out] at hj
                  have HMX := Lib.hid (maxI_take (likeR ls run d) 1 hr)
                  have HSM := Lib.hid (sumI_take (unstR ls run d) hr)
                  have HLK : Hid (likeR ls run d r = likeV (idxLo ls 0 r run d j) (idxHi ls 0 r run d j)) := Lib.hid (by rw [likeR, hw, Int.toNat_natCast])
                  have HUN : Hid (unstR ls run d r = if idxLo ls 0 r run d j < 1000 then 1 else 0) := Lib.hid (by rw [unstR, hw])
                  have hx := hmx.out (rs.take k)
                  have hy := hbd.out (rs.take k)
                  have hy2 : (rs.take k).length ≤ m := by rw [List.length_take, HLM.out]; omega
                  have hsT := HT.out.size
                  have HWK := Lib.hid fun W (hW : Below w.heap.size w W) => l07Weakest_c A n c BA ls 0 r run d W (HR.out.below (hW.mono hB)) (by have := hW.size; omega) hnc HP.out HG.out
                  have HIX := Lib.hid fun W (hW : Below w.heap.size w W) => l07Index_c A n c BA j ls 0 r run d W (HR.out.below (hW.mono hB)) (by have := hW.size; omega) hnc HP.out hj HG.out
                  rw [hwf] at HWK
                  have HDK := Lib.hid fun W (hW : Below w.heap.size w W) => HD.out.below (hW.mono hBD)
                  have HHR := Lib.hid hr
                  clear hr ok1 ok2 hw hwf HG
                  go_wp2_with fail
                  refine (HWK.out _ HT.out).mono ?_
                  rintro en w3 ⟨rfl, hb3⟩
                  have HT3 := Lib.hid (HT.out.trans (hb3.mono HT.out.size))
                  obtain ⟨ad', r', e1, _, hr', hc'⟩ := (HDK.out w3 HT3.out).int hlt
                  obtain rfl : ad = ad' := by injection e1
                  obtain rfl : r = r' := by rw [HHR.out] at hr'; injection hr'
                  clear hb3 hc e1 hr'
                  go_wp2_with fail
                  refine (HIX.out _ HT3.out).mono ?_
                  rintro en w4 ⟨rfl, hb4⟩
                  have HT4 := Lib.hid (HT3.out.trans (hb4.mono HT3.out.size))
                  clear hb4 hc'
                  have hlk := likeV_bd (idxLo ls 0 r run d j) (idxHi ls 0 r run d j)
                  go_wp2_with fail
                  refine (l17Likely_c _ _ _).mono ?_
                  rintro en w' ⟨rfl, rfl⟩
                  go_wp2_with fail
                  refine (l00Max_c _ _ _).mono ?_
                  rintro en w' ⟨rfl, rfl⟩
                  rcases Int.lt_or_le (idxLo ls 0 r run d j) 1000 with hlo | hlo
                  all_goals
                    go_wp2
                    go_roundw
                    case rel => exact ⟨k + 1, by omega, by go_num, by rw [HMX.out, HLK.out], by rw [HSM.out, HUN.out]; first | rw [if_pos hlo] | (rw [if_neg (by omega)]; congr 1; omega), HT4⟩
                    case measure => simp [intOf]; omega
                · have hge2 : ¬ (k : Int) < (m : Int) := by omega
                  have HE : Hid (rs.take k = rs) := Lib.hid (List.take_of_length_le (by have := HLM.out; omega))
                  rw [HE.out]
                  have hx := hmx.out rs
                  have hy := hbd.out rs
                  rw [HLM.out] at hy
                  go_wp2_with fail
                  refine (l17Extent_c _ _ _ (by omega) (by omega) (by omega) (by omega)).mono ?_
                  rintro en w' ⟨rfl, rfl⟩
                  go_wp2_with fail
                  refine (l17Size_c _ _).mono ?_
                  rintro en w' ⟨rfl, rfl⟩
                  go_wp2_with fail
                  refine (l17Level_c _ _ _ _ (by omega) (by omega) (by omega) (by omega) (by omega) (by omega)).mono ?_
                  rintro en w' ⟨rfl, rfl⟩
                  go_wp2
                  go_ret2
                  exact ⟨ret2 (by rw [hv.out]) (by rw [hv.out]), HT.out⟩
        all_goals
          have hv : Hid (lvlV ls rs run d t = (0, 2)) := Lib.hid (by rw [HV.out, h1, h2, h3]; rfl)
          go_wp2_with (first | (go_at_call 53; refine (l07Slope_c _ _ _).mono ?_; rintro e w' ⟨rfl, rfl⟩) | (go_at_call 54; refine (l07Doubt_c _ _).mono ?_; rintro e w' ⟨rfl, rfl⟩) | (go_at_call 55; refine (l17Tonnes_c _ _).mono ?_; rintro e w' ⟨rfl, rfl⟩))
          go_ret2
          exact ⟨ret2 (by rw [hv.out]) (by rw [hv.out]), Below.refl _ _⟩
end Go.Proofs.Ytipchejcgbmpgaa
