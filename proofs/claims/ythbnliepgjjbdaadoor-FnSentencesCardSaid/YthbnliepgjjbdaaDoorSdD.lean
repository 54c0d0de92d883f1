/- FnSentences: the law's walk. -/
import Derived.Test.YthbnliepgjjbdaaDoorSdC
import Derived.Test.YthbnliepgjjbdaaDoorOpenU
namespace Go.Proofs.YthbnliepgjjbdaaDoor
open Go.ChangeShapes Go.WideShapes Go.ChangeAt Go.RowKit
set_option linter.unusedVariables false
theorem stOk_c (l : Nat) (hl : 1 ≤ l ∧ l ≤ 4) (k a b : Int) (hok : (⟨k, a, b⟩ : Sen).ok = true) (W : World) (he : Env W) :
    Calls Tryd.prog 12 #[.agg #[.int .i64 k, .int .i64 a, .int .i64 b], .int .i64 l] W fun e w' => e = .returned (.tuple #[.string (txtB l ⟨k, a, b⟩), .int .i64 0]) ∧ Below W.heap.size W w' := by
  obtain ⟨m, hm⟩ := he.m0
  have h := iSentenceText_c ⟨k, a, b⟩ l m W hm he.tab
  rw [sentV_ok hl hok] at h
  exact h
theorem rsOk_c (l : Nat) (hl : 1 ≤ l ∧ l ≤ 4) (k a b : Int) (hok : (⟨k, a, b⟩ : Sen).ok = true) (W : World) (he : Env W) :
    Calls Tryd.prog 22 #[.string (txtB l ⟨k, a, b⟩), .int .i64 l] W fun e w' => e = .returned (.tuple #[.agg #[.int .i64 k, .int .i64 a, .int .i64 b], .int .i64 0]) ∧ Below W.heap.size W w' := by
  have h := iReadSentence_c (txtB l ⟨k, a, b⟩) l (Nat.le_trans (txtB_size hl hok) (by omega)) W he
  rw [rsV_ok hl hok] at h
  exact h
theorem trOk_c (l m : Nat) (hl : 1 ≤ l ∧ l ≤ 4) (hm : 1 ≤ m ∧ m ≤ 4) (k a b : Int) (hok : (⟨k, a, b⟩ : Sen).ok = true) (W : World) (he : Env W) :
    Calls Tryd.prog 23 #[.string (txtB l ⟨k, a, b⟩), .int .i64 l, .int .i64 m] W fun e w' => e = .returned (.tuple #[.string (txtB m ⟨k, a, b⟩), .int .i64 0]) ∧ Below W.heap.size W w' := by
  have h := iTranslateText_c (txtB l ⟨k, a, b⟩) l m (Nat.le_trans (txtB_size hl hok) (by omega)) W he
  rw [trV_ok hl hm hok] at h
  exact h
set_option maxHeartbeats 4000000 in
set_option maxRecDepth 100000 in
theorem wSentences (w : World) (he : Env w) (A : Option Addr) (n cp : Nat) (bs : List Int) (ha : Bytes w w.heap.size A n bs) (_ : n ≤ 9223372036854775807) (D : Option Addr) (m d : Nat) (cs : List Int) (hd : Bytes w w.heap.size D m cs) (_ : m ≤ 9223372036854775807) :
    Calls Tryd.prog 5 #[.slice A n cp, .slice D m d] w fun e w' => e = .returned (.bool true) ∧ Below w.heap.size w w' := by
  have HL := Lib.hid (fun W => r8Long_c A n cp D m d W)
  by_cases h20 : 1048576 < n ∨ 1048576 < m
  · rw [decide_eq_true h20] at HL
    clear ha hd he h20
    go_enter Tryd.func5, Tryd.ntmps5
    go_wp2_with fail
    refine (HL.out _).mono ?_
    rintro e w1 ⟨rfl, rfl⟩
    go_wp2
    go_ret
    exact ⟨rfl, Below.refl _ _⟩
  · rw [decide_eq_false h20] at HL
    have hn : n ≤ 1048576 := by omega
    have HEN := Lib.hid (fun W (hW : Below w.heap.size w W) => he.below hW)
    have HBL := Lib.hid (r8Bulletin_c A n cp bs w ha (by omega))
    have HD := Lib.hid hd
    clear ha hd he h20
    go_enter Tryd.func5, Tryd.ntmps5
    go_wp2_with fail
    refine (HL.out _).mono ?_
    rintro e w1 ⟨rfl, rfl⟩
    go_wp2_with fail
    refine HBL.out.mono ?_
    rintro e w1 ⟨E, f, ss, rfl, o, hb, B⟩
    have T1 := Lib.hid B
    have HO := Lib.hid o
    have HBU := Lib.hid hb
    have HALL := Lib.hid (bulB_all hb).1
    have h7 := (bulB_all hb).2
    have HRI := Lib.hid (bul_rise hb)
    have HMN := Lib.hid (fun (i : Nat) (s : Sen) (hs : ss[i]? = some s) => mean_at hb hs)
    clear B o hb HL HBL
    go_wp2_with fail
    refine (r8At_c D m d w.heap.size cs 0 4 w1 (HD.out.below T1.out) (by omega) (by omega)).mono ?_
    rintro e w2 ⟨v, rfl, v0, v1, _, B⟩
    have T2 := Lib.hid (T1.out.trans (B.mono T1.out.size))
    have HO2 := Lib.hid (HO.out.below B (Nat.le_refl _))
    have hs12 := B.size
    obtain ⟨F, hF⟩ : ∃ F : Nat, 1 + v = F := ⟨(1 + v).toNat, by omega⟩
    have hFl := Lib.hid (show 1 ≤ F ∧ F ≤ 4 by omega)
    have hwF : IntKind.i64.wrap (1 + v) = (F : Int) := by rw [hF]; exact IntWalk.i64_in _ (by omega)
    clear B HO T1 hF v0 v1
    go_wp2_with fail
    refine (r8At_c D m d w.heap.size cs 1 4 w2 (HD.out.below T2.out) (by omega) (by omega)).mono ?_
    rintro e w3 ⟨u, rfl, u0, u1, _, B⟩
    have T3 := Lib.hid (T2.out.trans (B.mono T2.out.size))
    have HO3 := Lib.hid (HO2.out.below B hs12)
    have hs13 : w1.heap.size ≤ w3.heap.size := by have := B.size; omega
    obtain ⟨G, hG⟩ : ∃ G : Nat, 1 + u = G := ⟨(1 + u).toNat, by omega⟩
    have hGl := Lib.hid (show 1 ≤ G ∧ G ≤ 4 by omega)
    have hwG : IntKind.i64.wrap (1 + u) = (G : Int) := by rw [hG]; exact IntWalk.i64_in _ (by omega)
    clear B HO2 T2 hG u0 u1 hs12
    obtain ⟨q0, q1⟩ := lang_names hFl.out hGl.out
    have HF1 := Lib.hid (fun W => iLangName_c F hFl.out W)
    have HG1 := Lib.hid (fun W => iLangName_c G hGl.out W)
    generalize langNm F = nf at *
    generalize langNm G = ng at *
    obtain ⟨bb, q2⟩ : ∃ bb, ((F : Int) == (G : Int)) = bb := ⟨_, rfl⟩
    rw [q2] at q1
    go_wp2_with fail
    refine (HF1.out _).mono ?_
    rintro e w4 ⟨rfl, B⟩
    have T4 := Lib.hid (T3.out.trans (B.mono T3.out.size))
    have HO4 := Lib.hid (HO3.out.below B hs13)
    have hs14 : w1.heap.size ≤ w4.heap.size := by have := B.size; omega
    clear B HO3 T3 hs13
    go_wp2_with fail
    refine (HF1.out _).mono ?_
    rintro e w5 ⟨rfl, B⟩
    have T5 := Lib.hid (T4.out.trans (B.mono T4.out.size))
    have HO5 := Lib.hid (HO4.out.below B hs14)
    have hs15 : w1.heap.size ≤ w5.heap.size := by have := B.size; omega
    clear B HO4 T4 hs14
    go_wp2_with fail
    refine (HG1.out _).mono ?_
    rintro e w6 ⟨rfl, B⟩
    have T6 := Lib.hid (T5.out.trans (B.mono T5.out.size))
    have HO6 := Lib.hid (HO5.out.below B hs15)
    have hs16 : w1.heap.size ≤ w6.heap.size := by have := B.size; omega
    have HRD : Hid (∀ W, Below w6.heap.size w6 W → Reads W w1.heap.size 3 E ss.length (sens ss)) := Lib.hid (fun W hW => HO6.out.reads.below (hW.mono hs16))
    clear B HO5 T5 hs15 HO6 HF1 HG1
    all_goals
      go_wp2
      go_loopw [8] (fun iv wr => ∃ i : Nat, i ≤ ss.length ∧ iv = .int .i64 i ∧ Hid (Below w6.heap.size w6 wr)) (fun iv _ => ss.length - (intOf iv).toNat)
      case atStart => exact ⟨0, by omega, rfl, Lib.hid (Below.refl _ _)⟩
      case round =>
        clear q0 q1 q2 hwF hwG
        obtain ⟨i, hi, rfl, HB⟩ := hrel
        generalize wr = wo at *
        have TW := Lib.hid (T6.out.trans (HB.out.mono T6.out.size))
        by_cases hlt : i < ss.length
        · obtain ⟨ad, s, rfl, hsi, hsk⟩ := (HRD.out w6 (Below.refl _ _)).senKept hlt
          have HSI := Lib.hid hsi
          have HSK := Lib.hid (fun W (hW : Below w6.heap.size w6 W) => hsk W (hW.mono hs16))
          have hok := HALL.out s (List.mem_of_getElem? hsi)
          have hmn := HMN.out i s hsi
          have hin : (i : Int) < (ss.length : Int) := by omega
          have hi0 : (0 : Int) ≤ (i : Int) := by omega
          obtain ⟨k, a, b⟩ := s
          have HOK := Lib.hid hok
          have HMV := Lib.hid hmn
          have HC1 := Lib.hid (fun W hW => stOk_c F hFl.out k a b hok W hW)
          have HC2 := Lib.hid (fun W hW => rsOk_c F hFl.out k a b hok W hW)
          have HC3 := Lib.hid (fun W hW => trOk_c F G hFl.out hGl.out k a b hok W hW)
          have HC4 := Lib.hid (fun W hW => trOk_c G F hGl.out hFl.out k a b hok W hW)
          have HC5 := Lib.hid (fun W hW => rsOk_c G hGl.out k a b hok W hW)
          have HNE := Lib.hid (fun (t : Sen) (ht : t.ok = true) (hne : t ≠ ⟨k, a, b⟩) => txtB_ne hFl.out ht hok hne)
          have HEQ : Hid (∀ W : World, (Op.equalIn 10000 26 (.agg #[.int .i64 k, .int .i64 a, .int .i64 b]) (.agg #[.int .i64 k, .int .i64 a, .int .i64 b])).run Tryd.prog W = .ok true W) := Lib.hid (fun W => by rw [eqSenIn]; simp)
          generalize txtB F ⟨k, a, b⟩ = t1 at *
          generalize txtB G ⟨k, a, b⟩ = t2 at *
          clear hsi hsk hok hmn
          have hsc := HSK.out wo HB.out
          unfold SenAt at hsc
          obtain ⟨c0, c1, c2⟩ := hsc
          go_wp2_with fail
          refine (HC1.out _ (HEN.out _ TW.out)).mono ?_
          rintro e w7 ⟨rfl, B⟩
          have B7 := Lib.hid (HB.out.trans (B.mono HB.out.size))
          have T7 := Lib.hid (T6.out.trans (B7.out.mono T6.out.size))
          clear B c0 c1 c2
          go_wp2_with fail
          refine (HC2.out _ (HEN.out _ T7.out)).mono ?_
          rintro e w8 ⟨rfl, B⟩
          have B8 := Lib.hid (B7.out.trans (B.mono B7.out.size))
          have hs8 := B8.out.size
          clear B T7 B7
          go_upto_region 13 with (fail)
          obtain ⟨w9, hw9⟩ : ∃ W, W = w8.alloc (.cells #[.int .i64 k, .int .i64 a, .int .i64 b] 26) := ⟨_, rfl⟩
          have B9 : Hid (Below w6.heap.size w6 w9) := Lib.hid (by rw [hw9]; exact B8.out.alloc hs8 _)
          have HX9 : Hid (Blk w9 w8.heap.size 26 #[.int .i64 k, .int .i64 a, .int .i64 b]) := Lib.hid (by rw [hw9]; exact Blk.new _ _ _)
          rw [← hw9]
          clear hw9 B8
          have T9 := Lib.hid (T6.out.trans (B9.out.mono T6.out.size))
          go_wp2_with fail
          refine (HC3.out _ (HEN.out _ T9.out)).mono ?_
          rintro e w10 ⟨rfl, B⟩
          have B10 := Lib.hid (B9.out.trans (B.mono B9.out.size))
          have HX10 := Lib.hid (HX9.out.below B HX9.out.lt)
          have T10 := Lib.hid (T6.out.trans (B10.out.mono T6.out.size))
          clear B B9 HX9 T9
          go_wp2_with fail
          refine (HC4.out _ (HEN.out _ T10.out)).mono ?_
          rintro e w11 ⟨rfl, B⟩
          have B11 := Lib.hid (B10.out.trans (B.mono B10.out.size))
          have HX11 := Lib.hid (HX10.out.below B HX10.out.lt)
          have T11 := Lib.hid (T6.out.trans (B11.out.mono T6.out.size))
          clear B B10 HX10 T10
          go_wp2_with fail
          refine (HC5.out _ (HEN.out _ T11.out)).mono ?_
          rintro e w12 ⟨rfl, B⟩
          have B12 := Lib.hid (B11.out.trans (B.mono B11.out.size))
          have HX12 := Lib.hid (HX11.out.below B HX11.out.lt)
          have hs12 := B12.out.size
          clear B B11 HX11 T11
          go_upto_region 16 with (fail)
          obtain ⟨w13, hw13⟩ : ∃ W, W = w12.alloc (.cells #[.int .i64 k, .int .i64 a, .int .i64 b] 26) := ⟨_, rfl⟩
          have B13 : Hid (Below w6.heap.size w6 w13) := Lib.hid (by rw [hw13]; exact B12.out.alloc hs12 _)
          have HX13 : Hid (Blk w13 w8.heap.size 26 #[.int .i64 k, .int .i64 a, .int .i64 b]) := Lib.hid (by rw [hw13]; exact HX12.out.alloc _)
          have HY13 : Hid (Blk w13 w12.heap.size 26 #[.int .i64 k, .int .i64 a, .int .i64 b]) := Lib.hid (by rw [hw13]; exact Blk.new _ _ _)
          rw [← hw13]
          clear hw13 B12 HX12
          have hsc := HSK.out w13 B13.out
          unfold SenAt at hsc
          obtain ⟨c0, c1, c2⟩ := hsc
          have d0 : w13.cell? ⟨w8.heap.size, 0, none⟩ = some (.int .i64 k) := HX13.out.cell 0
          have d1 : w13.cell? ⟨w8.heap.size, 1, none⟩ = some (.int .i64 a) := HX13.out.cell 1
          have d2 : w13.cell? ⟨w8.heap.size, 2, none⟩ = some (.int .i64 b) := HX13.out.cell 2
          have e0 : w13.cell? ⟨w12.heap.size, 0, none⟩ = some (.int .i64 k) := HY13.out.cell 0
          have e1 : w13.cell? ⟨w12.heap.size, 1, none⟩ = some (.int .i64 a) := HY13.out.cell 1
          have e2 : w13.cell? ⟨w12.heap.size, 2, none⟩ = some (.int .i64 b) := HY13.out.cell 2
          have heq := HEQ.out
          refine wp_region_quiet_lit (by kernel_rfl) (by kernel_rfl) ?_
          repeat (first | go_big_quiet_step (fail) | quiet_step (fail))
          refine wpQuiet_nil ?_
          intro _ hw'
          obtain ⟨nq, hw''⟩ := hw'
          subst hw''
          have B14 := Lib.hid (below_drewN B13.out nq)
          generalize w13.drewN nq = w14 at *
          clear c0 c1 c2 d0 d1 d2 e0 e1 e2 heq B13 HX13 HY13 HEQ HC1 HC2 HC3 HC4 HC5
          go_wp2
          go_loopw [19] (fun jv wr => ∃ j : Nat, j ≤ i ∧ jv = .int .i64 j ∧ Hid (Below w6.heap.size w6 wr)) (fun jv _ => i - (intOf jv).toNat)
          case atStart => exact ⟨0, by omega, rfl, B14⟩
          case round =>
            clear B14
            obtain ⟨j, hj, rfl, HBJ⟩ := hrel
            have TJ := Lib.hid (T6.out.trans (HBJ.out.mono T6.out.size))
            by_cases hji : j < i
            · obtain ⟨ad', t, had, htj, htk⟩ := (HRD.out w6 (Below.refl _ _)).senKept (k := j) (by omega)
              obtain rfl : ad = ad' := by injection had
              have hok2 := HALL.out t (List.mem_of_getElem? htj)
              have hne : t ≠ ⟨k, a, b⟩ := fun e => by
                have h := HRI.out i j t _ hji htj HSI.out
                rw [e] at h
                simp at h
              have hq := HNE.out t hok2 hne
              have hsc := htk wr (HBJ.out.mono hs16)
              unfold SenAt at hsc
              obtain ⟨c0, c1, c2⟩ := hsc
              obtain ⟨tk, ta, tb⟩ := t
              have HC := Lib.hid (fun W hW => stOk_c F hFl.out tk ta tb hok2 W hW)
              generalize txtB F ⟨tk, ta, tb⟩ = t3 at *
              have hjn : (j : Int) < (ss.length : Int) := by omega
              have hj0 : (0 : Int) ≤ (j : Int) := by omega
              have hjii : (j : Int) < (i : Int) := by omega
              clear had htj htk hok2 hne
              go_wp2_with fail
              refine (HC.out _ (HEN.out _ TJ.out)).mono ?_
              rintro e w15 ⟨rfl, B⟩
              have B15 := Lib.hid (HBJ.out.trans (B.mono HBJ.out.size))
              clear B c0 c1 c2 HC
              go_wp2
              go_roundw
              case rel => exact ⟨j + 1, by omega, by go_num, B15⟩
              case measure => simp [intOf]; omega
            · have hjii : ¬ (j : Int) < (i : Int) := by omega
              have hsc := HSK.out wr HBJ.out
              unfold SenAt at hsc
              obtain ⟨c0, c1, c2⟩ := hsc
              have hm := iMeaningOf_c (some ad) ss.length f w1.heap.size ss k wr (HRD.out wr HBJ.out) (by have := HBJ.out.size; omega) (by omega)
              have hmv : meanV ss k = (a, b, 0) := HMV.out
              unfold MeanPost at hm
              rw [hmv] at hm
              have HM := Lib.hid hm
              clear hm hmv
              go_wp2_with fail
              refine HM.out.mono ?_
              rintro e w15 ⟨rfl, B⟩
              have B15 := Lib.hid (HBJ.out.trans (B.mono HBJ.out.size))
              clear B c0 c1 c2 HM
              have hsc := HSK.out w15 B15.out
              unfold SenAt at hsc
              obtain ⟨c0, c1, c2⟩ := hsc
              go_wp2
              go_roundw
              case rel => exact ⟨i + 1, by omega, by go_num, B15⟩
              case measure => simp [intOf]; omega
        · obtain rfl : i = ss.length := by omega
          go_wp2
          go_ret
          exact ⟨rfl, TW.out⟩
end Go.Proofs.YthbnliepgjjbdaaDoor
