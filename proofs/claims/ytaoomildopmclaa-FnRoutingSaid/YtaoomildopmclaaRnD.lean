/- FnRouting: a step keeps all mass, what settles in the end is all that started, and nothing settles where it could run on. -/
import Derived.Test.YtaoomildopmclaaRnC
import Derived.Test.YtaoomildopmclaaRnO
namespace Go.Proofs.Ytaoomildopmclaa
open Go.ChangeShapes Go.WideShapes Go.ChangeAt Go.RowKit
set_option linter.unusedVariables false
theorem routeV_ok {g : Gr} {ms : List Int} {fr : Int} (hok : g.ok = true) (h1 : 1 ≤ fr) (h2 : fr ≤ 5000) (hl : ms.length = g.hs.length) (hm : allInB 0 1000000 ms = true) : routeV g ms fr [] = 0 := by
  have hf : frictB fr = true := by unfold frictB inB; simp; omega
  have hmb : massB g ms = true := by unfold massB; simp [hl, hm]
  rw [routeV, if_neg (by simp [hok]), codeG_nil hok, if_neg (by simp [hf]), if_neg (by simp [hmb])]
theorem totalV_ok {g : Gr} {ms : List Int} (hok : g.ok = true) (hl : ms.length = g.hs.length) (hm : allInB 0 1000000 ms = true) : totalV g ms = (ms.sum, 0) := by
  have hmb : massB g ms = true := by unfold massB; simp [hl, hm]
  rw [totalV, if_neg (by simp [hok]), if_neg (by simp [hmb])]; rfl
theorem runs_take {g : Gr} {fr : Int} {k i : Nat} {l : List Int} {x : Int} (h : l[i]? = some x) : runsB g fr k (l.take (i + 1)) = (runsB g fr k (l.take i) || decide (fr ≤ (slopeToV g k x).1)) := by
  unfold runsB
  rw [List.take_add_one, h, List.any_append]; simp
/-- the rows that the law looks at -/
structure Rows5 (w : World) (a0 a1 b0 b1 c0 c1 d0 d1 e0 e1 : Nat) (n nr cm cv cs cl cr : Nat) (Am Av As Al Ar : Option Addr) (ms mv st la rc : List Int) : Prop where
  m : Own w a0 a1 2 1 (.slice Am n cm) n (ints ms)
  v : Own w b0 b1 2 1 (.slice Av n cv) n (ints mv)
  s : Own w c0 c1 2 1 (.slice As n cs) n (ints st)
  l : Own w d0 d1 2 1 (.slice Al n cl) n (ints la)
  r : Own w e0 e1 2 1 (.slice Ar nr cr) nr (ints rc)
  ha : a1 ≤ w.heap.size
  hb : b1 ≤ w.heap.size
  hc : c1 ≤ w.heap.size
  hd : d1 ≤ w.heap.size
  he : e1 ≤ w.heap.size
theorem Rows5.below {w w' : World} {a0 a1 b0 b1 c0 c1 d0 d1 e0 e1 : Nat} {n nr cm cv cs cl cr : Nat} {Am Av As Al Ar : Option Addr} {ms mv st la rc : List Int} (h : Rows5 w a0 a1 b0 b1 c0 c1 d0 d1 e0 e1 n nr cm cv cs cl cr Am Av As Al Ar ms mv st la rc) (hb : Below w.heap.size w w') :
    Rows5 w' a0 a1 b0 b1 c0 c1 d0 d1 e0 e1 n nr cm cv cs cl cr Am Av As Al Ar ms mv st la rc := by
  have := hb.size; have := h.ha; have := h.hb; have := h.hc; have := h.hd; have := h.he
  exact ⟨h.m.below hb h.ha, h.v.below hb h.hb, h.s.below hb h.hc, h.l.below hb h.hd, h.r.below hb h.he, by omega, by omega, by omega, by omega, by omega⟩
set_option maxHeartbeats 16000000 in
set_option maxRecDepth 100000 in
theorem wRouting (w : World) (A : Option Addr) (n cp : Nat) (bs : List Int) (ha : Bytes w w.heap.size A n bs) (_ : n ≤ 9223372036854775807) (D : Option Addr) (m d : Nat) (cs : List Int) (hd : Bytes w w.heap.size D m cs) (_ : m ≤ 9223372036854775807) :
    Calls Try.prog 3 #[.slice A n cp, .slice D m d] w fun e w' => e = .returned (.bool true) ∧ Below w.heap.size w w' := by
  by_cases h20 : 1048576 < n ∨ 1048576 < m
  · have hl := r8Long_c A n cp D m d w
    rw [decide_eq_true h20] at hl
    have HL := Lib.hid hl
    clear ha hd hl h20
    go_enter Try.func3, Try.ntmps3
    go_wp2_with fail
    refine HL.out.mono ?_
    rintro e w1 ⟨rfl, rfl⟩
    go_wp2
    go_ret
    exact ⟨rfl, Below.refl _ _⟩
  · have hl := r8Long_c A n cp D m d w
    rw [decide_eq_false h20] at hl
    have HL := Lib.hid hl
    have HA := Lib.hid ha
    have HD := Lib.hid hd
    have hn2 : n ≤ 1048576 := by omega
    have hm2 : m ≤ 1048576 := by omega
    clear ha hd hl h20
    go_enter Try.func3, Try.ntmps3
    go_wp2_with fail
    refine HL.out.mono ?_
    rintro e w0 ⟨rfl, rfl⟩
    go_wp2_with fail
    refine (R8Grid_c A n cp bs w HA.out hn2).mono ?_
    rintro e w1 ⟨g, GA, k, gc, rfl, hok, OG, B1⟩
    obtain ⟨r, co, sz, hs⟩ := g
    simp only [Gr.val, Gr.cells] at OG ⊢
    have HOK := Lib.hid hok
    have hs1 := B1.size
    have HLG : Hid (hs.length = k) := Lib.hid OG.reads.len
    have hk64 := (Gr.ok_bd hok).len64
    simp only [HLG.out] at hk64
    obtain ⟨w2, hX⟩ : ∃ X, X = w1.alloc (.cells #[.int .i64 r, .int .i64 co, .int .i64 sz, .slice GA k gc] 26) := ⟨_, rfl⟩
    have B2 : Below w1.heap.size w1 w2 := by rw [hX]; exact (Below.refl _ _).alloc (Nat.le_refl _) _
    have hs2 : w2.heap.size = w1.heap.size + 1 := by rw [hX]; simp
    have KG : Hid (Blk w2 w1.heap.size 26 #[.int .i64 r, .int .i64 co, .int .i64 sz, .slice GA k gc]) := Lib.hid (by rw [hX]; exact Blk.new _ _ _)
    have RG : Hid (GS w2 w2.heap.size ⟨r, co, sz, hs⟩ GA k gc) := Lib.hid (.of_own ((OG.below B2 (Nat.le_refl _)).widen (Nat.le_refl _) B2.size) (Nat.le_refl _) (by omega))
    have T := Lib.hid (B1.trans (B2.mono hs1))
    have HX := Lib.hid hX
    clear hX B1 B2 OG hok HL HA
    go_upto_region 4 with (fail)
    rw [← HX.out]
    clear HX
    have x0 : w2.cell? ⟨w1.heap.size, 0, none⟩ = some (.int .i64 r) := KG.out.cell 0
    have x1 : w2.cell? ⟨w1.heap.size, 1, none⟩ = some (.int .i64 co) := KG.out.cell 1
    have x2 : w2.cell? ⟨w1.heap.size, 2, none⟩ = some (.int .i64 sz) := KG.out.cell 2
    have x3 : w2.cell? ⟨w1.heap.size, 3, none⟩ = some (.slice GA k gc) := KG.out.cell 3
    go_wp2_with fail
    refine (R8Masses_c D m d cs r co sz GA k gc w2 ((HD.out.below T.out).more T.out.size) hm2 (by omega)).mono ?_
    rintro e w3 ⟨Am, cm, ms, rfl, hms, OM, B3⟩
    have hs3 := B3.size
    have KG3 := Lib.hid (KG.out.below B3 (by omega))
    have RG3 := Lib.hid (RG.out.below B3)
    have T3 := Lib.hid (T.out.trans (B3.mono T.out.size))
    have HLM : Hid (ms.length = k) := Lib.hid OM.reads.len
    have OM3 := Lib.hid OM
    have HMS := Lib.hid hms
    clear x0 x1 x2 x3 B3 OM KG RG T hms
    go_wp2_with fail
    refine (r8At_c D m d _ cs 60 100 w3 (HD.out.below T3.out) (by omega) (by omega)).mono ?_
    rintro e w4 ⟨v4, rfl, hv0, hv1, hv2, B4⟩
    have hs4 := B4.size
    have KG4 := Lib.hid (KG3.out.below B4 (by omega))
    have RG4 := Lib.hid (RG3.out.below B4)
    have T4 := Lib.hid (T3.out.trans (B4.mono T3.out.size))
    have OM4 := Lib.hid (OM3.out.below B4 (Nat.le_refl _))
    clear B4 KG3 RG3 OM3 T3 HD
    have e1 : IntKind.i64.wrap (10 * v4) = 10 * v4 := IntWalk.i64_in _ (by omega)
    have e2 : IntKind.i64.wrap (50 + 10 * v4) = 50 + 10 * v4 := IntWalk.i64_in _ (by omega)
    obtain ⟨fr, hfr⟩ : ∃ fr, fr = 50 + 10 * v4 := ⟨_, rfl⟩
    have HFR := Lib.hid hfr
    have hf1 : 50 ≤ fr := by omega
    have hf2 : fr ≤ 1050 := by omega
    clear hfr
    go_upto_region 6 with (fail)
    rw [← HFR.out]
    clear e1 e2 hv0 hv1 hv2 HFR
    have HR0 := Lib.hid (routeV_ok (g := ⟨r, co, sz, hs⟩) (ms := ms) (fr := fr) HOK.out (by omega) (by omega) (by rw [HLM.out, HLG.out]) HMS.out)
    have HTV := Lib.hid (totalV_ok (g := ⟨r, co, sz, hs⟩) (ms := ms) HOK.out (by rw [HLM.out, HLG.out]) HMS.out)
    have HRO := Lib.hid (routeOk HR0.out)
    have HSV : Hid (routeStepV ⟨r, co, sz, hs⟩ ms fr = (routeTo ⟨r, co, sz, hs⟩ fr ms k, 0)) := Lib.hid (by rw [routeStepV, if_pos HR0.out, HLM.out])
    have hsum : ms.sum ≤ 64000000 := HRO.out.2.2.2.2.2
    have hsum0 : 0 ≤ ms.sum := HRO.out.2.2.2.2.1.sum
    have x0 : w4.cell? ⟨w1.heap.size, 0, none⟩ = some (.int .i64 r) := KG4.out.cell 0
    have x1 : w4.cell? ⟨w1.heap.size, 1, none⟩ = some (.int .i64 co) := KG4.out.cell 1
    have x2 : w4.cell? ⟨w1.heap.size, 2, none⟩ = some (.int .i64 sz) := KG4.out.cell 2
    have x3 : w4.cell? ⟨w1.heap.size, 3, none⟩ = some (.slice GA k gc) := KG4.out.cell 3
    go_wp2_with fail
    refine (iTotalMass_c ⟨r, co, sz, hs⟩ GA k gc _ Am k cm w4.heap.size ms w4 RG4.out (OM4.out.reads.more hs4) (Nat.le_refl _) (by omega)).mono ?_
    rintro e w5 ⟨rfl, B5⟩
    rw [HTV.out]
    have hs5 := B5.size
    have KG5 := Lib.hid (KG4.out.below B5 (by omega))
    have RG5 := Lib.hid (RG4.out.below B5)
    have T5 := Lib.hid (T4.out.trans (B5.mono T4.out.size))
    have OM5 := Lib.hid (OM4.out.below B5 (by omega))
    clear x0 x1 x2 x3 B5 KG4 RG4 OM4 T4 HTV
    have x0 : w5.cell? ⟨w1.heap.size, 0, none⟩ = some (.int .i64 r) := KG5.out.cell 0
    have x1 : w5.cell? ⟨w1.heap.size, 1, none⟩ = some (.int .i64 co) := KG5.out.cell 1
    have x2 : w5.cell? ⟨w1.heap.size, 2, none⟩ = some (.int .i64 sz) := KG5.out.cell 2
    have x3 : w5.cell? ⟨w1.heap.size, 3, none⟩ = some (.slice GA k gc) := KG5.out.cell 3
    go_wp2_with fail
    refine (iRouteStep_c ⟨r, co, sz, hs⟩ GA k gc _ Am k cm w5.heap.size ms fr w5 RG5.out (OM5.out.reads.more (by omega)) (Nat.le_refl _) (by omega)).mono ?_
    rintro e w6 ⟨Av, nv, cv, As, ns, cs', b0, b1, c0, c1, rfl, OV, OS, hbc, hb0, hc0, hb1, hc1, hnv, hns, B6⟩
    rw [HSV.out] at OV OS ⊢
    simp only at OV OS ⊢
    have hs6 := B6.size
    have KG6 := Lib.hid (KG5.out.below B6 (by omega))
    have RG6 := Lib.hid (RG5.out.below B6)
    have T6 := Lib.hid (T5.out.trans (B6.mono T5.out.size))
    have OM6 := Lib.hid (OM5.out.below B6 (by omega))
    have OV6 := Lib.hid OV
    have OS6 := Lib.hid OS
    clear x0 x1 x2 x3 B6 KG5 RG5 OM5 T5 HSV OV OS
    have x0 : w6.cell? ⟨w1.heap.size, 0, none⟩ = some (.int .i64 r) := KG6.out.cell 0
    have x1 : w6.cell? ⟨w1.heap.size, 1, none⟩ = some (.int .i64 co) := KG6.out.cell 1
    have x2 : w6.cell? ⟨w1.heap.size, 2, none⟩ = some (.int .i64 sz) := KG6.out.cell 2
    have x3 : w6.cell? ⟨w1.heap.size, 3, none⟩ = some (.slice GA k gc) := KG6.out.cell 3
    go_wp2_with fail
    refine (iRunMass_c ⟨r, co, sz, hs⟩ GA k gc _ Am cm w6.heap.size ms fr w6 RG6.out (OM6.out.reads.more (by omega)) (Nat.le_refl _) HR0.out).mono ?_
    rintro e w7 ⟨N, Al, cl, hN, rfl, OL, B7⟩
    have hs7 := B7.size
    have KG7 := Lib.hid (KG6.out.below B7 (by omega))
    have RG7 := Lib.hid (RG6.out.below B7)
    have T7 := Lib.hid (T6.out.trans (B7.mono T6.out.size))
    have OM7 := Lib.hid (OM6.out.below B7 (by omega))
    have OV7 := Lib.hid (OV6.out.below B7 hb1)
    have OS7 := Lib.hid (OS6.out.below B7 hc1)
    have OL7 := Lib.hid OL
    have HN := Lib.hid hN
    clear x0 x1 x2 x3 B7 KG6 RG6 OM6 T6 OV6 OS6 OL hN
    have x0 : w7.cell? ⟨w1.heap.size, 0, none⟩ = some (.int .i64 r) := KG7.out.cell 0
    have x1 : w7.cell? ⟨w1.heap.size, 1, none⟩ = some (.int .i64 co) := KG7.out.cell 1
    have x2 : w7.cell? ⟨w1.heap.size, 2, none⟩ = some (.int .i64 sz) := KG7.out.cell 2
    have x3 : w7.cell? ⟨w1.heap.size, 3, none⟩ = some (.slice GA k gc) := KG7.out.cell 3
    go_wp2_with fail
    refine (iReachedBy_c ⟨r, co, sz, hs⟩ GA k gc _ Am cm w7.heap.size ms fr w7 RG7.out (OM7.out.reads.more (by omega)) (Nat.le_refl _) HR0.out).mono ?_
    rintro e w8 ⟨N2, Ar, nr, cr, hN2, rfl, OR, B8⟩
    have hs8 := B8.size
    have HLW : Hid (Law1 ⟨r, co, sz, hs⟩ fr k ms (routeTo ⟨r, co, sz, hs⟩ fr ms k).1 (routeTo ⟨r, co, sz, hs⟩ fr ms k).2 (setV ⟨r, co, sz, hs⟩ fr ms N) (reachL (preV ⟨r, co, sz, hs⟩ fr ms (N2 + 1)) k)) := Lib.hid (by
      have hgb := Gr.ok_bd HOK.out
      have e1 := hN2.eq hgb (by rw [HLM.out]; exact HLG.out) (by omega) HRO.out.2.2.2.2.1
      have e2 := HN.out.eq hgb (by rw [HLM.out]; exact HLG.out) (by omega) HRO.out.2.2.2.2.1
      have e3 : N2 = N := by omega
      have h := law1 HOK.out (by rw [HLM.out]; exact HLG.out) (show 1 ≤ fr by omega) HRO.out.2.2.2.2.1 HN.out
      rw [HLM.out] at h
      rw [e3]; exact h)
    have hN64 : N ≤ 64 := by
      have := EndAt.bd (Gr.ok_bd HOK.out) (by rw [HLM.out]; exact HLG.out) (show 1 ≤ fr by omega) HRO.out.2.2.2.2.1 HN.out.1
      rw [HLM.out] at this; omega
    have KG8 := Lib.hid (KG7.out.below B8 (by omega))
    have RG8 := Lib.hid (RG7.out.below B8)
    have T8 := Lib.hid (T7.out.trans (B8.mono T7.out.size))
    have HR5 : Hid (Rows5 w8 w2.heap.size w3.heap.size b0 b1 c0 c1 w6.heap.size w7.heap.size w7.heap.size w8.heap.size k nr cm cv cs' cl cr Am Av As Al Ar ms (routeTo ⟨r, co, sz, hs⟩ fr ms k).1 (routeTo ⟨r, co, sz, hs⟩ fr ms k).2 (setV ⟨r, co, sz, hs⟩ fr ms N) (reachL (preV ⟨r, co, sz, hs⟩ fr ms (N2 + 1)) k)) := Lib.hid
      ⟨OM7.out.below B8 (by omega), (by
        have h := OV7.out.below B8 (by omega)
        have e : nv = k := by have h1 := h.reads.len; have h2 := HLW.out.lv; omega
        rw [e] at h; exact h), (by
        have h := OS7.out.below B8 (by omega)
        have e : ns = k := by have h1 := h.reads.len; have h2 := HLW.out.ls; omega
        rw [e] at h; exact h), OL7.out.below B8 (Nat.le_refl _), OR, by omega, by omega, by omega, by omega, Nat.le_refl _⟩
    obtain rfl : nv = k := by have h1 := OV7.out.reads.len; have h2 := HLW.out.lv; omega
    obtain rfl : ns = nv := by have h1 := OS7.out.reads.len; have h2 := HLW.out.ls; omega
    clear OV7 OS7 OL7 OM7 OR B8 HR0 HRO HN HMS hN2 x0 x1 x2 x3 KG7 RG7 T7 HLG
    generalize (routeTo ⟨r, co, sz, hs⟩ fr ms ns).1 = mv at HR5 HLW
    generalize (routeTo ⟨r, co, sz, hs⟩ fr ms ns).2 = st at HR5 HLW
    generalize setV ⟨r, co, sz, hs⟩ fr ms N = la at HR5 HLW
    generalize reachL (preV ⟨r, co, sz, hs⟩ fr ms (N2 + 1)) ns = rc at HR5 HLW
    obtain ⟨FR, hFR⟩ : ∃ FR : World → Prop, FR = fun wr => Rows5 wr w2.heap.size w3.heap.size b0 b1 c0 c1 w6.heap.size w7.heap.size w7.heap.size w8.heap.size ns nr cm cv cs' cl cr Am Av As Al Ar ms mv st la rc ∧ Blk wr w1.heap.size 26 #[.int .i64 r, .int .i64 co, .int .i64 sz, .slice GA ns gc] ∧ GS wr w2.heap.size ⟨r, co, sz, hs⟩ GA ns gc ∧ Below w.heap.size w wr := ⟨_, rfl⟩
    have HFR : Hid (∀ wr, FR wr → Rows5 wr w2.heap.size w3.heap.size b0 b1 c0 c1 w6.heap.size w7.heap.size w7.heap.size w8.heap.size ns nr cm cv cs' cl cr Am Av As Al Ar ms mv st la rc ∧ Blk wr w1.heap.size 26 #[.int .i64 r, .int .i64 co, .int .i64 sz, .slice GA ns gc] ∧ GS wr w2.heap.size ⟨r, co, sz, hs⟩ GA ns gc ∧ Below w.heap.size w wr) := Lib.hid (fun wr h => by rw [hFR] at h; exact h)
    have HFB : Hid (∀ wr w', FR wr → Below wr.heap.size wr w' → FR w') := Lib.hid (fun wr w' h hb => by
      rw [hFR] at h ⊢
      exact ⟨h.1.below hb, h.2.1.below hb h.2.1.lt, h.2.2.1.below hb, h.2.2.2.trans (hb.mono h.2.2.2.size)⟩)
    have HF8 : Hid (FR w8) := Lib.hid (by rw [hFR]; exact ⟨HR5.out, KG8.out, RG8.out, T8.out⟩)
    have hN0 : decide ((N : Int) < 0) = false := by simp
    have hN6 : decide (64 < (N : Int)) = false := by simp; omega
    have hx0 : (mv.take 0).sum + (st.take 0).sum = 0 := by simp
    have hy0 : (la.take 0).sum = 0 := by simp
    clear hFR HR5 KG8 RG8 T8 hs1 hs2 hs3 hs4 hs5 hs6 hs7 hs8 hbc hb0 hc0 hb1 hc1
    go_wp2
    clear hN0 hN6
    go_loopw [18, 19, 20] (fun xv yv kv wr => ∃ j : Nat, j ≤ ns ∧ kv = .int .i64 j ∧ xv = .int .i64 ((mv.take j).sum + (st.take j).sum) ∧ yv = .int .i64 (la.take j).sum ∧ Hid (FR wr)) (fun _ _ kv _ => ns - (intOf kv).toNat)
    case atStart => exact ⟨0, Nat.zero_le _, rfl, by rw [hx0], by rw [hy0], HF8⟩
    case round =>
      clear HF8 hx0 hy0
      obtain ⟨j, hj, rfl, rfl, rfl, HF⟩ := hrel
      generalize wr = w9 at *
      by_cases hlt : j < ns
      · have HRR := Lib.hid (HFR.out w9 HF.out).1
        obtain ⟨adv, zv, rfl, hzv, cvv⟩ := HRR.out.v.intAt hlt
        obtain ⟨ads, zs, rfl, hzs, cvs⟩ := HRR.out.s.intAt hlt
        obtain ⟨adl, zl, rfl, hzl, cvl⟩ := HRR.out.l.intAt hlt
        obtain ⟨adm, zm, rfl, hzm, cvm⟩ := HRR.out.m.intAt hlt
        have ev : at0 mv j = zv := at0_get hzv
        have es : at0 st j = zs := at0_get hzs
        have el : at0 la j = zl := at0_get hzl
        have em : at0 ms j = zm := at0_get hzm
        have nv := HLW.out.nv j
        have nst := HLW.out.ns j
        have nl := HLW.out.nl j
        have tv0 := HLW.out.nv.le j
        have ts0 := HLW.out.ns.le j
        have tl0 := HLW.out.nl.le j
        have tv1 := sum_take_le HLW.out.nv j
        have ts1 := sum_take_le HLW.out.ns j
        have tl1 := sum_take_le HLW.out.nl j
        have tv2 : 0 ≤ (mv.take j).sum := Nn.sum (fun q => by
          have h := HLW.out.nv q
          unfold at0 at h ⊢
          by_cases hq : q < j
          · rw [List.getElem?_take_of_lt hq]; exact h
          · rw [List.getElem?_take_eq_none (by omega)]; simp)
        have ts2 : 0 ≤ (st.take j).sum := Nn.sum (fun q => by
          have h := HLW.out.ns q
          unfold at0 at h ⊢
          by_cases hq : q < j
          · rw [List.getElem?_take_of_lt hq]; exact h
          · rw [List.getElem?_take_eq_none (by omega)]; simp)
        have tl2 : 0 ≤ (la.take j).sum := Nn.sum (fun q => by
          have h := HLW.out.nl q
          unfold at0 at h ⊢
          by_cases hq : q < j
          · rw [List.getElem?_take_of_lt hq]; exact h
          · rw [List.getElem?_take_eq_none (by omega)]; simp)
        have hq1 := HLW.out.s1
        have hq2 := HLW.out.s2
        have HR1 := Lib.hid (HLW.out.r1 j hlt)
        have HR2 := Lib.hid (HLW.out.r2 j hlt)
        have HY1 := Lib.hid (HLW.out.y1 j hlt)
        have HY2 := Lib.hid (HLW.out.y2 j hlt)
        have HSV : Hid ((mv.take (j + 1)).sum = (mv.take j).sum + zv) := Lib.hid (by rw [sum_take_succ, ev])
        have HSS : Hid ((st.take (j + 1)).sum = (st.take j).sum + zs) := Lib.hid (by rw [sum_take_succ, es])
        have HSL : Hid ((la.take (j + 1)).sum = (la.take j).sum + zl) := Lib.hid (by rw [sum_take_succ, el])
        rw [ev] at nv tv0
        rw [es] at nst ts0
        rw [el] at nl tl0
        rw [el] at HR1
        rw [em] at HR2
        rw [el, es] at HY1
        rw [es, em] at HY2
        have w1 : IntKind.i64.wrap (zv + zs) = zv + zs := IntWalk.i64_in _ (by omega)
        have w2' : IntKind.i64.wrap ((mv.take j).sum + (st.take j).sum + (zv + zs)) = (mv.take j).sum + (st.take j).sum + (zv + zs) := IntWalk.i64_in _ (by omega)
        have w3' : IntKind.i64.wrap ((la.take j).sum + zl) = (la.take j).sum + zl := IntWalk.i64_in _ (by omega)
        have d1 : decide (zv < 0) = false := by simp; omega
        have d2 : decide (zs < 0) = false := by simp; omega
        have d3 : decide (zl < 0) = false := by simp; omega
        have hjn : (j : Int) < (ns : Int) := by omega
        have hj0 : (0 : Int) ≤ (j : Int) := by omega
        have hxx : (mv.take j).sum + (st.take j).sum + (zv + zs) = (mv.take (j + 1)).sum + (st.take (j + 1)).sum := by rw [HSV.out, HSS.out]; omega
        have hyy : (la.take j).sum + zl = (la.take (j + 1)).sum := by rw [HSL.out]
        have HXX := Lib.hid hxx
        have HYY := Lib.hid hyy
        clear hzv hzs hzl hzm ev es el em tv0 ts0 tl0 tv1 ts1 tl1 tv2 ts2 tl2 hq1 hq2 hxx hyy
        go_upto_region 19 with (fail)
        refine wp_region_quiet_lit (by kernel_rfl) (by kernel_rfl) ?_
        repeat (first | go_big_quiet_step (fail) | quiet_step (fail))
        refine wpQuiet_nil ?_
        intro _ hw'
        obtain ⟨nq, hw''⟩ := hw'
        subst hw''
        go_upto_region 21 with (fail)
        rw [HXX.out, HYY.out]
        obtain ⟨W1, hW1⟩ : ∃ W, W = w9.drewN nq := ⟨_, rfl⟩
        rw [← hW1]
        have HF1 : Hid (FR W1) := Lib.hid (HFB.out w9 W1 HF.out (by rw [hW1]; exact below_drewN (Below.refl _ _) _))
        replace cvl : W1.cell? (adl.add j) = some (.int .i64 zl) := by rw [hW1]; exact cvl
        replace cvm : W1.cell? (adm.add j) = some (.int .i64 zm) := by rw [hW1]; exact cvm
        replace cvs : W1.cell? (ads.add j) = some (.int .i64 zs) := by rw [hW1]; exact cvs
        clear hW1 w1 w2' w3' d1 d2 d3 cvv HSV HSS HSL HXX HYY HF HRR
        go_cut [176] (fun b wx => b = .bool false ∧ wx = W1)
        case first =>
          have HH := Lib.hid (r8Has_c Ar nr cr w8.heap.size rc j W1 (HFR.out W1 HF1.out).1.r.reads (HFR.out W1 HF1.out).1.he (by have := HLW.out.lr; have := (HFR.out W1 HF1.out).1.r.reads.len; omega))
          by_cases hl : 0 < zl
          · have d3 : decide (0 < zl) = true := by simpa using hl
            rw [HR1.out hl] at HH
            by_cases hm : 0 < zm
            · have d4 : decide (0 < zm) = true := by simpa using hm
              go_wp2_with fail
              refine HH.out.mono ?_
              rintro e wx ⟨rfl, rfl⟩
              go_wp2_with fail
              refine HH.out.mono ?_
              rintro e wx ⟨rfl, rfl⟩
              go_wp2_with fail
              go_meet
              exact ⟨rfl, rfl⟩
            · have d4 : decide (0 < zm) = false := by simpa using hm
              go_wp2_with fail
              refine HH.out.mono ?_
              rintro e wx ⟨rfl, rfl⟩
              go_wp2_with fail
              go_meet
              exact ⟨rfl, rfl⟩
          · have d3 : decide (0 < zl) = false := by simpa using hl
            by_cases hm : 0 < zm
            · have d4 : decide (0 < zm) = true := by simpa using hm
              rw [HR2.out hm] at HH
              go_wp2_with fail
              refine HH.out.mono ?_
              rintro e wx ⟨rfl, rfl⟩
              go_wp2_with fail
              go_meet
              exact ⟨rfl, rfl⟩
            · have d4 : decide (0 < zm) = false := by simpa using hm
              go_wp2_with fail
              go_meet
              exact ⟨rfl, rfl⟩
        case rest =>
          obtain ⟨rfl, hwx⟩ := hcut
          rw [hwx]
          clear hwx
          have HFF := Lib.hid (HFR.out W1 HF1.out)
          have x0 : W1.cell? ⟨w1.heap.size, 0, none⟩ = some (.int .i64 r) := HFF.out.2.1.cell 0
          have x1 : W1.cell? ⟨w1.heap.size, 1, none⟩ = some (.int .i64 co) := HFF.out.2.1.cell 1
          have x2 : W1.cell? ⟨w1.heap.size, 2, none⟩ = some (.int .i64 sz) := HFF.out.2.1.cell 2
          have x3 : W1.cell? ⟨w1.heap.size, 3, none⟩ = some (.slice GA ns gc) := HFF.out.2.1.cell 3
          have HNB := Lib.hid (sNeighboursOf_c ⟨r, co, sz, hs⟩ GA ns gc _ j W1 HFF.out.2.2.1 HOK.out hlt)
          have HNI : Hid (∀ x ∈ nearV ⟨r, co, sz, hs⟩ j 8, (slopeToV ⟨r, co, sz, hs⟩ j x).2 = 0) := Lib.hid (fun x hx => near_in HOK.out hx (by rw [HFF.out.2.2.1.len]; exact hlt))
          clear HR1 HR2 HFF
          go_wp2_with fail
          refine HNB.out.mono ?_
          rintro e W2 ⟨Aq, q, cq, rfl, OQ, BQ⟩
          have HF2 := Lib.hid (HFB.out W1 W2 HF1.out BQ)
          have HQ := Lib.hid OQ
          have HLQ := Lib.hid (OQ.reads.len)
          have hq8 : q ≤ 8 := by
            have h1 := nearV_len (cell := (j : Int)) (Gr.ok_bd HOK.out) (Nat.le_refl 8)
            have h2 := HLQ.out
            omega
          generalize nearV ⟨r, co, sz, hs⟩ j 8 = nb at *
          replace cvl : W2.cell? (adl.add j) = some (.int .i64 zl) := by rw [BQ.cell (World.block_lt_of_cell? _ _ cvl)]; exact cvl
          replace cvm : W2.cell? (adm.add j) = some (.int .i64 zm) := by rw [BQ.cell (World.block_lt_of_cell? _ _ cvm)]; exact cvm
          replace cvs : W2.cell? (ads.add j) = some (.int .i64 zs) := by rw [BQ.cell (World.block_lt_of_cell? _ _ cvs)]; exact cvs
          have HCL := Lib.hid cvl
          have HCM := Lib.hid cvm
          have HCS := Lib.hid cvs
          clear x0 x1 x2 x3 OQ BQ HNB HF1 cvl cvm cvs
          go_wp2
          go_loopw [23, 24] (fun rv iv wr => ∃ i : Nat, i ≤ q ∧ iv = .int .i64 i ∧ rv = .bool (runsB ⟨r, co, sz, hs⟩ fr j (nb.take i)) ∧ Hid (FR wr) ∧ Hid (Below W2.heap.size W2 wr)) (fun _ iv _ => q - (intOf iv).toNat)
          case atStart => exact ⟨0, Nat.zero_le _, rfl, rfl, HF2, Lib.hid (Below.refl _ _)⟩
          case round =>
            clear HF2
            obtain ⟨i, hi, rfl, rfl, HF, HB⟩ := hrel
            by_cases hiq : i < q
            · obtain ⟨adq, x, rfl, hx, cx⟩ := Own.intAt (HQ.out.below HB.out (Nat.le_refl _)) hiq
              have HFF := Lib.hid (HFR.out wr HF.out)
              have x0 : wr.cell? ⟨w1.heap.size, 0, none⟩ = some (.int .i64 r) := HFF.out.2.1.cell 0
              have x1 : wr.cell? ⟨w1.heap.size, 1, none⟩ = some (.int .i64 co) := HFF.out.2.1.cell 1
              have x2 : wr.cell? ⟨w1.heap.size, 2, none⟩ = some (.int .i64 sz) := HFF.out.2.1.cell 2
              have x3 : wr.cell? ⟨w1.heap.size, 3, none⟩ = some (.slice GA ns gc) := HFF.out.2.1.cell 3
              have HST := Lib.hid fun W (hW : Below wr.heap.size wr W) => sSlopeTo_c ⟨r, co, sz, hs⟩ GA ns gc _ j x W (HFF.out.2.2.1.below hW)
              have hs2 := HNI.out x (List.mem_of_getElem? hx)
              have HRT := Lib.hid (runs_take (g := ⟨r, co, sz, hs⟩) (fr := fr) (k := j) hx)
              rw [hs2] at HST
              generalize slopeToV ⟨r, co, sz, hs⟩ j x = sv at *
              have hiq' : (i : Int) < (q : Int) := by omega
              have hi0 : (0 : Int) ≤ (i : Int) := by omega
              clear hx HFF hs2
              go_upto_region 30 with (fail)
              have qx0 := cell_regrown x0
              have qx1 := cell_regrown x1
              have qx2 := cell_regrown x2
              have qx3 := cell_regrown x3
              have qcx := cell_regrown cx
              refine wp_region_quiet_below (by kernel_rfl) (by kernel_rfl) ?_
              repeat (first | go_big_quiet_step (((go_at_call 22; exact Calls.regrown_of (HST.out _ (below_regrown _ _ _))))) | quiet_step (((go_at_call 22; exact Calls.regrown_of (HST.out _ (below_regrown _ _ _))))))
              refine wpQuiet_nil ?_
              intro W5 B5
              replace B5 := Lib.hid (show Below (wr).heap.size (wr) W5 from by obtain ⟨pq, rfl⟩ := B5; exact below_regrown _ _ _)
              clear qx0 qx1 qx2 qx3 qcx
              have HF5 := Lib.hid (HFB.out wr W5 HF.out B5.out)
              have HB5 := Lib.hid (HB.out.trans (B5.out.mono HB.out.size))
              clear x0 x1 x2 x3 cx HST HF HB B5
              cases hrb : runsB ⟨r, co, sz, hs⟩ fr j (nb.take i)
              · by_cases hsl : fr ≤ sv.1
                · have d1 : decide (fr ≤ sv.1) = true := by simpa using hsl
                  have HRN : Hid (runsB ⟨r, co, sz, hs⟩ fr j (nb.take (i + 1)) = true) := Lib.hid (by rw [HRT.out, hrb, d1]; rfl)
                  clear hrb HRT
                  go_wp2
                  go_roundw
                  case rel => exact ⟨i + 1, by omega, by go_num, by rw [HRN.out], HF5, HB5⟩
                  case measure => simp [intOf]; omega
                · have d1 : decide (fr ≤ sv.1) = false := by simpa using hsl
                  have HRN : Hid (runsB ⟨r, co, sz, hs⟩ fr j (nb.take (i + 1)) = false) := Lib.hid (by rw [HRT.out, hrb, d1]; rfl)
                  clear hrb HRT
                  go_wp2
                  go_roundw
                  case rel => exact ⟨i + 1, by omega, by go_num, by rw [HRN.out], HF5, HB5⟩
                  case measure => simp [intOf]; omega
              · have HRN : Hid (runsB ⟨r, co, sz, hs⟩ fr j (nb.take (i + 1)) = true) := Lib.hid (by rw [HRT.out, hrb]; rfl)
                clear hrb HRT
                go_wp2
                go_roundw
                case rel => exact ⟨i + 1, by omega, by go_num, by rw [HRN.out], HF5, HB5⟩
                case measure => simp [intOf]; omega
            · obtain rfl : i = q := by omega
              rw [show nb.take i = nb from List.take_of_length_le (by have := HLQ.out; omega)]
              have cvl : wr.cell? (adl.add j) = some (.int .i64 zl) := by rw [HB.out.cell (World.block_lt_of_cell? _ _ HCL.out)]; exact HCL.out
              have cvm : wr.cell? (adm.add j) = some (.int .i64 zm) := by rw [HB.out.cell (World.block_lt_of_cell? _ _ HCM.out)]; exact HCM.out
              have cvs : wr.cell? (ads.add j) = some (.int .i64 zs) := by rw [HB.out.cell (World.block_lt_of_cell? _ _ HCS.out)]; exact HCS.out
              generalize wr = W6 at *
              cases hrb : runsB ⟨r, co, sz, hs⟩ fr j nb
              · have hzz := HY2.out hrb
                subst hzz
                have d1 : (zs != zs) = false := by simp
                go_upto_region 34 with (fail)
                refine wp_region_quiet_lit (by kernel_rfl) (by kernel_rfl) ?_
                repeat (first | go_big_quiet_step (fail) | quiet_step (fail))
                refine wpQuiet_nil ?_
                intro _ hw'
                obtain ⟨nq, hw''⟩ := hw'
                subst hw''
                go_wp2
                go_roundw
                case rel => exact ⟨j + 1, by omega, by go_num, rfl, rfl, Lib.hid (HFB.out W6 _ HF.out (below_drewN (Below.refl _ _) _))⟩
                case measure => simp [intOf]; omega
              · obtain ⟨hz1, hz2⟩ := HY1.out hrb
                subst hz1 hz2
                go_upto_region 34 with (fail)
                refine wp_region_quiet_lit (by kernel_rfl) (by kernel_rfl) ?_
                repeat (first | go_big_quiet_step (fail) | quiet_step (fail))
                refine wpQuiet_nil ?_
                intro _ hw'
                obtain ⟨nq, hw''⟩ := hw'
                subst hw''
                go_wp2
                go_roundw
                case rel => exact ⟨j + 1, by omega, by go_num, rfl, rfl, Lib.hid (HFB.out W6 _ HF.out (below_drewN (Below.refl _ _) _))⟩
                case measure => simp [intOf]; omega
      · obtain rfl : j = ns := by omega
        have tv : mv.take j = mv := List.take_of_length_le (by have := HLW.out.lv; omega)
        have ts : st.take j = st := List.take_of_length_le (by have := HLW.out.ls; omega)
        have tl : la.take j = la := List.take_of_length_le (by have := HLW.out.ll; omega)
        have q1 := HLW.out.s1
        have q2 := HLW.out.s2
        rw [tv, ts, tl, q1, q2]
        go_wp2
        go_ret
        exact ⟨ret_bool (by simp), (HFR.out w9 HF.out).2.2.2⟩
namespace fnRouting
set_option maxRecDepth 100000 in
theorem lifted (os : Os) (started : os.Started) (H : Type) (enc : TypeId × Value → H) :
    ReturnsInHanded {} Try.checked os 3 .any (Rows.fnRoutingSpec.pre6 enc Try.prog Try.f3 Rows.fnRoutingRow.domain false) (Rows.fnRoutingSpec.post enc Try.prog Try.f3 false true false false) := by
  refine returnsInHanded_of_change (C := Try.checked) ownKnobNone started (by kernel_rfl) Try.func3
    (ChangeSpec.witness6 (enc := enc) (C := Try.checked) false ⟨#[], #[.slice none 0 0, .slice none 0 0], []⟩ 8 (by kernel_rfl) (by kernel_rfl) (by kernel_rfl) (by kernel_rfl)) ?_
  intro W base args ds gs before hval0 hW hcnd _
  have hval : ∀ (j : Nat) t v, Try.f3.params[j]? = some t → args[j]? = some v → Value.okWide Try.prog W .any base t v := hval0
  have hW' := hW
  obtain ⟨p, q, hA0, hV, rfl, hfz, hnd⟩ := hW
  have hA : DataW.TrodAll enc Try.prog W 0 (fun _ => true) true Try.f3.params.toList args.toList ds p := hA0
  rw [Try.params3] at hA hval
  obtain ⟨v0, vs0, d0, ds0, p0, q0, hargs, rfl, rfl, h0, r0⟩ := trodAll_cons hA
  obtain ⟨v1, vs1, d1, ds1, p1, q1, rfl, rfl, rfl, h1, r1⟩ := trodAll_cons r0
  obtain ⟨rfl, rfl, rfl⟩ := trodAll_nil r1
  obtain rfl : args = #[v0, v1] := by cases args; simp_all
  obtain ⟨rfl, rfl⟩ := trodVars_none hV
  have k0 := h0
  have lt0 : ∀ x ∈ p0, x.block < W.heap.size := by obtain ⟨m, hm⟩ := k0; exact DataW.trod_lt m _ _ _ hm
  have k1 := h1
  have lt1 : ∀ x ∈ p1, x.block < W.heap.size := by obtain ⟨m, hm⟩ := k1; exact DataW.trod_lt m _ _ _ hm
  obtain ⟨A0, n0, c0, z0, rfl, R0, -, -, wf0⟩ := open_u8s (hval 0 22 v0 rfl rfl) h0
  obtain ⟨A1, n1, c1, z1, rfl, R1, -, -, wf1⟩ := open_u8s (hval 1 22 v1 rfl rfl) h1
  clear hA0 hval0
  refine (wRouting W A0 n0 c0 z0 R0 wf0 A1 n1 c1 z1 R1 wf1).mono fun e W' ⟨he, bel⟩ => ?_
  subst he
  exact ⟨_, rfl, _, _, _, [], _, [], hW', trodAll_mk1 (shut_bool Try.underlying4 _), (trodAll_cons_mk (Below.trod laidOut (by kernel_rfl) (of_decide_eq_true (by kernel_rfl)) k0 bel lt0) (trodAll_cons_mk (Below.trod laidOut (by kernel_rfl) (of_decide_eq_true (by kernel_rfl)) k1 bel lt1) trodAll_mk0)), rfl, bel.frame _, fun h => by cases h⟩
theorem over : Rows.fnRoutingRow.holds Try.pinned (OpenSpec.ofChange Rows.fnRoutingSpec) :=
  OpenClaim.holds_of_wide 3 Try.f3 rfl rfl rfl rfl rfl rfl rfl ⟨rfl, rfl, rfl, rfl, rfl⟩ rfl rfl rfl rfl rfl (by kernel_rfl) Try.func3 (by kernel_rfl)
    (of_decide_eq_true (by kernel_rfl)) (by unfold Func.isWrapper; first | (rw [if_pos (by decide +kernel)]; kernel_rfl) | (rw [if_neg (by decide +kernel)]; exact ⟨rfl, rfl⟩))
    (fun os started H enc _ => lifted os started H enc)
theorem proved : Rows.FnRoutingSaid := over
end fnRouting
end Go.Proofs.Ytaoomildopmclaa
