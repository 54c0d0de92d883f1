/- Masses that run: ArrivalOf of both sides. -/
import Derived.Test.YtihjlmlhipngmaaAvC
namespace Go.Proofs.Ytihjlmlhipngmaa
open Go.ChangeShapes Go.WideShapes Go.ChangeAt Go.RowKit
set_option linter.unusedVariables false
theorem routeV_cell (g : Gr) (ms : List Int) (fr cell : Int) : routeV g ms fr [cell] = if g.ok = false then 1 else if inG g cell = false then 2 else routeV g ms fr [] := by
  by_cases hok : g.ok = false
  · rw [routeV, if_pos hok, if_pos hok]
  · have hok' : g.ok = true := by simpa using hok
    rw [if_neg hok, routeV, if_neg hok, codeG_one]
    unfold askG
    rw [if_neg hok]
    by_cases hc : inG g cell = false
    · rw [if_pos hc, if_pos hc, if_pos (.inr (by decide))]
    · rw [if_neg hc, if_neg hc, routeV, if_neg hok, codeG_nil hok']
theorem routeOkC {g : Gr} {ms : List Int} {fr cell : Int} (h : routeV g ms fr [cell] = 0) : g.ok = true ∧ inG g cell = true ∧ routeV g ms fr [] = 0 := by
  rw [routeV_cell] at h
  by_cases hok : g.ok = false
  · rw [if_pos hok] at h; exact absurd h (by decide)
  · rw [if_neg hok] at h
    by_cases hc : inG g cell = false
    · rw [if_pos hc] at h; exact absurd h (by decide)
    · rw [if_neg hc] at h
      exact ⟨by simpa using hok, by simpa using hc, h⟩
theorem inG_bd {g : Gr} {cell : Int} (h : inG g cell = true) : 0 ≤ cell ∧ cell < g.hs.length := by
  unfold inG inB at h; simp at h; omega
theorem orNotFoundR_c (n : Int) (b : Bool) (w : World) : Calls Try.prog 43 #[.int .i64 n, .bool b] w fun e w' => e = .returned (.tuple #[.int .i64 (if b then n else 0), .int .i64 (if b then 0 else 3)]) ∧ w = w' := by
  cases b
  all_goals
    go_enter Try.func43, Try.ntmps43
    go_wp2
    go_ret2
    exact ⟨rfl, rfl⟩
def ArrPost (v : Int × Int) (w : World) (e : Ending) (w' : World) : Prop := e = .returned (.tuple #[.int .i64 v.1, .int .i64 v.2]) ∧ Below w.heap.size w w'
theorem arrivalV_of {g : Gr} {ms : List Int} {fr : Int} {k N : Nat} {z : Int} (h0 : routeV g ms fr [(k : Int)] = 0) (hN : EndAt g fr ms N) (hz : (preV g fr ms (N + 1))[k]? = some z) : arrivalV g ms fr k = if z < 0 then (0, 3) else (z, 0) := by
  obtain ⟨hok, hc, h1⟩ := routeOkC h0
  obtain ⟨_, hf1, _, hlen, hnn, _⟩ := routeOk h1
  have he := hN.eq (Gr.ok_bd hok) hlen.symm hf1 hnn
  have e : (k : Int).toNat = k := by omega
  rw [arrivalV, if_neg (by simp [h0]), he, e, at0_get hz]
set_option maxHeartbeats 2000000 in
set_option maxRecDepth 100000 in
theorem iArrivalOf_c (g : Gr) (A : Option Addr) (n c B : Nat) (D : Option Addr) (m d BD : Nat) (ms : List Int) (fr a : Int) (w : World) (hg : GS w B g A n c) (hd : Reads w BD 1 D m (ints ms)) (hD : BD ≤ w.heap.size) (hm : m ≤ 1048576) :
    Calls Try.prog 18 #[g.val A n c, .slice D m d, .int .i64 fr, .int .i64 a] w (ArrPost (arrivalV g ms fr a) w) := by
  have HT0 := Lib.hid ((Below.refl w.heap.size w).alloc (Nat.le_refl _) (.cells (g.cells A n c) 40))
  have HS0 : Hid ((w.alloc (.cells (g.cells A n c) 40)).heap.size = w.heap.size + 1) := Lib.hid (by simp)
  have HK0 := Lib.hid (Blk.new w 40 (g.cells A n c))
  obtain ⟨X0, hX0⟩ : ∃ X, X = w.alloc (.cells (g.cells A n c) 40) := ⟨_, rfl⟩
  rw [← hX0] at HT0 HS0 HK0
  obtain ⟨X1, hX1⟩ : ∃ X, X = X0.alloc (.cells #[.int .i64 a] 2) := ⟨_, rfl⟩
  have HR1 : Hid (Reads X1 (X0.heap.size + 1) 1 (some ⟨X0.heap.size, 0, none⟩) 1 (ints [a])) := Lib.hid (by rw [hX1]; exact greads_lit1 _ _)
  have HT1 : Hid (Below w.heap.size w X1) := Lib.hid (by rw [hX1]; exact HT0.out.alloc HT0.out.size _)
  have HS1 : Hid (X1.heap.size = w.heap.size + 1 + 1) := Lib.hid (by rw [hX1]; simp [HS0.out])
  have HK1 : Hid (Blk X1 w.heap.size 40 (g.cells A n c)) := Lib.hid (by rw [hX1]; exact HK0.out.alloc _)
  rw [HS0.out] at HR1
  have HC := Lib.hid (routeCode_c g A n c B D m d BD ms fr _ 1 1 _ [a] X1 (hg.below HT1.out) (hd.below (HT1.out.mono hD)) (by rw [HS1.out]; omega) hm HR1.out (by rw [HS1.out]; omega) (by omega))
  have HX1 := Lib.hid (show X1 = (w.alloc (.cells (g.cells A n c) 40)).alloc (.cells #[.int .i64 a] 2) from by rw [hX1, hX0])
  have HL := Lib.hid hg.len
  have HLM := Lib.hid (show ms.length = m from hd.len)
  have HG := Lib.hid hg
  clear hX0 hX1 HR1
  by_cases h0 : routeV g ms fr [a] = 0
  · obtain ⟨hok, hin, h1⟩ := routeOkC h0
    obtain ⟨_, hf1, hf2, hlen, hnn, hsm⟩ := routeOk h1
    obtain ⟨ha0, ha1⟩ := inG_bd hin
    have hmn : m = n := by have := HLM.out; have := HL.out; omega
    subst hmn
    obtain ⟨k, rfl⟩ : ∃ k : Nat, a = k := ⟨a.toNat, by omega⟩
    have hkn : k < m := by have := HLM.out; omega
    have HN := Lib.hid fun W (hW : Below w.heap.size w W) => run_c g A m c B D d BD ms fr W (hg.below hW) hok (hd.below (hW.mono hD)) (by have := hW.size; omega) hnn hsm hf1 hf2
    have HV := Lib.hid fun N z (hN : EndAt g fr ms N) hz => arrivalV_of (z := z) h0 hN hz
    rw [h0] at HC
    clear h0 hok hin h1 hlen hnn hsm ha0 ha1 hg hd
    simp only [Gr.val, Gr.cells] at *
    go_enter Try.func18, Try.ntmps18
    go_wp2_with fail
    rw [← HX1.out]
    refine HC.out.mono ?_
    rintro e w1 ⟨rfl, hb1⟩
    have HK2 := Lib.hid (HK1.out.below hb1 (by rw [HS1.out]; omega))
    have HT2 := Lib.hid (HT1.out.trans (hb1.mono HT1.out.size))
    clear hb1
    have x0 : w1.cell? ⟨w.heap.size, 0, none⟩ = some (.int .i64 g.rows) := HK2.out.cell 0
    have x1 : w1.cell? ⟨w.heap.size, 1, none⟩ = some (.int .i64 g.cols) := HK2.out.cell 1
    have x2 : w1.cell? ⟨w.heap.size, 2, none⟩ = some (.int .i64 g.size) := HK2.out.cell 2
    have x3 : w1.cell? ⟨w.heap.size, 3, none⟩ = some (.slice A m c) := HK2.out.cell 3
    go_wp2_with fail
    refine (HN.out w1 HT2.out).mono ?_
    rintro e w2 ⟨N, D1, F1, p, p', q, q', hN, rfl, O1, O2, hpq, hp, hq, hp', hq', B2⟩
    have HT3 := Lib.hid (HT2.out.trans (B2.mono HT2.out.size))
    obtain ⟨ad, z, rfl, hz, cz⟩ := O2.intAt hkn
    have HVZ := Lib.hid (HV.out N z hN hz)
    have hfd : ∀ W : World, (Instr.field 71 (.agg #[.slice D1 m m, .int .i64 (N : Nat), .slice (some ad) m m]) 2).run Try.prog W = .ok (.slice (some ad) m m) W := fun _ => by kernel_rfl
    have hkm : (k : Int) < (m : Int) := by omega
    have hk0 : (0 : Int) ≤ (k : Int) := by omega
    clear x0 x1 x2 x3 B2 O1 O2 hz hN HV
    go_wp2_with fail
    refine (orNotFoundR_c _ _ _).mono ?_
    rintro e w' ⟨rfl, rfl⟩
    by_cases hzn : z < 0
    · have hd : decide (0 ≤ z) = false := by simp; omega
      rw [if_pos hzn] at HVZ
      clear hzn
      go_wp2
      go_ret2
      exact ⟨ret2 (by rw [HVZ.out]) (by rw [HVZ.out]), HT3.out⟩
    · have hd : decide (0 ≤ z) = true := by simp; omega
      rw [if_neg hzn] at HVZ
      clear hzn
      go_wp2
      go_ret2
      exact ⟨ret2 (by rw [HVZ.out]) (by rw [HVZ.out]), HT3.out⟩
  · have hne : (routeV g ms fr [a] != 0) = true := by simpa using h0
    have HV : Hid (arrivalV g ms fr a = (0, routeV g ms fr [a])) := Lib.hid (by rw [arrivalV, if_pos h0])
    clear h0 hg hd
    generalize routeV g ms fr [a] = rv at *
    simp only [Gr.val, Gr.cells] at *
    go_enter Try.func18, Try.ntmps18
    go_wp2_with fail
    rw [← HX1.out]
    refine HC.out.mono ?_
    rintro e w1 ⟨rfl, hb1⟩
    have HT2 := Lib.hid (HT1.out.trans (hb1.mono HT1.out.size))
    clear hb1
    go_wp2
    go_ret2
    exact ⟨ret2 (by rw [HV.out]) (by rw [HV.out]), HT2.out⟩
set_option maxHeartbeats 2000000 in
set_option maxRecDepth 100000 in
theorem sArrivalOf_c (g : Gr) (A : Option Addr) (n c B : Nat) (D : Option Addr) (m d BD : Nat) (ms : List Int) (fr a : Int) (w : World) (hg : GS w B g A n c) (hd : Reads w BD 1 D m (ints ms)) (hD : BD ≤ w.heap.size) (hm : m ≤ 1048576) :
    Calls Try.prog 15 #[g.val A n c, .slice D m d, .int .i64 fr, .int .i64 a] w (ArrPost (arrivalV g ms fr a) w) := by
  have HT0 := Lib.hid ((Below.refl w.heap.size w).alloc (Nat.le_refl _) (.cells (g.cells A n c) 40))
  have HP0 := Lib.hid (GP.new hg)
  have HS0 : Hid ((w.alloc (.cells (g.cells A n c) 40)).heap.size = w.heap.size + 1) := Lib.hid (by simp)
  obtain ⟨X, hX⟩ : ∃ X, X = w.alloc (.cells (g.cells A n c) 40) := ⟨_, rfl⟩
  rw [← hX] at HT0 HP0 HS0
  have HD := Lib.hid (hd.below (HT0.out.mono hD))
  have hDX : BD ≤ X.heap.size := by have := HS0.out; omega
  have HO := Lib.hid (l09Ok_c g w.heap.size A n c B X HP0.out)
  have HC := Lib.hid fun (hok : g.ok = true) W (hW : Below X.heap.size X W) => l09Cell_c g w.heap.size A n c B a W (HP0.out.below hW) hok
  have HA := Lib.hid fun W (hW : Below X.heap.size X W) => l13Ask_c g w.heap.size A n c B D m d BD ms fr W (HP0.out.below hW) (HD.out.below (hW.mono hDX)) (by have := hW.size; omega) hm
  have HX := Lib.hid hX
  have HRC := Lib.hid (routeV_cell g ms fr a)
  have HL := Lib.hid hg.len
  have HLM := Lib.hid (show ms.length = m from hd.len)
  have HNE : Hid (routeV g ms fr [a] ≠ 0 → arrivalV g ms fr a = (0, routeV g ms fr [a])) := Lib.hid (fun h => by rw [arrivalV, if_pos h])
  have HB := Lib.hid (Below.refl X.heap.size X)
  clear hg hd hX
  cases hok : g.ok
  · rw [hok] at HO
    have HV : Hid (arrivalV g ms fr a = (0, 1)) := Lib.hid (by
      have h := HRC.out
      rw [if_pos hok] at h
      rw [HNE.out (by rw [h]; decide), h])
    clear hok
    simp only [Gr.val, Gr.cells] at *
    go_enter Try.func15, Try.ntmps15
    go_wp2_with fail
    rw [← HX.out]
    refine HO.out.mono ?_
    rintro e w1 ⟨rfl, q, rfl⟩
    go_wp2
    go_ret2
    exact ⟨ret2 (by rw [HV.out]) (by rw [HV.out]), below_drewN HT0.out _⟩
  · rw [hok] at HO
    replace HC := Lib.hid (HC.out hok)
    rw [if_neg (by simp [hok])] at HRC
    have HOK := Lib.hid hok
    clear hok
    cases hin : inG g a
    · rw [hin] at HC
      have HV : Hid (arrivalV g ms fr a = (0, 2)) := Lib.hid (by
        have h := HRC.out
        rw [if_pos hin] at h
        rw [HNE.out (by rw [h]; decide), h])
      clear hin
      simp only [Gr.val, Gr.cells] at *
      go_enter Try.func15, Try.ntmps15
      go_wp2_with fail
      rw [← HX.out]
      refine HO.out.mono ?_
      rintro e w1 ⟨rfl, q, rfl⟩
      go_wp2_with fail
      refine (HC.out _ (below_drewN HB.out q)).mono ?_
      rintro e w1 ⟨rfl, q2, rfl⟩
      go_wp2
      go_ret2
      exact ⟨ret2 (by rw [HV.out]) (by rw [HV.out]), below_drewN HT0.out _⟩
    · rw [hin] at HC
      rw [if_neg (by simp [hin])] at HRC
      obtain ⟨ha0, ha1⟩ := inG_bd hin
      obtain ⟨k, rfl⟩ : ∃ k : Nat, a = k := ⟨a.toNat, by omega⟩
      clear hin
      by_cases h0 : routeV g ms fr [] = 0
      · obtain ⟨hok, hf1, hf2, hlen, hnn, hsm⟩ := routeOk h0
        have hmn : m = n := by have := HLM.out; have := HL.out; omega
        subst hmn
        have hkn : k < m := by have := HLM.out; omega
        have HN := Lib.hid fun W (hW : Below X.heap.size X W) => l13Run_c g w.heap.size A m c B D d BD ms fr W (HP0.out.below hW) hok (HD.out.below (hW.mono hDX)) (by have := hW.size; omega) hnn hsm hf1
        have HV := Lib.hid fun N z (hN : EndAt g fr ms N) hz => arrivalV_of (z := z) (by rw [HRC.out]; exact h0) hN hz
        rw [h0] at HA
        clear h0 hok hlen hnn hsm ha0 ha1
        simp only [Gr.val, Gr.cells] at *
        go_enter Try.func15, Try.ntmps15
        go_wp2_with fail
        rw [← HX.out]
        refine HO.out.mono ?_
        rintro e w1 ⟨rfl, q, rfl⟩
        go_wp2_with fail
        refine (HC.out _ (below_drewN HB.out q)).mono ?_
        rintro e w1 ⟨rfl, q2, rfl⟩
        go_wp2_with fail
        refine (HA.out _ (below_drewN HB.out (q + q2))).mono ?_
        rintro e w1 ⟨rfl, q3, rfl⟩
        have HB3 := Lib.hid (below_drewN HB.out (q + q2 + q3))
        have HT3 := Lib.hid (below_drewN HT0.out (q + q2 + q3))
        obtain ⟨W3, hW3⟩ : ∃ W, W = X.drewN (q + q2 + q3) := ⟨_, rfl⟩
        go_wp2_with fail
        rw [← hW3] at HB3 HT3 ⊢
        clear hW3
        refine (HN.out W3 HB3.out).mono ?_
        rintro e w2 ⟨N, D1, d1, F1, f1, p, p', r, r', hN, rfl, O1, O2, hpq, hp, hq, hp', hq', B2⟩
        have HT4 := Lib.hid (HT3.out.trans (B2.mono HT3.out.size))
        obtain ⟨ad, z, rfl, hz, cz⟩ := O2.intAt hkn
        have HVZ := Lib.hid (HV.out N z hN hz)
        have hkm : (k : Int) < (m : Int) := by omega
        have hk0 : (0 : Int) ≤ (k : Int) := by omega
        clear B2 O1 O2 hz hN HV
        by_cases hzn : z < 0
        · have hd : decide (z < 0) = true := by simpa using hzn
          rw [if_pos hzn] at HVZ
          go_wp2
          go_ret2
          exact ⟨ret2 (by rw [HVZ.out]) (by rw [HVZ.out]), HT4.out⟩
        · have hd : decide (z < 0) = false := by simpa using hzn
          rw [if_neg hzn] at HVZ
          go_wp2
          go_ret2
          exact ⟨ret2 (by rw [HVZ.out]) (by rw [HVZ.out]), HT4.out⟩
      · have hne : (routeV g ms fr [] != 0) = true := by simpa using h0
        have HV : Hid (arrivalV g ms fr k = (0, routeV g ms fr [])) := Lib.hid (by
          have h := HRC.out
          rw [HNE.out (by rw [h]; exact h0), h])
        clear h0
        generalize routeV g ms fr [] = rv at *
        simp only [Gr.val, Gr.cells] at *
        go_enter Try.func15, Try.ntmps15
        go_wp2_with fail
        rw [← HX.out]
        refine HO.out.mono ?_
        rintro e w1 ⟨rfl, q, rfl⟩
        go_wp2_with fail
        refine (HC.out _ (below_drewN HB.out q)).mono ?_
        rintro e w1 ⟨rfl, q2, rfl⟩
        go_wp2_with fail
        refine (HA.out _ (below_drewN HB.out (q + q2))).mono ?_
        rintro e w1 ⟨rfl, q3, rfl⟩
        go_wp2
        go_ret2
        exact ⟨ret2 (by rw [HV.out]) (by rw [HV.out]), below_drewN HT0.out (q + q2 + q3)⟩
end Go.Proofs.Ytihjlmlhipngmaa
