/- Masses that run: RouteStep of both sides. -/
import Derived.Test.YtaoomildopmclaaRoD
namespace Go.Proofs.Ytaoomildopmclaa
open Go.ChangeShapes Go.WideShapes Go.ChangeAt Go.RowKit
set_option linter.unusedVariables false
theorem results_tmp3 {fn : Func} {t u v : Tmp} (h : fn.results = #[.tmp t, .tmp u, .tmp v]) (tmps : Array Value) (P : Program) (w : World) :
    (results fn tmps).run P w = .ok (.tuple #[tmps.getD t undef, tmps.getD u undef, tmps.getD v undef]) w := by
  simp [results, h]
def routeStepV (g : Gr) (ms : List Int) (fr : Int) : (List Int × List Int) × Int := if routeV g ms fr [] = 0 then (routeTo g fr ms ms.length, 0) else (([], []), routeV g ms fr [])
def RStepPost (v : (List Int × List Int) × Int) (w : World) (e : Ending) (w' : World) : Prop :=
  ∃ D dn d F fn f a a' b b', e = .returned (.tuple #[.slice D dn d, .slice F fn f, .int .i64 v.2]) ∧ Own w' a a' 2 1 (.slice D dn d) dn (ints v.1.1) ∧ Own w' b b' 2 1 (.slice F fn f) fn (ints v.1.2) ∧ (a' ≤ b ∨ b' ≤ a) ∧ w.heap.size ≤ a ∧ w.heap.size ≤ b ∧ a' ≤ w'.heap.size ∧ b' ≤ w'.heap.size ∧ dn ≤ 64 ∧ fn ≤ 64 ∧ Below w.heap.size w w'
theorem RStepPost.err {v : (List Int × List Int) × Int} {k : Int} {w w' : World} (hv : v = (([], []), k)) (hb : Below w.heap.size w w') : RStepPost v w (.returned (.tuple #[.slice none 0 0, .slice none 0 0, .int .i64 k])) w' := by
  subst hv
  have := hb.size
  exact ⟨none, 0, 0, none, 0, 0, w.heap.size, w.heap.size, w.heap.size, w.heap.size, rfl, Own.nil, Own.nil, by omega, by omega, by omega, by omega, by omega, by omega, by omega, hb⟩
theorem routeOk {g : Gr} {ms : List Int} {fr : Int} (h : routeV g ms fr [] = 0) : g.ok = true ∧ 1 ≤ fr ∧ fr ≤ 5000 ∧ ms.length = g.hs.length ∧ Nn ms ∧ ms.sum ≤ 64000000 := by
  obtain ⟨h1, h2, _, h4⟩ := routeV_zero h
  obtain ⟨h5, h6⟩ := massB_all h4
  have hb := (Gr.ok_bd h1).len64
  have hall : ∀ x ∈ ms, 0 ≤ x ∧ x ≤ 1000000 := fun x hx => allIn_mem h5 x hx
  have hs := (sumZ_bd 1000000 (by omega) ms hall).2
  have hl : (ms.length : Int) ≤ 64 := by omega
  have hs2 : ms.sum ≤ 1000000 * ms.length := hs
  refine ⟨h1, ?_, ?_, h6, ?_, by omega⟩
  · unfold frictB inB at h2; simp at h2; exact h2.1
  · unfold frictB inB at h2; simp at h2; exact h2.2
  · intro k
    unfold at0
    cases hk : ms[k]? with
    | none => simp
    | some z => exact (hall z (List.mem_of_getElem? hk)).1
set_option maxHeartbeats 2000000 in
theorem iRouteStep_c (g : Gr) (A : Option Addr) (n c B : Nat) (D : Option Addr) (m d BD : Nat) (ms : List Int) (fr : Int) (w : World) (hg : GS w B g A n c) (hd : Reads w BD 1 D m (ints ms)) (hD : BD ≤ w.heap.size) (hm : m ≤ 1048576) :
    Calls Try.prog 17 #[g.val A n c, .slice D m d, .int .i64 fr] w (RStepPost (routeStepV g ms fr) w) := by
  have HRC := Lib.hid fun W (hW : Below w.heap.size w W) => routeCode_c g A n c B D m d BD ms fr none 0 0 0 [] W (hg.below hW) (hd.below (hW.mono hD)) (by have := hW.size; omega) hm Reads.none_ (by omega) (by omega)
  have HT := Lib.hid ((Below.refl w.heap.size w).alloc (Nat.le_refl _) (.cells (g.cells A n c) 26))
  have HS : Hid ((w.alloc (.cells (g.cells A n c) 26)).heap.size = w.heap.size + 1) := Lib.hid (by simp)
  have HV := Lib.hid (show routeStepV g ms fr = if routeV g ms fr [] = 0 then (routeTo g fr ms ms.length, 0) else (([], []), routeV g ms fr []) from rfl)
  have HLM := Lib.hid (show ms.length = m from hd.len)
  have HK := Lib.hid (Blk.new w 26 (g.cells A n c))
  by_cases h0 : routeV g ms fr [] = 0
  · obtain ⟨hok, hf1, hf2, hlen, hnn, hsm⟩ := routeOk h0
    have hmn : m = n := by have := hg.len; have := HLM.out; omega
    subst hmn
    have HRT := Lib.hid fun W (hW : Below w.heap.size w W) => route_c g A m c B D d BD ms fr W (hg.below hW) hok (hd.below (hW.mono hD)) (by have := hW.size; omega) hnn hsm hf1 hf2
    have hm64 := (Gr.ok_bd hok).len64.1
    rw [h0] at HRC
    have HVV : Hid (routeStepV g ms fr = (routeTo g fr ms m, 0)) := Lib.hid (by rw [HV.out, h0, if_pos rfl, HLM.out])
    have hm64' : m ≤ 64 := by have := HLM.out; omega
    clear h0 hok hlen hnn hsm HV hg hd hm64
    generalize routeStepV g ms fr = tv at *
    generalize routeTo g fr ms m = rt at *
    obtain ⟨r, co, s, hs⟩ := g
    simp only [Gr.val, Gr.cells] at *
    go_enter Try.func17, Try.ntmps17
    have k0 := HK.out.cell 0
    have k1 := HK.out.cell 1
    have k2 := HK.out.cell 2
    have k3 := HK.out.cell 3
    clear k0 k1 k2 k3
    go_wp2_with fail
    refine (HRC.out _ HT.out).mono ?_
    rintro e w1 ⟨rfl, hb1⟩
    have HB := Lib.hid (HT.out.trans (hb1.mono (by rw [HS.out]; omega)))
    have HK1 := Lib.hid (HK.out.below hb1 (by rw [HS.out]; omega))
    clear hb1
    have k0 := HK1.out.cell 0
    have k1 := HK1.out.cell 1
    have k2 := HK1.out.cell 2
    have k3 := HK1.out.cell 3
    simp at k0 k1 k2 k3
    go_wp2_with fail
    refine (HRT.out w1 HB.out).mono ?_
    rintro e w2 ⟨D1, d1, F1, f1, a, a', b, b', rfl, O1, O2, hab, ha, hb, ha', hb', B2⟩
    have hbs := HB.out.size
    have HO1 := Lib.hid O1
    have HO2 := Lib.hid O2
    have HB2 := Lib.hid (HB.out.trans (B2.mono hbs))
    clear O1 O2 B2 k0 k1 k2 k3
    go_wp2
    try simp only [Exit.inBlock, Exit.then]
    refine bodyPost_ret (results_tmp3 rfl _ _ _) rfl ?_
    exact ⟨D1, m, d1, F1, m, f1, a, a', b, b', by rw [HVV.out]; rfl, by rw [HVV.out]; exact HO1.out, by rw [HVV.out]; exact HO2.out, hab, by omega, by omega, ha', hb', hm64', hm64', HB2.out⟩
  · have hne : (routeV g ms fr [] != 0) = true := by simpa using h0
    have HVV : Hid (routeStepV g ms fr = (([], []), routeV g ms fr [])) := Lib.hid (by rw [HV.out, if_neg h0])
    clear h0 HV hg hd
    generalize routeStepV g ms fr = tv at *
    generalize routeV g ms fr [] = rv at *
    obtain ⟨r, co, s, hs⟩ := g
    simp only [Gr.val, Gr.cells] at *
    go_enter Try.func17, Try.ntmps17
    go_wp2_with fail
    refine (HRC.out _ HT.out).mono ?_
    rintro e w1 ⟨rfl, hb1⟩
    have HB := Lib.hid (HT.out.trans (hb1.mono (by rw [HS.out]; omega))); clear hb1
    go_wp2
    try simp only [Exit.inBlock, Exit.then]
    refine bodyPost_ret (results_tmp3 rfl _ _ _) rfl ?_
    exact RStepPost.err HVV.out HB.out
set_option maxHeartbeats 1000000 in
theorem l13Ask_c (g : Gr) (b : Nat) (A : Option Addr) (n c B : Nat) (D : Option Addr) (m d BD : Nat) (ms : List Int) (fr : Int) (w : World) (hg : GP w b B g A n c) (hd : Reads w BD 1 D m (ints ms)) (hD : BD ≤ w.heap.size) (hm : m ≤ 1048576) :
    Calls Try.prog 74 #[.pointer (some ⟨b, 0, none⟩), .slice D m d, .int .i64 fr] w fun e w' => e = .returned (.int .i64 (routeV g ms fr [])) ∧ ∃ q, w' = w.drewN q := by
  have HO := Lib.hid (l09Ok_c g b A n c B w hg)
  have HMM := Lib.hid fun (hok : g.ok = true) q => l13Masses_c g b A n c B D m d BD ms _ (hg.below (below_drewN (Below.refl _ _) q)) hok (hd.drewN q) (by simpa using hD) hm
  have HR := Lib.hid (show routeV g ms fr [] = if g.ok = false then 1 else if frictB fr = false ∨ codeG g [] ≠ 0 then 2 else if massB g ms = false then 7 else 0 from rfl)
  have HCG : Hid (g.ok = true → codeG g [] = 0) := Lib.hid (fun h => by unfold codeG; simp [h, allInB])
  have HFB := Lib.hid (show frictB fr = inB fr 1 5000 from rfl)
  clear hg hd
  generalize massB g ms = mb at *
  generalize codeG g [] = cg at *
  generalize routeV g ms fr [] = rv at *
  generalize g.ok = ok at *
  cases ok
  · go_enter Try.func74, Try.ntmps74
    go_wp2_with fail
    refine HO.out.mono ?_
    rintro e w' ⟨rfl, q, rfl⟩
    go_wp2
    go_ret
    exact ⟨ret_int (by rw [HR.out]; rfl), q, rfl⟩
  · have HC0 := HCG.out rfl
    subst HC0
    go_enter Try.func74, Try.ntmps74
    go_wp2_with fail
    refine HO.out.mono ?_
    rintro e w' ⟨rfl, q, rfl⟩
    go_wp2_with fail
    refine (l00In_c fr 1 5000 _).mono ?_
    rintro e w' ⟨rfl, rfl⟩
    cases hf : inB fr 1 5000
    · have HRV : Hid (rv = 2) := Lib.hid (by rw [HR.out, HFB.out, hf]; simp)
      clear hf
      go_wp2
      go_ret
      exact ⟨ret_int HRV.out.symm, q, rfl⟩
    · have HRV : Hid (rv = if mb = false then 7 else 0) := Lib.hid (by rw [HR.out, HFB.out, hf]; simp)
      clear hf
      go_wp2_with fail
      refine (HMM.out trivial q).mono ?_
      rintro e w' ⟨rfl, q', rfl⟩
      cases mb
      · go_wp2
        go_ret
        exact ⟨ret_int (by rw [HRV.out]; rfl), q + q', by simp⟩
      · go_wp2
        go_ret
        exact ⟨ret_int (by rw [HRV.out]; rfl), q + q', by simp⟩
set_option maxHeartbeats 2000000 in
theorem sRouteStep_c (g : Gr) (A : Option Addr) (n c B : Nat) (D : Option Addr) (m d BD : Nat) (ms : List Int) (fr : Int) (w : World) (hg : GS w B g A n c) (hd : Reads w BD 1 D m (ints ms)) (hD : BD ≤ w.heap.size) (hm : m ≤ 1048576) :
    Calls Try.prog 44 #[g.val A n c, .slice D m d, .int .i64 fr] w (RStepPost (routeStepV g ms fr) w) := by
  have HP := Lib.hid (GP.new hg)
  have HT := Lib.hid ((Below.refl w.heap.size w).alloc (Nat.le_refl _) (.cells (g.cells A n c) 26))
  have HAS := Lib.hid (l13Ask_c g w.heap.size A n c B D m d BD ms fr _ HP.out (hd.below (HT.out.mono hD)) (by have := HT.out.size; omega) hm)
  have HV := Lib.hid (show routeStepV g ms fr = if routeV g ms fr [] = 0 then (routeTo g fr ms ms.length, 0) else (([], []), routeV g ms fr []) from rfl)
  have HLM := Lib.hid (show ms.length = m from hd.len)
  have HS : Hid ((w.alloc (.cells (g.cells A n c) 26)).heap.size = w.heap.size + 1) := Lib.hid (by simp)
  by_cases h0 : routeV g ms fr [] = 0
  · obtain ⟨hok, hf1, hf2, hlen, hnn, hsm⟩ := routeOk h0
    have hmn : m = n := by have := hg.len; have := HLM.out; omega
    subst hmn
    have HRT := Lib.hid fun q => l13Step_c g w.heap.size A m c B D d BD ms fr _ (HP.out.below (below_drewN (Below.refl _ _) q)) hok ((hd.below (HT.out.mono hD)).drewN q) (by have := HT.out.size; simp; omega) hnn hsm hf1
    have hm64 := (Gr.ok_bd hok).len64.1
    rw [h0] at HAS
    have HVV : Hid (routeStepV g ms fr = (routeTo g fr ms m, 0)) := Lib.hid (by rw [HV.out, h0, if_pos rfl, HLM.out])
    have hm64' : m ≤ 64 := by have := HLM.out; omega
    clear h0 hok hlen hnn hsm HV hg hd hm64 HP
    generalize routeStepV g ms fr = tv at *
    generalize routeTo g fr ms m = rt at *
    obtain ⟨r, co, s, hs⟩ := g
    simp only [Gr.val, Gr.cells] at *
    go_enter Try.func44, Try.ntmps44
    go_wp2_with fail
    refine HAS.out.mono ?_
    rintro e w1 ⟨rfl, q, rfl⟩
    go_wp2_with fail
    refine (HRT.out q).mono ?_
    rintro e w2 ⟨D1, d1, F1, f1, a, a', b, b', rfl, O1, O2, hab, ha, hb, ha', hb', B2⟩
    have hsz := HS.out
    have hbs : w.heap.size ≤ ((w.alloc (.cells #[.int .i64 r, .int .i64 co, .int .i64 s, .slice A m c] 26)).drewN q).heap.size := by simp
    have HO1 := Lib.hid O1
    have HO2 := Lib.hid O2
    have HB2 := Lib.hid ((below_drewN HT.out q).trans (B2.mono hbs))
    have ha2 := Nat.le_trans hbs ha
    have hb2 := Nat.le_trans hbs hb
    clear O1 O2 B2 ha hb
    go_wp2
    try simp only [Exit.inBlock, Exit.then]
    refine bodyPost_ret (results_tmp3 rfl _ _ _) rfl ?_
    exact ⟨D1, m, d1, F1, m, f1, a, a', b, b', by rw [HVV.out]; rfl, by rw [HVV.out]; exact HO1.out, by rw [HVV.out]; exact HO2.out, hab, ha2, hb2, ha', hb', hm64', hm64', HB2.out⟩
  · have hne : (routeV g ms fr [] != 0) = true := by simpa using h0
    have HVV : Hid (routeStepV g ms fr = (([], []), routeV g ms fr [])) := Lib.hid (by rw [HV.out, if_neg h0])
    clear h0 HV hg hd HP
    generalize routeStepV g ms fr = tv at *
    generalize routeV g ms fr [] = rv at *
    obtain ⟨r, co, s, hs⟩ := g
    simp only [Gr.val, Gr.cells] at *
    go_enter Try.func44, Try.ntmps44
    go_wp2_with fail
    refine HAS.out.mono ?_
    rintro e w1 ⟨rfl, q, rfl⟩
    go_wp2
    try simp only [Exit.inBlock, Exit.then]
    refine bodyPost_ret (results_tmp3 rfl _ _ _) rfl ?_
    exact RStepPost.err HVV.out (below_drewN HT.out _)
end Go.Proofs.Ytaoomildopmclaa
