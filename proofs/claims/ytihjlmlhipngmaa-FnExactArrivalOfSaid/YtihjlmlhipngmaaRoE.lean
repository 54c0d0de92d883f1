/- Masses that run: RouteStep of both sides. -/
import Derived.Test.YtihjlmlhipngmaaRoD
namespace Go.Proofs.Ytihjlmlhipngmaa
open Go.ChangeShapes Go.WideShapes Go.ChangeAt Go.RowKit
set_option linter.unusedVariables false
theorem results_tmp3 {fn : Func} {t u v : Tmp} (h : fn.results = #[.tmp t, .tmp u, .tmp v]) (tmps : Array Value) (P : Program) (w : World) :
    (results fn tmps).run P w = .ok (.tuple #[tmps.getD t undef, tmps.getD u undef, tmps.getD v undef]) w := by
  simp [results, h]
def routeStepV (g : Gr) (ms : List Int) (fr : Int) : (List Int × List Int) × Int := if routeV g ms fr [] = 0 then (routeTo g fr ms ms.length, 0) else (([], []), routeV g ms fr [])
def RStepPost (v : (List Int × List Int) × Int) (w : World) (e : Ending) (w' : World) : Prop :=
  ∃ D dn d F fn f a a' b b', e = .returned (.tuple #[.slice D dn d, .slice F fn f, .int .i64 v.2]) ∧ Own w' a a' 2 1 (.slice D dn d) dn (ints v.1.1) ∧ Own w' b b' 2 1 (.slice F fn f) fn (ints v.1.2) ∧ (a' ≤ b ∨ b' ≤ a) ∧ w.heap.size ≤ a ∧ w.heap.size ≤ b ∧ a' ≤ w'.heap.size ∧ b' ≤ w'.heap.size ∧ dn ≤ 64 ∧ fn ≤ 64 ∧ Below w.heap.size w w'
theorem RStepPost.err {v : (List Int × List Int) × Int} {k : Int} {w w' : World} (hv : v = (([], []), k)) (hb : Below w.heap.size w w') : RStepPost v w (.returned (.tuple #[.slice none 0 0, .slice none 0 0, .int .i64 k])) w' := by
  subst hv
  have := hb.size
  exact ⟨none, 0, 0, none, 0, 0, w.heap.size, w.heap.size, w.heap.size, w.heap.size, rfl, Own.nil, Own.nil, by omega, by omega, by omega, by omega, by omega, by omega, by omega, hb⟩
theorem routeOk {g : Gr} {ms : List Int} {fr : Int} (h : routeV g ms fr [] = 0) : g.ok = true ∧ 1 ≤ fr ∧ fr ≤ 5000 ∧ ms.length = g.hs.length ∧ Nn ms ∧ ms.sum ≤ 64000000 := by
  obtain ⟨h1, h2, _, h4⟩ := routeV_zero h
  obtain ⟨h5, h6⟩ := massB_all h4
  have hb := (Gr.ok_bd h1).len64
  have hall : ∀ x ∈ ms, 0 ≤ x ∧ x ≤ 1000000 := fun x hx => allIn_mem h5 x hx
  have hs := (sumZ_bd 1000000 (by omega) ms hall).2
  have hl : (ms.length : Int) ≤ 64 := by omega
  have hs2 : ms.sum ≤ 1000000 * ms.length := hs
  refine ⟨h1, ?_, ?_, h6, ?_, by omega⟩
  · unfold frictB inB at h2; simp at h2; exact h2.1
  · unfold frictB inB at h2; simp at h2; exact h2.2
  · intro k
    unfold at0
    cases hk : ms[k]? with
    | none => simp
    | some z => exact (hall z (List.mem_of_getElem? hk)).1
set_option maxHeartbeats 1000000 in
theorem l13Ask_c (g : Gr) (b : Nat) (A : Option Addr) (n c B : Nat) (D : Option Addr) (m d BD : Nat) (ms : List Int) (fr : Int) (w : World) (hg : GP w b B g A n c) (hd : Reads w BD 1 D m (ints ms)) (hD : BD ≤ w.heap.size) (hm : m ≤ 1048576) :
    Calls Try.prog 39 #[.pointer (some ⟨b, 0, none⟩), .slice D m d, .int .i64 fr] w fun e w' => e = .returned (.int .i64 (routeV g ms fr [])) ∧ ∃ q, w' = w.drewN q := by
  have HO := Lib.hid (l09Ok_c g b A n c B w hg)
  have HMM := Lib.hid fun (hok : g.ok = true) q => l13Masses_c g b A n c B D m d BD ms _ (hg.below (below_drewN (Below.refl _ _) q)) hok (hd.drewN q) (by simpa using hD) hm
  have HR := Lib.hid (show routeV g ms fr [] = if g.ok = false then 1 else if frictB fr = false ∨ codeG g [] ≠ 0 then 2 else if massB g ms = false then 7 else 0 from rfl)
  have HCG : Hid (g.ok = true → codeG g [] = 0) := Lib.hid (fun h => by unfold codeG; simp [h, allInB])
  have HFB := Lib.hid (show frictB fr = inB fr 1 5000 from rfl)
  clear hg hd
  generalize massB g ms = mb at *
  generalize codeG g [] = cg at *
  generalize routeV g ms fr [] = rv at *
  generalize g.ok = ok at *
  cases ok
  · go_enter Try.func39, Try.ntmps39
    go_wp2_with fail
    refine HO.out.mono ?_
    rintro e w' ⟨rfl, q, rfl⟩
    go_wp2
    go_ret
    exact ⟨ret_int (by rw [HR.out]; rfl), q, rfl⟩
  · have HC0 := HCG.out rfl
    subst HC0
    go_enter Try.func39, Try.ntmps39
    go_wp2_with fail
    refine HO.out.mono ?_
    rintro e w' ⟨rfl, q, rfl⟩
    go_wp2_with fail
    refine (l00In_c fr 1 5000 _).mono ?_
    rintro e w' ⟨rfl, rfl⟩
    cases hf : inB fr 1 5000
    · have HRV : Hid (rv = 2) := Lib.hid (by rw [HR.out, HFB.out, hf]; simp)
      clear hf
      go_wp2
      go_ret
      exact ⟨ret_int HRV.out.symm, q, rfl⟩
    · have HRV : Hid (rv = if mb = false then 7 else 0) := Lib.hid (by rw [HR.out, HFB.out, hf]; simp)
      clear hf
      go_wp2_with fail
      refine (HMM.out trivial q).mono ?_
      rintro e w' ⟨rfl, q', rfl⟩
      cases mb
      · go_wp2
        go_ret
        exact ⟨ret_int (by rw [HRV.out]; rfl), q + q', by simp⟩
      · go_wp2
        go_ret
        exact ⟨ret_int (by rw [HRV.out]; rfl), q + q', by simp⟩
end Go.Proofs.Ytihjlmlhipngmaa
