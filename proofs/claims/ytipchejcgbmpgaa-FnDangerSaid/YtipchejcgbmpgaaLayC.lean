/- Layers: strength, stress, the bounds of the index of a layer. -/
import Derived.Test.YtipchejcgbmpgaaLayB
namespace Go.Proofs.Ytipchejcgbmpgaa
open Go.ChangeShapes Go.WideShapes Go.ChangeAt Go.RowKit
set_option linter.unusedVariables false

theorem quiet_b {P : Program} {f : FuncId} {args : Array Value} {w : World} {v : Value} (h : Calls P f args w fun e w' => e = .returned v ∧ w = w') :
    Calls P f args w fun e w' => e = .returned v ∧ Below w.heap.size w w' := h.mono fun _ _ ⟨he, hw⟩ => ⟨he, by subst hw; exact Below.refl _ _⟩
theorem drew_b {P : Program} {f : FuncId} {args : Array Value} {w : World} {v : Value} (h : Calls P f args w fun e w' => e = .returned v ∧ ∃ q, w' = w.drewN q) :
    Calls P f args w fun e w' => e = .returned v ∧ Below w.heap.size w w' := h.mono fun _ _ ⟨he, q, hw⟩ => ⟨he, by subst hw; exact below_drewN (Below.refl _ _) _⟩

def facV (f : Int) : Int := if f = 1 then 20 else if f = 2 then 22 else if f = 3 then 30 else if f = 4 then 12 else if f = 5 then 8 else 35
theorem facV_bd (f : Int) : 8 ≤ facV f ∧ facV f ≤ 35 := by unfold facV; repeat' split <;> omega
def Lay.base (s : Lay) : Int := rnd (s.density * s.density * facV s.form) 1000
def Lay.lo (s : Lay) (d : Int) : Int := s.base * (1000 - d) / 1000
def Lay.hi (s : Lay) (d : Int) : Int := (s.base * (1000 + d) + 1000 - 1) / 1000
theorem Lay.base_pre {s : Lay} (h : s.ok = true) : (0 ≤ s.density * s.density ∧ s.density * s.density ≤ 810000) ∧ (0 ≤ s.density * s.density * facV s.form ∧ s.density * s.density * facV s.form ≤ 28350000) := by
  obtain ⟨_, _, _, h2⟩ := Lay.ok_bd h
  have hf := facV_bd s.form
  have m1 := mul_bd (a := s.density) (b := s.density) (A := 900) (B := 900) (by omega) (by omega) (by omega) (by omega)
  have m2 := mul_bd (a := s.density * s.density) (b := facV s.form) (A := 900 * 900) (B := 35) m1.1 m1.2 (by omega) (by omega)
  exact ⟨⟨m1.1, by omega⟩, m2.1, by omega⟩
theorem Lay.base_bd {s : Lay} (h : s.ok = true) : 0 ≤ s.base ∧ s.base ≤ 28350001 := by
  have := (Lay.base_pre h).2
  exact ⟨rnd_nn this.1 (by omega), by have := rnd_le (a := s.density * s.density * facV s.form) (b := 1000) (by omega) (by omega); unfold Lay.base; omega⟩
theorem Lay.lo_pre {s : Lay} {d : Int} (h : s.ok = true) (h0 : 0 ≤ d) (h1 : d ≤ 1000) :
    (0 ≤ s.base * (1000 - d) ∧ s.base * (1000 - d) ≤ 28350001000) ∧ (0 ≤ s.base * (1000 + d) ∧ s.base * (1000 + d) ≤ 56700002000) := by
  have hb := Lay.base_bd h
  have m1 := mul_bd (a := s.base) (b := 1000 - d) (A := 28350001) (B := 1000) (by omega) (by omega) (by omega) (by omega)
  have m2 := mul_bd (a := s.base) (b := 1000 + d) (A := 28350001) (B := 2000) (by omega) (by omega) (by omega) (by omega)
  exact ⟨⟨m1.1, by omega⟩, m2.1, by omega⟩
theorem Lay.lo_bd {s : Lay} {d : Int} (h : s.ok = true) (h0 : 0 ≤ d) (h1 : d ≤ 1000) : (0 ≤ s.lo d ∧ s.lo d ≤ 28350001) ∧ (0 ≤ s.hi d ∧ s.hi d ≤ 56700003) := by
  have hp := Lay.lo_pre h h0 h1
  unfold Lay.lo Lay.hi
  omega

theorem strIdx : ∀ (f : Int), 1 ≤ f → f ≤ 6 → ∀ w : World, (Instr.index 93 (.agg #[.int .i64 0, .int .i64 20, .int .i64 22, .int .i64 30, .int .i64 12, .int .i64 8, .int .i64 35]) (.int .i64 f)).run Try.prog w = .ok (.int .i64 (facV f)) w := by
  intro f h0 h1
  have h : f = 1 ∨ f = 2 ∨ f = 3 ∨ f = 4 ∨ f = 5 ∨ f = 6 := by omega
  rcases h with rfl | rfl | rfl | rfl | rfl | rfl
  · intro _; kernel_rfl
  · intro _; kernel_rfl
  · intro _; kernel_rfl
  · intro _; kernel_rfl
  · intro _; kernel_rfl
  · intro _; kernel_rfl
set_option maxHeartbeats 1000000 in
theorem strength_c (s : Lay) (d : Int) (w : World) (h : s.ok = true) (h0 : 0 ≤ d) (h1 : d ≤ 1000) :
    Calls Try.prog 87 #[s.val, .int .i64 d] w fun e w' => e = .returned (.tuple #[.int .i64 (s.lo d), .int .i64 (s.hi d)]) ∧ Below w.heap.size w w' := by
  obtain ⟨⟨p1, p2⟩, p3, p4⟩ := Lay.base_pre h
  obtain ⟨b1, b2⟩ := Lay.base_bd h
  obtain ⟨⟨q1, q2⟩, q3, q4⟩ := Lay.lo_pre h h0 h1
  obtain ⟨f1, f2⟩ := (Lay.ok_bd h).1
  have hi := strIdx s.form f1 f2
  clear h f1 f2
  have HB := Lib.hid (show s.base = rnd (s.density * s.density * facV s.form) 1000 from rfl)
  have HLO := Lib.hid (show s.lo d = s.base * (1000 - d) / 1000 from rfl)
  have HHI := Lib.hid (show s.hi d = (s.base * (1000 + d) + 1000 - 1) / 1000 from rfl)
  generalize s.base = bs at *
  generalize s.lo d = lo at *
  generalize s.hi d = hi' at *
  obtain ⟨a, b, c, dn, e, f, g⟩ := s
  simp only [Lay.val] at *
  go_enter Try.func87, Try.ntmps87
  go_wp2_with fail
  refine (divRound_c _ _ _ (by omega) (by omega) (by omega) (by omega)).mono ?_
  rintro e w' ⟨rfl, q, rfl⟩
  rw [← HB.out]
  go_wp2_with fail
  refine (divUp_c _ _ _ (by omega) (by omega) (by omega) (by omega)).mono ?_
  rintro e w' ⟨rfl, rfl⟩
  go_wp2
  go_ret2
  exact ⟨ret2 HLO.out.symm HHI.out.symm, below_drewN ((Below.refl _ _).alloc (Nat.le_refl _) _) _⟩
theorem l07Factor_c (f : Int) (w : World) (h0 : 1 ≤ f) (h1 : f ≤ 6) : Calls Try.prog 97 #[.int .i64 f] w fun e w' => e = .returned (.int .i64 (facV f)) ∧ Below w.heap.size w w' := by
  have h : f = 1 ∨ f = 2 ∨ f = 3 ∨ f = 4 ∨ f = 5 ∨ f = 6 := by omega
  clear h0 h1
  rcases h with rfl | rfl | rfl | rfl | rfl | rfl
  all_goals
    go_enter Try.func97, Try.ntmps97
    go_wp2
    go_ret
    exact ⟨rfl, by go_grown⟩
set_option maxHeartbeats 1000000 in
theorem l07Strength_c (ad : Addr) (k : Nat) (s : Lay) (d : Int) (w : World) (hc : LayAt w ad k s) (h : s.ok = true) (h0 : 0 ≤ d) (h1 : d ≤ 1000) :
    Calls Try.prog 82 #[.pointer (some (ad.add (k * 7))), .int .i64 d] w fun e w' => e = .returned (.tuple #[.int .i64 (s.lo d), .int .i64 (s.hi d)]) ∧ Below w.heap.size w w' := by
  obtain ⟨⟨p1, p2⟩, p3, p4⟩ := Lay.base_pre h
  obtain ⟨b1, b2⟩ := Lay.base_bd h
  obtain ⟨⟨q1, q2⟩, q3, q4⟩ := Lay.lo_pre h h0 h1
  obtain ⟨⟨f1, f2⟩, _, _, d1, d2⟩ := Lay.ok_bd h
  have g1 := facV_bd s.form
  have HB := Lib.hid (show s.base = rnd (s.density * s.density * facV s.form) 1000 from rfl)
  have HLO := Lib.hid (show s.lo d = s.base * (1000 - d) / 1000 from rfl)
  have HHI := Lib.hid (show s.hi d = (s.base * (1000 + d) + 1000 - 1) / 1000 from rfl)
  generalize s.base = bs at *
  generalize s.lo d = lo at *
  generalize s.hi d = hi' at *
  unfold LayAt at hc
  obtain ⟨c0, c1, c2, c3, c4, c5, c6⟩ := hc
  clear h c1 c2 c4 c5 c6
  have e1 : IntKind.i64.wrap (s.density * s.density) = s.density * s.density := IntWalk.i64_in _ (by omega)
  have e2 : IntKind.i64.wrap (s.density * s.density * facV s.form) = s.density * s.density * facV s.form := IntWalk.i64_in _ (by omega)
  go_enter Try.func82, Try.ntmps82
  go_wp2
  have qc0 := cell_regrown c0
  have qc3 := cell_regrown c3
  refine wp_region_quiet_below (by kernel_rfl) (by kernel_rfl) ?_
  repeat (first | go_big_quiet_step ((first | (go_at_call 97; exact Calls.regrown_of (l07Factor_c _ _ f1 f2)) | (go_at_call 94; exact Calls.regrown_of (quiet_b (l01Div_c _ _ _ (by omega) (by omega) (by omega) (by omega)))))) | quiet_step ((first | (go_at_call 97; exact Calls.regrown_of (l07Factor_c _ _ f1 f2)) | (go_at_call 94; exact Calls.regrown_of (quiet_b (l01Div_c _ _ _ (by omega) (by omega) (by omega) (by omega)))))))
  refine wpQuiet_nil ?_
  intro W2 B2
  replace B2 := Lib.hid (show Below (w).heap.size (w) W2 from by obtain ⟨pq, rfl⟩ := B2; exact below_regrown _ _ _)
  clear qc0 qc3
  clear e1 e2
  rw [← HB.out]
  go_wp2
  go_ret2
  refine ⟨ret2 HLO.out.symm ?_, B2.out⟩
  rw [HHI.out]
  congr 1
  omega
def stressV (load rise run : Int) : Int := rnd (981 * load * rise * run) (100000 * (rise * rise + run * run))
theorem stress_pre {load rise run : Int} (l0 : 0 ≤ load) (l1 : load ≤ 40000000) (r0 : 0 ≤ rise) (r1 : rise ≤ 1000) (n0 : 1 ≤ run) (n1 : run ≤ 1000) :
    (0 ≤ 981 * load * rise ∧ 981 * load * rise ≤ 39240000000000) ∧ (0 ≤ 981 * load * rise * run ∧ 981 * load * rise * run ≤ 39240000000000000) ∧ (0 ≤ rise * rise ∧ rise * rise ≤ 1000000) ∧ (1 ≤ run * run ∧ run * run ≤ 1000000) := by
  have m1 := mul_bd (a := 981 * load) (b := rise) (A := 39240000000) (B := 1000) (by omega) (by omega) (by omega) (by omega)
  have m2 := mul_bd (a := 981 * load * rise) (b := run) (A := 39240000000 * 1000) (B := 1000) m1.1 m1.2 (by omega) (by omega)
  have m3 := mul_bd (a := rise) (b := rise) (A := 1000) (B := 1000) (by omega) (by omega) (by omega) (by omega)
  have m4 := mul_bd (a := run) (b := run) (A := 1000) (B := 1000) (by omega) (by omega) (by omega) (by omega)
  have m5 : 1 * 1 ≤ run * run := Int.mul_le_mul n0 n0 (by omega) (by omega)
  omega
theorem stressV_bd {load rise run : Int} (l0 : 0 ≤ load) (l1 : load ≤ 40000000) (r0 : 0 ≤ rise) (r1 : rise ≤ 1000) (n0 : 1 ≤ run) (n1 : run ≤ 1000) : 0 ≤ stressV load rise run ∧ stressV load rise run ≤ 39240000000000001 := by
  have p := stress_pre l0 l1 r0 r1 n0 n1
  exact ⟨rnd_nn (by omega) (by omega), by have := rnd_le (a := 981 * load * rise * run) (b := 100000 * (rise * rise + run * run)) (by omega) (by omega); unfold stressV; omega⟩
theorem stressV_mono {l m rise run : Int} (l0 : 0 ≤ l) (h : l ≤ m) (r0 : 0 ≤ rise) (n0 : 1 ≤ run) : stressV l rise run ≤ stressV m rise run := by
  unfold stressV
  have m3 := Int.mul_nonneg r0 r0
  have m5 : 1 * 1 ≤ run * run := Int.mul_le_mul n0 n0 (by omega) (by omega)
  exact rnd_mono (Int.mul_nonneg (Int.mul_nonneg (by omega) r0) (by omega)) (Int.mul_le_mul_of_nonneg_right (Int.mul_le_mul_of_nonneg_right (by omega) r0) (by omega)) (by omega)
theorem stressOf_c (load rise run : Int) (w : World) (l0 : 0 ≤ load) (l1 : load ≤ 40000000) (r0 : 0 ≤ rise) (r1 : rise ≤ 1000) (n0 : 1 ≤ run) (n1 : run ≤ 1000) :
    Calls Try.prog 88 #[.int .i64 load, .int .i64 rise, .int .i64 run] w fun e w' => e = .returned (.int .i64 (stressV load rise run)) ∧ ∃ q, w' = w.drewN q := by
  obtain ⟨⟨p1, p2⟩, ⟨p3, p4⟩, ⟨p5, p6⟩, p7, p8⟩ := stress_pre l0 l1 r0 r1 n0 n1
  go_enter Try.func88, Try.ntmps88
  go_wp2_with (go_at_call 95; refine (divRound_c _ _ _ (by omega) (by omega) (by omega) (by omega)).mono ?_; rintro e w' ⟨rfl, q, rfl⟩)
  go_ret
  exact ⟨rfl, _, rfl⟩
theorem l07Stress_c (load rise run : Int) (w : World) (l0 : 0 ≤ load) (l1 : load ≤ 40000000) (r0 : 0 ≤ rise) (r1 : rise ≤ 1000) (n0 : 1 ≤ run) (n1 : run ≤ 1000) :
    Calls Try.prog 80 #[.int .i64 load, .int .i64 rise, .int .i64 run] w fun e w' => e = .returned (.int .i64 (stressV load rise run)) ∧ w = w' := by
  have p := stress_pre l0 l1 r0 r1 n0 n1
  have HV := Lib.hid (show stressV load rise run = rnd (load * 981 * rise * run) (100000 * (rise * rise + run * run)) from by rw [stressV, Int.mul_comm 981 load])
  rw [Int.mul_comm 981 load] at p
  obtain ⟨⟨p1, p2⟩, ⟨p3, p4⟩, ⟨p5, p6⟩, p7, p8⟩ := p
  go_enter Try.func80, Try.ntmps80
  go_wp2_with (go_at_call 94; refine (l01Div_c _ _ _ (by omega) (by omega) (by omega) (by omega)).mono ?_; rintro e w' ⟨rfl, rfl⟩)
  go_ret
  exact ⟨ret_int HV.out.symm, rfl⟩
end Go.Proofs.Ytipchejcgbmpgaa
