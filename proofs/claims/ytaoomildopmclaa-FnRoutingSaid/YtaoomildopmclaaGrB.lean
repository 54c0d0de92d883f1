/- Masses on a grid: their codes and their sum; TotalMass by the program and by the reference. -/
import Derived.Test.YtaoomildopmclaaGrA
namespace Go.Proofs.Ytaoomildopmclaa
open Go.ChangeShapes Go.WideShapes Go.ChangeAt Go.RowKit
set_option linter.unusedVariables false

def sumZ (l : List Int) : Int := l.sum
theorem sumZ_take {l : List Int} {k : Nat} {x : Int} (h : l[k]? = some x) : sumZ (l.take (k + 1)) = sumZ (l.take k) + x := by
  rw [List.take_add_one, h]; simp [sumZ]
theorem sumZ_bd (M : Int) (hM : 0 ≤ M) : ∀ l : List Int, (∀ x ∈ l, 0 ≤ x ∧ x ≤ M) → 0 ≤ sumZ l ∧ sumZ l ≤ M * l.length
  | [], _ => by simp [sumZ]
  | x :: l, h => by
    have h1 := sumZ_bd M hM l (fun y hy => h y (List.mem_cons_of_mem _ hy))
    have h2 := h x (List.mem_cons_self ..)
    have e : M * ((x :: l).length : Nat) = M * (l.length : Nat) + M := by simp [Int.mul_add]
    have e2 : sumZ (x :: l) = x + sumZ l := by simp [sumZ]
    omega
theorem allIn_mem {lo hi : Int} {l : List Int} (h : allInB lo hi l = true) : ∀ x ∈ l, lo ≤ x ∧ x ≤ hi := fun x hx => inB_bd (List.all_eq_true.1 h x hx)
theorem sum_take_bd {l : List Int} (h : allInB 0 1000000 l = true) (k : Nat) : 0 ≤ sumZ (l.take k) ∧ sumZ (l.take k) ≤ 1000000 * l.length := by
  have := sumZ_bd 1000000 (by omega) (l.take k) (fun x hx => allIn_mem h x (List.mem_of_mem_take hx))
  have h2 : (l.take k).length ≤ l.length := List.length_take_le' _ _
  omega
def massB (g : Gr) (ms : List Int) : Bool := decide (ms.length = g.hs.length) && allInB 0 1000000 ms
def frictB (f : Int) : Bool := inB f 1 5000
def routeV (g : Gr) (ms : List Int) (f : Int) (cells : List Int) : Int :=
  if g.ok = false then 1 else if frictB f = false ∨ codeG g cells ≠ 0 then 2 else if massB g ms = false then 7 else 0
theorem codeG_nil {g : Gr} (h : g.ok = true) : codeG g [] = 0 := by rw [codeG, h]; simp [allInB]

theorem frictionOk_c (n : Int) (w : World) : Calls Try.prog 78 #[.int .i64 n] w fun e w' => e = .returned (.bool (frictB n)) ∧ w = w' := by
  go_enter Try.func78, Try.ntmps78
  go_wp2_with (go_at_call 65; refine (within_c _ _ _ _).mono ?_; rintro e w' ⟨rfl, rfl⟩)
  go_ret
  exact ⟨rfl, rfl⟩
theorem hasMasses_c (g : Gr) (A : Option Addr) (n c B : Nat) (D : Option Addr) (m d BD : Nat) (ms : List Int) (w : World) (hg : GS w B g A n c) (hd : Reads w BD 1 D m (ints ms)) (hD : BD ≤ w.heap.size) (hm : m ≤ 1048576) :
    Calls Try.prog 79 #[g.val A n c, .slice D m d] w fun e w' => e = .returned (.bool (massB g ms)) ∧ Below w.heap.size w w' := by
  have HA := Lib.hid fun W (hW : Below w.heap.size w W) => allWithin_c D m d BD ms 0 1000000 W (hd.below (hW.mono hD)) (by have := hW.size; omega) (by omega)
  have HM : Hid (massB g ms = (decide (m = n) && allInB 0 1000000 ms)) := Lib.hid (by rw [massB, hd.len, hg.len])
  have hbig := hg.big
  clear hg hd
  obtain ⟨r, co, s, hs⟩ := g
  simp only [Gr.val, Gr.cells] at *
  by_cases hmn : m = n
  · subst hmn
    go_enter Try.func79, Try.ntmps79
    go_wp2_with fail
    refine (HA.out _ ((Below.refl _ _).alloc (Nat.le_refl _) _)).mono ?_
    rintro e w1 ⟨rfl, hb1⟩
    have HB := Lib.hid hb1; clear hb1
    go_wp2
    go_ret
    exact ⟨ret_bool (by rw [HM.out]; simp), ((Below.refl _ _).alloc (Nat.le_refl _) _).trans (HB.out.mono (by simp))⟩
  · have hq : ((m : Int) == (n : Int)) = false := by simp; omega
    have HMN := Lib.hid hmn; clear hmn
    go_enter Try.func79, Try.ntmps79
    go_wp2
    go_ret
    exact ⟨ret_bool (by rw [HM.out]; simp [HMN.out]), by go_grown⟩
set_option maxHeartbeats 2000000 in
theorem routeCode_c (g : Gr) (A : Option Addr) (n c B : Nat) (D : Option Addr) (m d BD : Nat) (ms : List Int) (f : Int) (C : Option Addr) (k kc BC : Nat) (cells : List Int) (w : World)
    (hg : GS w B g A n c) (hd : Reads w BD 1 D m (ints ms)) (hD : BD ≤ w.heap.size) (hm : m ≤ 1048576) (hc : Reads w BC 1 C k (ints cells)) (hC : BC ≤ w.heap.size) (hk : k ≤ 1048576) :
    Calls Try.prog 48 #[g.val A n c, .slice D m d, .int .i64 f, .slice C k kc] w fun e w' => e = .returned (.int .i64 (routeV g ms f cells)) ∧ Below w.heap.size w w' := by
  have HV := Lib.hid fun W (hW : Below w.heap.size w W) => iValidGrid_c g A n c B W (hg.below hW)
  have HC := Lib.hid fun W (hW : Below w.heap.size w W) => gcode_c g A n c B C k kc BC cells W (hg.below hW) (hc.below (hW.mono hC)) (by have := hW.size; omega) (by omega)
  have HM := Lib.hid fun W (hW : Below w.heap.size w W) => hasMasses_c g A n c B D m d BD ms W (hg.below hW) (hd.below (hW.mono hD)) (by have := hW.size; omega) hm
  clear hg hd hc
  have HK := Lib.hid (Blk.new w 26 (g.cells A n c))
  have HT := Lib.hid ((Below.refl w.heap.size w).alloc (Nat.le_refl _) (.cells (g.cells A n c) 26))
  have HS : Hid ((w.alloc (.cells (g.cells A n c) 26)).heap.size = w.heap.size + 1) := Lib.hid (by simp)
  have HR := Lib.hid (show routeV g ms f cells = if g.ok = false then 1 else if frictB f = false ∨ codeG g cells ≠ 0 then 2 else if massB g ms = false then 7 else 0 from rfl)
  generalize codeG g cells = cd at *
  generalize massB g ms = mb at *
  generalize g.ok = ok at *
  generalize routeV g ms f cells = rv at *
  obtain ⟨r, co, s, hs⟩ := g
  simp only [Gr.val, Gr.cells] at *
  cases ok
  · go_enter Try.func48, Try.ntmps48
    go_wp2_with fail
    refine (HV.out _ HT.out).mono ?_
    rintro e w1 ⟨rfl, hb1⟩
    have HB := Lib.hid hb1; clear hb1
    go_wp2
    go_ret
    exact ⟨ret_int (by rw [HR.out]; rfl), HT.out.trans (HB.out.mono (by rw [HS.out]; omega))⟩
  · go_enter Try.func48, Try.ntmps48
    go_wp2_with fail
    refine (HV.out _ HT.out).mono ?_
    rintro e w1 ⟨rfl, hb1⟩
    have HK1 := Lib.hid (HK.out.below hb1 (by rw [HS.out]; omega))
    have HB := Lib.hid (HT.out.trans (hb1.mono (by rw [HS.out]; omega))); clear hb1
    have hlt1 := HK1.out.lt
    have x0 : w1.cell? ⟨w.heap.size, 0, none⟩ = some (.int .i64 r) := HK1.out.cell 0
    have x1 : w1.cell? ⟨w.heap.size, 1, none⟩ = some (.int .i64 co) := HK1.out.cell 1
    have x2 : w1.cell? ⟨w.heap.size, 2, none⟩ = some (.int .i64 s) := HK1.out.cell 2
    have x3 : w1.cell? ⟨w.heap.size, 3, none⟩ = some (.slice A n c) := HK1.out.cell 3
    cases hf : frictB f
    · have HF := Lib.hid hf
      go_wp2_with (go_at_call 78; refine (frictionOk_c _ _).mono ?_; rintro e w' ⟨rfl, rfl⟩)
      go_ret
      exact ⟨ret_int (by rw [HR.out, HF.out]; rfl), HB.out⟩
    · have HF := Lib.hid hf
      by_cases hcd : cd = 0
      · subst hcd
        go_wp2_with (go_at_call 78; refine (frictionOk_c _ _).mono ?_; rintro e w' ⟨rfl, rfl⟩)
        refine (HC.out w1 HB.out).mono ?_
        rintro e w2 ⟨rfl, hb2⟩
        have HK2 := Lib.hid (HK1.out.below hb2 hlt1)
        have HB2 := Lib.hid (HB.out.trans (hb2.mono HB.out.size)); clear hb2 x0 x1 x2 x3
        have x0 : w2.cell? ⟨w.heap.size, 0, none⟩ = some (.int .i64 r) := HK2.out.cell 0
        have x1 : w2.cell? ⟨w.heap.size, 1, none⟩ = some (.int .i64 co) := HK2.out.cell 1
        have x2 : w2.cell? ⟨w.heap.size, 2, none⟩ = some (.int .i64 s) := HK2.out.cell 2
        have x3 : w2.cell? ⟨w.heap.size, 3, none⟩ = some (.slice A n c) := HK2.out.cell 3
        go_wp2_with fail
        refine (HM.out w2 HB2.out).mono ?_
        rintro e w3 ⟨rfl, hb3⟩
        have HB3 := Lib.hid (HB2.out.trans (hb3.mono HB2.out.size)); clear hb3 x0 x1 x2 x3
        cases mb
        all_goals
          go_wp2
          go_ret
          exact ⟨ret_int (by rw [HR.out, HF.out]; simp), HB3.out⟩
      · have hne : (cd != 0) = true := by simpa using hcd
        have HCD := Lib.hid hcd; clear hcd
        go_wp2_with (go_at_call 78; refine (frictionOk_c _ _).mono ?_; rintro e w' ⟨rfl, rfl⟩)
        refine (HC.out w1 HB.out).mono ?_
        rintro e w2 ⟨rfl, hb2⟩
        have HB2 := Lib.hid (HB.out.trans (hb2.mono HB.out.size)); clear hb2 x0 x1 x2 x3
        go_wp2
        go_ret
        exact ⟨ret_int (by rw [HR.out, HF.out]; simp [HCD.out]), HB2.out⟩
theorem sumOf_c (D : Option Addr) (m d BD : Nat) (ms : List Int) (w : World) (hd : Reads w BD 1 D m (ints ms)) (hm : m ≤ 1048576) (hall : allInB 0 1000000 ms = true) :
    Calls Try.prog 49 #[.slice D m d] w fun e w' => e = .returned (.int .i64 (sumZ ms)) ∧ w = w' := by
  have HL := Lib.hid hd.len
  have HD := Lib.hid hd; clear hd
  have HB := Lib.hid fun k => sum_take_bd hall k
  have HALL := Lib.hid hall; clear hall
  go_enter Try.func49, Try.ntmps49
  go_wp2
  go_loop [3, 8] (fun t i => ∃ k : Nat, k ≤ m ∧ i = .int .i64 k ∧ t = .int .i64 (sumZ (ms.take k))) (fun _ i => m - (intOf i).toNat)
  case atStart => exact ⟨0, Nat.zero_le _, rfl, rfl⟩
  case round =>
    obtain ⟨k, hk, rfl, rfl⟩ := hrel
    by_cases hlt : k < m
    · obtain ⟨ad, z, rfl, hbl, hz, hc⟩ := HD.out.int hlt
      have hb := HB.out k
      rw [HL.out] at hb
      have hzb := allIn_mem HALL.out z (List.mem_of_getElem? hz)
      have HE := Lib.hid (sumZ_take hz)
      clear hz
      go_wp2
      go_round
      case rel => exact ⟨k + 1, by omega, by go_num, by rw [HE.out]⟩
      case measure => simp [intOf]; omega
    · obtain rfl : k = m := by omega
      have HE : Hid (ms.take k = ms) := Lib.hid (List.take_of_length_le (by have := HL.out; omega))
      go_wp2
      go_ret
      exact ⟨ret_int (by rw [HE.out]), rfl⟩
theorem l13Sum_c (D : Option Addr) (m d BD : Nat) (ms : List Int) (w : World) (hd : Reads w BD 1 D m (ints ms)) (hm : m ≤ 1048576) (hall : allInB 0 1000000 ms = true) :
    Calls Try.prog 61 #[.slice D m d] w fun e w' => e = .returned (.int .i64 (sumZ ms)) ∧ w = w' := by
  have HL := Lib.hid hd.len
  have HD := Lib.hid hd; clear hd
  have HB := Lib.hid fun k => sum_take_bd hall k
  have HALL := Lib.hid hall; clear hall
  go_enter Try.func61, Try.ntmps61
  go_wp2
  go_loop [3, 4] (fun t i => ∃ k : Nat, k ≤ m ∧ i = .int .i64 k ∧ t = .int .i64 (sumZ (ms.take k))) (fun _ i => m - (intOf i).toNat)
  case atStart => exact ⟨0, Nat.zero_le _, rfl, rfl⟩
  case round =>
    obtain ⟨k, hk, rfl, rfl⟩ := hrel
    by_cases hlt : k < m
    · obtain ⟨ad, z, rfl, hbl, hz, hc⟩ := HD.out.int hlt
      have hb := HB.out k
      rw [HL.out] at hb
      have hzb := allIn_mem HALL.out z (List.mem_of_getElem? hz)
      have HE := Lib.hid (sumZ_take hz)
      clear hz
      go_wp2
      go_round
      case rel => exact ⟨k + 1, by omega, by go_num, by rw [HE.out]⟩
      case measure => simp [intOf]; omega
    · obtain rfl : k = m := by omega
      have HE : Hid (ms.take k = ms) := Lib.hid (List.take_of_length_le (by have := HL.out; omega))
      go_wp2
      go_ret
      exact ⟨ret_int (by rw [HE.out]), rfl⟩
set_option maxHeartbeats 1000000 in
theorem l13Masses_c (g : Gr) (b : Nat) (A : Option Addr) (n c B : Nat) (D : Option Addr) (m d BD : Nat) (ms : List Int) (w : World) (hg : GP w b B g A n c) (hok : g.ok = true) (hd : Reads w BD 1 D m (ints ms)) (hD : BD ≤ w.heap.size) (hm : m ≤ 1048576) :
    Calls Try.prog 60 #[.pointer (some ⟨b, 0, none⟩), .slice D m d] w fun e w' => e = .returned (.bool (massB g ms)) ∧ ∃ q, w' = w.drewN q := by
  have x0 := hg.r
  have x1 := hg.c
  have hb := Gr.ok_bd hok
  obtain ⟨m1, m2⟩ := mul_bd (a := g.rows) (b := g.cols) (A := 8) (B := 8) (by have := hb.r0; omega) hb.r1 (by have := hb.c0; omega) hb.c1
  have HM : Hid (massB g ms = (((m : Int) == g.rows * g.cols) && allInB 0 1000000 ms)) := Lib.hid (by
    rw [massB, hd.len, ← hb.len]
    congr 1
    rw [Bool.eq_iff_iff]; simp; omega)
  have HL := Lib.hid hd.len
  have HD := Lib.hid hd
  clear hg hok hb hd
  go_enter Try.func60, Try.ntmps60
  go_wp2
  go_loop [5] (fun i => ∃ k : Nat, k ≤ m ∧ i = .int .i64 k ∧ Hid (allInB 0 1000000 (ms.take k) = true)) (fun i => m - (intOf i).toNat)
  case atStart => exact ⟨0, Nat.zero_le _, rfl, Lib.hid rfl⟩
  case round =>
    obtain ⟨k, hk, rfl, HA⟩ := hrel
    by_cases hlt : k < m
    · obtain ⟨ad, z, rfl, hbl, hz, hc⟩ := HD.out.int hlt
      have HZ := Lib.hid hz
      clear hz
      cases hi : inB z 0 1000000
      · have HI := Lib.hid hi; clear hi
        go_wp2_with fail
        refine (l00In_c _ _ _ _).mono ?_
        rintro e w' ⟨rfl, rfl⟩
        rw [HI.out]
        go_wp2
        go_ret
        refine ⟨ret_bool ?_, 0, rfl⟩
        have : allInB 0 1000000 ms = false := List.all_eq_false.2 ⟨z, List.mem_of_getElem? HZ.out, by simp [HI.out]⟩
        rw [HM.out, this]; simp
      · have HI := Lib.hid hi; clear hi
        go_wp2_with fail
        refine (l00In_c _ _ _ _).mono ?_
        rintro e w' ⟨rfl, rfl⟩
        rw [HI.out]
        go_wp2
        go_round
        case rel => exact ⟨k + 1, by omega, by go_num, Lib.hid (by have h := HA.out; unfold allInB at h ⊢; rw [List.take_add_one, HZ.out, List.all_append, h]; simp [HI.out])⟩
        case measure => simp [intOf]; omega
    · obtain rfl : k = m := by omega
      have hall : allInB 0 1000000 ms = true := by
        have h := HA.out
        rwa [List.take_of_length_le (by have := HL.out; omega)] at h
      have HALL := Lib.hid hall
      clear hall
      have e1 : IntKind.i64.wrap (g.rows * g.cols) = g.rows * g.cols := IntWalk.i64_in _ (by omega)
      go_wp2
      go_quiet (fail)
      clear e1
      go_wp2
      go_ret
      exact ⟨ret_bool (by rw [HM.out, HALL.out]; simp), _, rfl⟩
def totalV (g : Gr) (ms : List Int) : Int × Int := if g.ok = false then (0, 1) else if massB g ms = false then (0, 7) else (sumZ ms, 0)
theorem routeV_total (g : Gr) (ms : List Int) : totalV g ms = if routeV g ms 1 [] ≠ 0 then (0, routeV g ms 1 []) else (sumZ ms, 0) := by
  unfold totalV routeV
  cases h : g.ok
  · simp
  · rw [codeG_nil h, show frictB 1 = true from rfl]
    cases massB g ms <;> simp
theorem massB_all {g : Gr} {ms : List Int} (h : massB g ms = true) : allInB 0 1000000 ms = true ∧ ms.length = g.hs.length := by
  simp only [massB, Bool.and_eq_true, decide_eq_true_eq] at h; exact ⟨h.2, h.1⟩
theorem routeV_zero {g : Gr} {ms : List Int} {f : Int} {cells : List Int} (h : routeV g ms f cells = 0) : g.ok = true ∧ frictB f = true ∧ codeG g cells = 0 ∧ massB g ms = true := by
  unfold routeV at h
  cases h1 : g.ok
  · rw [h1] at h; simp at h
  · rw [h1] at h
    by_cases h2 : frictB f = false ∨ codeG g cells ≠ 0
    · rw [if_neg (by simp), if_pos h2] at h; simp at h
    · rw [if_neg (by simp), if_neg h2] at h
      cases h3 : massB g ms
      · rw [h3] at h; simp at h
      · refine ⟨rfl, ?_, ?_, rfl⟩
        · cases h4 : frictB f
          · exact absurd (.inl h4) h2
          · rfl
        · by_cases h5 : codeG g cells = 0
          · exact h5
          · exact absurd (.inr h5) h2
set_option maxHeartbeats 1000000 in
theorem iTotalMass_c (g : Gr) (A : Option Addr) (n c B : Nat) (D : Option Addr) (m d BD : Nat) (ms : List Int) (w : World) (hg : GS w B g A n c) (hd : Reads w BD 1 D m (ints ms)) (hD : BD ≤ w.heap.size) (hm : m ≤ 1048576) :
    Calls Try.prog 16 #[g.val A n c, .slice D m d] w fun e w' => e = .returned (.tuple #[.int .i64 (totalV g ms).1, .int .i64 (totalV g ms).2]) ∧ Below w.heap.size w w' := by
  have HRC := Lib.hid fun W (hW : Below w.heap.size w W) => routeCode_c g A n c B D m d BD ms 1 none 0 0 0 [] W (hg.below hW) (hd.below (hW.mono hD)) (by have := hW.size; omega) hm Reads.none_ (by omega) (by omega)
  have HT := Lib.hid ((Below.refl w.heap.size w).alloc (Nat.le_refl _) (.cells (g.cells A n c) 26))
  have HS : Hid ((w.alloc (.cells (g.cells A n c) 26)).heap.size = w.heap.size + 1) := Lib.hid (by simp)
  have HV := Lib.hid (routeV_total g ms)
  have HD := Lib.hid hd
  clear hd hg
  by_cases h0 : routeV g ms 1 [] = 0
  · have hall := (massB_all (routeV_zero h0).2.2.2).1
    have HSM := Lib.hid fun W (hW : Below w.heap.size w W) => sumOf_c D m d BD ms W (HD.out.below (hW.mono hD)) hm hall
    rw [h0] at HRC
    have HVV : Hid (totalV g ms = (sumZ ms, 0)) := Lib.hid (by rw [HV.out, h0]; simp)
    clear h0 hall HV
    generalize totalV g ms = tv at *
    obtain ⟨r, co, s, hs⟩ := g
    simp only [Gr.val, Gr.cells] at *
    go_enter Try.func16, Try.ntmps16
    go_wp2_with fail
    refine (HRC.out _ HT.out).mono ?_
    rintro e w1 ⟨rfl, hb1⟩
    have HB := Lib.hid (HT.out.trans (hb1.mono (by rw [HS.out]; omega))); clear hb1
    go_wp2_with fail
    refine (HSM.out w1 HB.out).mono ?_
    rintro e w' ⟨rfl, rfl⟩
    go_wp2
    go_ret2
    exact ⟨ret2 (by rw [HVV.out]) (by rw [HVV.out]), HB.out⟩
  · have hne : (routeV g ms 1 [] != 0) = true := by simpa using h0
    have HVV : Hid (totalV g ms = (0, routeV g ms 1 [])) := Lib.hid (by rw [HV.out, if_pos h0])
    clear h0 HV
    generalize totalV g ms = tv at *
    generalize routeV g ms 1 [] = rv at *
    obtain ⟨r, co, s, hs⟩ := g
    simp only [Gr.val, Gr.cells] at *
    go_enter Try.func16, Try.ntmps16
    go_wp2_with fail
    refine (HRC.out _ HT.out).mono ?_
    rintro e w1 ⟨rfl, hb1⟩
    have HB := Lib.hid (HT.out.trans (hb1.mono (by rw [HS.out]; omega))); clear hb1
    go_wp2
    go_ret2
    exact ⟨ret2 (by rw [HVV.out]) (by rw [HVV.out]), HB.out⟩
set_option maxHeartbeats 1000000 in
theorem sTotalMass_c (g : Gr) (A : Option Addr) (n c B : Nat) (D : Option Addr) (m d BD : Nat) (ms : List Int) (w : World) (hg : GS w B g A n c) (hd : Reads w BD 1 D m (ints ms)) (hD : BD ≤ w.heap.size) (hm : m ≤ 1048576) :
    Calls Try.prog 24 #[g.val A n c, .slice D m d] w fun e w' => e = .returned (.tuple #[.int .i64 (totalV g ms).1, .int .i64 (totalV g ms).2]) ∧ Below w.heap.size w w' := by
  have HP := Lib.hid (GP.new hg)
  have HT := Lib.hid ((Below.refl w.heap.size w).alloc (Nat.le_refl _) (.cells (g.cells A n c) 26))
  have HO := Lib.hid (l09Ok_c g w.heap.size A n c B _ HP.out)
  have HMM := Lib.hid fun (hok : g.ok = true) q => l13Masses_c g w.heap.size A n c B D m d BD ms _ (HP.out.below (below_drewN (Below.refl _ _) q)) hok ((hd.below (HT.out.mono hD)).drewN q) (by have := HT.out.size; simp; omega) hm
  have HSM := Lib.hid fun (hall : allInB 0 1000000 ms = true) q => l13Sum_c D m d BD ms _ ((hd.below (HT.out.mono hD)).drewN q) hm hall
  have HS : Hid ((w.alloc (.cells (g.cells A n c) 26)).heap.size = w.heap.size + 1) := Lib.hid (by simp)
  have HV := Lib.hid (show totalV g ms = if g.ok = false then (0, 1) else if massB g ms = false then (0, 7) else (sumZ ms, 0) from rfl)
  have HMA := Lib.hid fun h => (massB_all (g := g) (ms := ms) h).1
  clear hd hg HP
  generalize totalV g ms = tv at *
  generalize massB g ms = mb at *
  generalize g.ok = ok at *
  obtain ⟨r, co, s, hs⟩ := g
  simp only [Gr.val, Gr.cells] at *
  cases ok
  · go_enter Try.func24, Try.ntmps24
    go_wp2_with fail
    refine HO.out.mono ?_
    rintro e w' ⟨rfl, q, rfl⟩
    go_wp2
    go_ret2
    exact ⟨ret2 (by rw [HV.out]; rfl) (by rw [HV.out]; rfl), below_drewN HT.out _⟩
  · cases mb
    · go_enter Try.func24, Try.ntmps24
      go_wp2_with fail
      refine HO.out.mono ?_
      rintro e w' ⟨rfl, q, rfl⟩
      go_wp2_with fail
      refine (HMM.out trivial q).mono ?_
      rintro e w' ⟨rfl, q', rfl⟩
      go_wp2
      go_ret2
      exact ⟨ret2 (by rw [HV.out]; rfl) (by rw [HV.out]; rfl), below_drewN HT.out _⟩
    · have HALL := Lib.hid (HMA.out rfl)
      go_enter Try.func24, Try.ntmps24
      go_wp2_with fail
      refine HO.out.mono ?_
      rintro e w' ⟨rfl, q, rfl⟩
      go_wp2_with fail
      refine (HMM.out trivial q).mono ?_
      rintro e w' ⟨rfl, q', rfl⟩
      go_wp2_with fail
      refine (HSM.out HALL.out _).mono ?_
      rintro e w' ⟨rfl, rfl⟩
      go_wp2
      go_ret2
      exact ⟨ret2 (by rw [HV.out]; rfl) (by rw [HV.out]; rfl), below_drewN HT.out _⟩
end Go.Proofs.Ytaoomildopmclaa
