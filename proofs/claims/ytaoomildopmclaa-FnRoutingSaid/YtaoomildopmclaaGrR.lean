/- SlopeTo by the program and by the reference. -/
import Derived.Test.YtaoomildopmclaaGrQ
namespace Go.Proofs.Ytaoomildopmclaa
open Go.ChangeShapes Go.WideShapes Go.ChangeAt Go.RowKit
set_option linter.unusedVariables false

theorem greads_lit1 (w : World) (a : Int) : Reads (w.alloc (.cells #[.int .i64 a] 2)) (w.heap.size + 1) 1 (some ⟨w.heap.size, 0, none⟩) 1 (ints [a]) := by
  refine ⟨rfl, fun _ => ⟨_, rfl, by simp, fun j u hu => ?_⟩⟩
  have K := Blk.new w 2 #[.int .i64 a]
  have e : (⟨w.heap.size, 0, none⟩ : Addr).add j = ⟨w.heap.size, j, none⟩ := by unfold Addr.add; split <;> simp_all
  rw [e, K.cell j]
  simpa [ints] using hu
theorem greads_lit2 (w : World) (a b : Int) : Reads (w.alloc (.cells #[.int .i64 a, .int .i64 b] 2)) (w.heap.size + 1) 1 (some ⟨w.heap.size, 0, none⟩) 2 (ints [a, b]) := by
  refine ⟨rfl, fun _ => ⟨_, rfl, by simp, fun j u hu => ?_⟩⟩
  have K := Blk.new w 2 #[.int .i64 a, .int .i64 b]
  have e : (⟨w.heap.size, 0, none⟩ : Addr).add j = ⟨w.heap.size, j, none⟩ := by unfold Addr.add; split <;> simp_all
  rw [e, K.cell j]
  simpa [ints] using hu
def findS (to_ : Int) (l : List Stp) : Option Stp := l.find? fun x => decide (x.cell = to_)
theorem findS_none {to_ : Int} {l : List Stp} (h : ∀ x ∈ l, x.cell ≠ to_) : findS to_ l = none := by
  simp only [findS, List.find?_eq_none, decide_eq_true_eq]; exact h
theorem findS_at {to_ : Int} {l : List Stp} {k : Nat} {x : Stp} (h : l[k]? = some x) (hx : x.cell = to_) (hb : ∀ y ∈ l.take k, y.cell ≠ to_) : findS to_ l = some x := by
  have e := drop_cons_get' h
  rw [e, findS, List.find?_append, show List.find? (fun x => decide (x.cell = to_)) (l.take k) = none from findS_none hb]
  simp [hx]
theorem findS_next {g : Gr} {cell to_ : Int} {a : Nat} (h : goV g cell a = to_) (h0 : 0 ≤ to_) (hb : ∀ a', a' < a → goV g cell a' ≠ to_) : ∀ k, a < k → findS to_ (nextTo g cell k) = some (stpV g cell a)
  | 0, hk => by omega
  | k + 1, hk => by
    by_cases hak : a = k
    · subst hak
      have hgb : goB g cell a = true := by
        cases hc : goB g cell a
        · rw [goV, hc] at h; simp at h; omega
        · rfl
      rw [nextTo_t hgb, findS, List.find?_append, show List.find? (fun x => decide (x.cell = to_)) (nextTo g cell a) = none from findS_none (fun x hx => by
        obtain ⟨a', h1, _, h3⟩ := nextTo_mem hx
        rw [h3]; exact hb a' h1)]
      simp [stpV, h]
    · have ih := findS_next h h0 hb k (by omega)
      rw [nextTo, findS, List.find?_append, show List.find? (fun x => decide (x.cell = to_)) (nextTo g cell k) = some (stpV g cell a) from ih]
      rfl
theorem findS_nonext {g : Gr} {cell to_ : Int} (hb : ∀ a, a < 8 → goV g cell a ≠ to_) : findS to_ (nextTo g cell 8) = none := findS_none fun x hx => by
  obtain ⟨a, h1, _, h3⟩ := nextTo_mem hx
  rw [h3]; exact hb a h1
def slopeToV (g : Gr) (a b : Int) : Int × Int :=
  if codeG g [a, b] ≠ 0 then (0, codeG g [a, b]) else match findS b (nextTo g a 8) with
    | some x => (x.slope, 0)
    | none => (0, 6)
theorem codeG_two (g : Gr) (a b : Int) : codeG g [a, b] = if askG g a ≠ 0 then askG g a else if inG g b = false then 2 else 0 := by
  unfold codeG askG inG
  cases g.ok
  · simp
  · cases h1 : inB a 0 ((g.hs.length : Int) - 1) <;> cases h2 : inB b 0 ((g.hs.length : Int) - 1) <;> simp [allInB, h1, h2]
theorem codeG_two_zero {g : Gr} {a b : Int} (h : codeG g [a, b] = 0) : g.ok = true ∧ (0 ≤ a ∧ a < g.hs.length) ∧ (0 ≤ b ∧ b < g.hs.length) := by
  rw [codeG_two] at h
  by_cases h0 : askG g a = 0
  · rw [if_neg (by simp [h0])] at h
    have := askG_zero h0
    cases h2 : inG g b
    · rw [h2] at h; simp at h
    · have := inB_bd h2; refine ⟨by simp_all, by omega, by omega⟩
  · rw [if_pos h0] at h; exact absurd h h0
set_option maxHeartbeats 2000000 in
theorem iSlopeTo_c (g : Gr) (A : Option Addr) (n c B : Nat) (a b : Int) (w : World) (hg : GS w B g A n c) :
    Calls Try.prog 35 #[g.val A n c, .int .i64 a, .int .i64 b] w fun e w' => e = .returned (.tuple #[.int .i64 (slopeToV g a b).1, .int .i64 (slopeToV g a b).2]) ∧ Below w.heap.size w w' := by
  have HT0 := Lib.hid ((Below.refl w.heap.size w).alloc (Nat.le_refl _) (.cells (g.cells A n c) 26))
  have HS0 : Hid ((w.alloc (.cells (g.cells A n c) 26)).heap.size = w.heap.size + 1) := Lib.hid (by simp)
  have HK0 := Lib.hid (Blk.new w 26 (g.cells A n c))
  obtain ⟨X0, hX0⟩ : ∃ X, X = w.alloc (.cells (g.cells A n c) 26) := ⟨_, rfl⟩
  rw [← hX0] at HT0 HS0 HK0
  obtain ⟨X1, hX1⟩ : ∃ X, X = X0.alloc (.cells #[.int .i64 a, .int .i64 b] 2) := ⟨_, rfl⟩
  have HR1 : Hid (Reads X1 (X0.heap.size + 1) 1 (some ⟨X0.heap.size, 0, none⟩) 2 (ints [a, b])) := Lib.hid (by rw [hX1]; exact greads_lit2 _ _ _)
  have HT1 : Hid (Below w.heap.size w X1) := Lib.hid (by rw [hX1]; exact HT0.out.alloc HT0.out.size _)
  have HS1 : Hid (X1.heap.size = w.heap.size + 1 + 1) := Lib.hid (by rw [hX1]; simp [HS0.out])
  have HK1 : Hid (Blk X1 w.heap.size 26 (g.cells A n c)) := Lib.hid (by rw [hX1]; exact HK0.out.alloc _)
  rw [HS0.out] at HR1
  have HC := Lib.hid (gcode_c g A n c B _ 2 2 _ [a, b] X1 (hg.below HT1.out) HR1.out (by rw [HS1.out]; omega) (by omega))
  have HX1 := Lib.hid (show X1 = (w.alloc (.cells (g.cells A n c) 26)).alloc (.cells #[.int .i64 a, .int .i64 b] 2) from by rw [hX1, hX0])
  have HN := Lib.hid fun (hok : g.ok = true) (k : Nat) (hk : k < n) W (hW : Below w.heap.size w W) => next_c g A n c B k W (hg.below hW) hok hk
  have HL := Lib.hid hg.len
  have HG := Lib.hid hg
  clear hg hX0 hX1 HR1
  simp only [Gr.val, Gr.cells] at *
  by_cases h0 : codeG g [a, b] = 0
  · obtain ⟨hok, ⟨ha0, ha1⟩, hb0, hb1⟩ := codeG_two_zero h0
    obtain ⟨k, rfl⟩ : ∃ k : Nat, a = k := ⟨a.toNat, by omega⟩
    have hkn : k < n := by rw [← HL.out]; omega
    have HV : Hid (slopeToV g k b = match findS b (nextTo g k 8) with | some x => (x.slope, 0) | none => (0, 6)) := Lib.hid (by rw [slopeToV, if_neg (by simp [h0])])
    rw [h0] at HC
    have HN1 := Lib.hid (HN.out hok k hkn)
    clear h0 hok ha0 ha1 hb0 hb1 HN
    go_enter Try.func35, Try.ntmps35
    go_wp2_with fail
    rw [← HX1.out]
    refine HC.out.mono ?_
    rintro e w1 ⟨rfl, hb1⟩
    have HK2 := Lib.hid (HK1.out.below hb1 (by rw [HS1.out]; omega))
    have HT2 := Lib.hid (HT1.out.trans (hb1.mono HT1.out.size))
    clear hb1
    have x0 : w1.cell? ⟨w.heap.size, 0, none⟩ = some (.int .i64 g.rows) := HK2.out.cell 0
    have x1 : w1.cell? ⟨w.heap.size, 1, none⟩ = some (.int .i64 g.cols) := HK2.out.cell 1
    have x2 : w1.cell? ⟨w.heap.size, 2, none⟩ = some (.int .i64 g.size) := HK2.out.cell 2
    have x3 : w1.cell? ⟨w.heap.size, 3, none⟩ = some (.slice A n c) := HK2.out.cell 3
    go_wp2_with fail
    refine (HN1.out w1 HT2.out).mono ?_
    rintro e w2 ⟨A2, m, c2, rfl, O2, hm, B2⟩
    have HT3 := Lib.hid (HT2.out.trans (B2.mono HT2.out.size))
    have HO := Lib.hid O2.reads
    have HLM := Lib.hid (HO.out.stpLen)
    clear x0 x1 x2 x3 O2 B2
    go_wp2
    go_loopw [23] (fun i wr => ∃ j : Nat, j ≤ m ∧ i = .int .i64 j ∧ Hid (∀ y ∈ (nextTo g k 8).take j, y.cell ≠ b) ∧ Hid (Below w2.heap.size w2 wr)) (fun i _ => m - (intOf i).toNat)
    case atStart => exact ⟨0, Nat.zero_le _, rfl, Lib.hid (by simp), Lib.hid (Below.refl _ _)⟩
    case round =>
      obtain ⟨j, hj, rfl, HA, HW⟩ := hrel
      by_cases hlt : j < m
      · obtain ⟨ad, x, rfl, hbl, hx, hc⟩ := (HO.out.below HW.out).stp hlt
        unfold StpAt at hc
        obtain ⟨c0, c1, c2'⟩ := hc
        have HXX := Lib.hid hx
        clear hx
        by_cases he : x.cell = b
        · have hq : (x.cell == b) = true := by simpa using he
          have HE := Lib.hid he
          clear he
          have HF := Lib.hid (findS_at HXX.out HE.out HA.out)
          go_wp2
          go_ret2
          exact ⟨ret2 (by rw [HV.out, HF.out]) (by rw [HV.out, HF.out]), (HT3.out.trans (HW.out.mono HT3.out.size)).alloc (by have h1 := HW.out.size; have h2 := HT3.out.size; omega) _⟩
        · have hq : (x.cell == b) = false := by simpa using he
          have HE := Lib.hid he
          clear he
          go_wp2
          go_roundw
          case rel => exact ⟨j + 1, by omega, by go_num, Lib.hid (fun y hy => by
              rw [List.take_add_one, HXX.out, List.mem_append] at hy
              rcases hy with hy | hy
              · exact HA.out y hy
              · simp at hy; rw [hy]; exact HE.out), Lib.hid (HW.out.alloc (HW.out.size) _)⟩
          case measure => simp [intOf]; omega
      · obtain rfl : j = m := by omega
        have HF : Hid (findS b (nextTo g k 8) = none) := Lib.hid (findS_none (by
          have h := HA.out
          rwa [List.take_of_length_le (by have := HLM.out; omega)] at h))
        go_wp2
        go_ret2
        exact ⟨ret2 (by rw [HV.out, HF.out]) (by rw [HV.out, HF.out]), HT3.out.trans (HW.out.mono HT3.out.size)⟩
  · have hne : (codeG g [a, b] != 0) = true := by simpa using h0
    have HV : Hid (slopeToV g a b = (0, codeG g [a, b])) := Lib.hid (by rw [slopeToV, if_pos h0])
    clear h0
    go_enter Try.func35, Try.ntmps35
    go_wp2_with fail
    rw [← HX1.out]
    refine HC.out.mono ?_
    rintro e w1 ⟨rfl, hb1⟩
    have HT2 := Lib.hid (HT1.out.trans (hb1.mono HT1.out.size))
    clear hb1
    go_wp2
    go_ret2
    exact ⟨ret2 (by rw [HV.out]) (by rw [HV.out]), HT2.out⟩
set_option maxHeartbeats 2000000 in
theorem sSlopeTo_c (g : Gr) (A : Option Addr) (n c B : Nat) (a b : Int) (w : World) (hg : GS w B g A n c) :
    Calls Try.prog 22 #[g.val A n c, .int .i64 a, .int .i64 b] w fun e w' => e = .returned (.tuple #[.int .i64 (slopeToV g a b).1, .int .i64 (slopeToV g a b).2]) ∧ Below w.heap.size w w' := by
  have HP := Lib.hid (GP.new hg)
  have HT := Lib.hid ((Below.refl w.heap.size w).alloc (Nat.le_refl _) (.cells (g.cells A n c) 26))
  have HS : Hid ((w.alloc (.cells (g.cells A n c) 26)).heap.size = w.heap.size + 1) := Lib.hid (by simp)
  obtain ⟨X, hX⟩ : ∃ X, X = w.alloc (.cells (g.cells A n c) 26) := ⟨_, rfl⟩
  rw [← hX] at HP HT HS
  have HASK := Lib.hid (l09Ask_c g w.heap.size A n c B a X HP.out)
  have HL := Lib.hid hg.len
  have HX := Lib.hid hX
  clear hg hX
  simp only [Gr.val, Gr.cells] at *
  have HCT := Lib.hid (codeG_two g a b)
  by_cases h0 : askG g a = 0
  · obtain ⟨hok, ha0, ha1⟩ := askG_zero h0
    have HC := Lib.hid fun W (hW : Below X.heap.size X W) => l09Cell_c g w.heap.size A n c B b W (HP.out.below hW) hok
    rw [h0] at HASK
    obtain ⟨k, rfl⟩ : ∃ k : Nat, a = k := ⟨a.toNat, by omega⟩
    have hkn : k < n := by rw [← HL.out]; omega
    cases hib : inG g b
    · have HV : Hid (slopeToV g k b = (0, 2)) := Lib.hid (by
        have h2 : codeG g [(k : Int), b] = 2 := by rw [HCT.out, if_neg (by simp [h0]), if_pos hib]
        rw [slopeToV, if_pos (by rw [h2]; simp), h2])
      have HIB := Lib.hid hib
      clear h0 hok ha0 ha1 hib
      go_enter Try.func22, Try.ntmps22
      go_wp2_with fail
      rw [← HX.out]
      refine HASK.out.mono ?_
      rintro e w' ⟨rfl, q, rfl⟩
      go_wp2_with fail
      refine (HC.out _ (below_drewN (Below.refl _ _) q)).mono ?_
      rintro e w' ⟨rfl, q', rfl⟩
      rw [HIB.out]
      go_wp2
      go_ret2
      exact ⟨ret2 (by rw [HV.out]) (by rw [HV.out]), below_drewN HT.out _⟩
    · have hbb := inB_bd hib
      obtain ⟨to_, rfl⟩ : ∃ t : Nat, b = t := ⟨b.toNat, by omega⟩
      have htn : to_ < n := by rw [← HL.out]; omega
      have HV : Hid (slopeToV g k to_ = match findS to_ (nextTo g k 8) with | some x => (x.slope, 0) | none => (0, 6)) := Lib.hid (by
        have h2 : codeG g [(k : Int), (to_ : Int)] = 0 := by rw [HCT.out, if_neg (by simp [h0]), if_neg (by simp [hib])]
        rw [slopeToV, if_neg (by rw [h2]; simp)])
      have HIB := Lib.hid hib
      have HWAY := Lib.hid fun W (hW : Below X.heap.size X W) => l09Way_c g w.heap.size A n c B k to_ W (HP.out.below hW) hok hkn
      have HFALL := Lib.hid fun W (hW : Below X.heap.size X W) (d : Nat) (hd : d < 8) => l09Fall_c g w.heap.size A n c B k to_ d W (HP.out.below hW) hok hkn htn hd
      clear h0 hok ha0 ha1 hib hbb
      go_enter Try.func22, Try.ntmps22
      go_wp2_with fail
      rw [← HX.out]
      refine HASK.out.mono ?_
      rintro e w' ⟨rfl, q, rfl⟩
      go_wp2_with fail
      refine (HC.out _ (below_drewN (Below.refl _ _) q)).mono ?_
      rintro e w' ⟨rfl, q', rfl⟩
      rw [HIB.out]
      go_wp2_with fail
      refine (HWAY.out _ (below_drewN (Below.refl _ _) _)).mono ?_
      rintro e w2 ⟨z, rfl, hz, B2⟩
      have HB2 : Hid (Below X.heap.size X w2) := Lib.hid ((below_drewN (Below.refl X.heap.size X) _).trans (B2.mono (by simp)))
      clear B2
      rcases hz with ⟨rfl, hall⟩ | ⟨d, hd, rfl, hgo, hbef⟩
      · have HF := Lib.hid (findS_nonext hall)
        clear hall
        go_wp2
        go_ret2
        exact ⟨ret2 (by rw [HV.out, HF.out]) (by rw [HV.out, HF.out]), HT.out.trans (HB2.out.mono HT.out.size)⟩
      · have HF := Lib.hid (findS_next hgo (by omega) hbef 8 hd)
        have HFV := Lib.hid (show (stpV g k d).slope = fallV g k to_ d from by rw [stpV, hgo])
        have hdn : ¬ (d : Int) < 0 := by omega
        clear hgo hbef
        go_wp2_with fail
        refine (HFALL.out w2 HB2.out d hd).mono ?_
        rintro e w' ⟨rfl, q2, rfl⟩
        go_wp2
        go_ret2
        exact ⟨ret2 (by rw [HV.out, HF.out]; exact HFV.out.symm) (by rw [HV.out, HF.out]), below_drewN (HT.out.trans (HB2.out.mono HT.out.size)) _⟩
  · have hne : (askG g a != 0) = true := by simpa using h0
    have HV : Hid (slopeToV g a b = (0, askG g a)) := Lib.hid (by
      have h2 : codeG g [a, b] = askG g a := by rw [HCT.out, if_pos h0]
      rw [slopeToV, if_pos (by rw [h2]; exact h0), h2])
    clear h0
    go_enter Try.func22, Try.ntmps22
    go_wp2_with fail
    rw [← HX.out]
    refine HASK.out.mono ?_
    rintro e w' ⟨rfl, q, rfl⟩
    go_wp2
    go_ret2
    exact ⟨ret2 (by rw [HV.out]) (by rw [HV.out]), below_drewN HT.out _⟩
end Go.Proofs.Ytaoomildopmclaa
