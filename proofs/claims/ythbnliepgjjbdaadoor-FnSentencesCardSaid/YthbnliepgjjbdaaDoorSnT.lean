/- Sentences: ReadSentence and TranslateText of both (printed by wip/tools/mk_snt.py). -/
import Derived.Test.YthbnliepgjjbdaaDoorSnS
namespace Go.Proofs.YthbnliepgjjbdaaDoor
open Go.ChangeShapes Go.WideShapes Go.ChangeAt Go.RowKit
set_option linter.unusedVariables false
noncomputable def rsV (n : Int) (s : ByteArray) : Sen × Int := if inB n 1 4 = false then (⟨0, 0, 0⟩, 2) else if (readV n.toNat s.data.toList).2 = true then ((readV n.toNat s.data.toList).1, 0) else (⟨0, 0, 0⟩, 8)
theorem rsV_lang {n : Int} (h : inB n 1 4 = true) (s : ByteArray) : rsV n s = if (readV n.toNat s.data.toList).2 = true then ((readV n.toNat s.data.toList).1, 0) else (⟨0, 0, 0⟩, 8) := by
  unfold rsV; rw [if_neg (by rw [h]; simp)]
noncomputable def trV (n m : Int) (s : ByteArray) : ByteArray × Int := if inB n 1 4 = true ∧ inB m 1 4 = true then (if (readV n.toNat s.data.toList).2 = true then (⟨((readV n.toNat s.data.toList).1.text m.toNat).toArray⟩, 0) else (⟨#[]⟩, 8)) else (⟨#[]⟩, 2)
theorem trV_lang {n m : Int} (hn : inB n 1 4 = true) (hm : inB m 1 4 = true) (s : ByteArray) : trV n m s = if (readV n.toNat s.data.toList).2 = true then (⟨((readV n.toNat s.data.toList).1.text m.toNat).toArray⟩, 0) else (⟨#[]⟩, 8) := by
  unfold trV; rw [if_pos ⟨hn, hm⟩]
theorem readV_ok {l : Nat} (hl : 1 ≤ l ∧ l ≤ 4) (t : List UInt8) : (readV l t).2 = true → okS (readV l t).1.k (readV l t).1.a (readV l t).1.b = true := by
  intro h
  rcases readV_cases hl t with ⟨s, h1, h2⟩ | ⟨_, h2⟩
  · rw [h2]; exact h1.1
  · rw [h2] at h; cases h
set_option maxHeartbeats 1000000 in
theorem sReadSentence_c (s : ByteArray) (n : Int) (hs : s.size ≤ 1048576) (w : World) :
    Calls Tryd.prog 26 #[.string s, .int .i64 n] w fun e w' => e = .returned (.tuple #[(rsV n s).1.val, .int .i64 (rsV n s).2]) ∧ Below w.heap.size w w' := by
  have HN := Lib.hid fun W => l19Language_c n W
  go_enter Tryd.func26, Tryd.ntmps26
  go_upto_region 1 with (fail)
  obtain ⟨w0, hw0⟩ : ∃ W, W = w.alloc (.cells #[.int .i64 0, .int .i64 0, .int .i64 0] 26) := ⟨_, rfl⟩
  have HR0 : Hid (Blk w0 w.heap.size 26 #[.int .i64 0, .int .i64 0, .int .i64 0]) := Lib.hid (by rw [hw0]; exact Blk.new _ _ _)
  have T0 : Hid (Below w.heap.size w w0) := Lib.hid (by rw [hw0]; exact (Below.refl _ _).alloc (Nat.le_refl _) _)
  rw [← hw0]
  clear hw0
  cases hn : inB n 1 4
  · rw [hn] at HN
    have HV : Hid (rsV n s = (⟨0, 0, 0⟩, 2)) := Lib.hid (by unfold rsV; rw [if_pos hn])
    have r0 : w0.cell? ⟨w.heap.size, 0, none⟩ = some (.int .i64 0) := HR0.out.cell 0
    have r1 : w0.cell? ⟨w.heap.size, 1, none⟩ = some (.int .i64 0) := HR0.out.cell 1
    have r2 : w0.cell? ⟨w.heap.size, 2, none⟩ = some (.int .i64 0) := HR0.out.cell 2
    have f0 := HR0.out.frozen 0
    have f1 := HR0.out.frozen 1
    have f2 := HR0.out.frozen 2
    have hk3 := ((HR0.out.set_ 0 (.int .i64 0)).set_ 1 (.int .i64 0)).set_ 2 (.int .i64 0)
    have q0 := hk3.cell 0
    have q1 := hk3.cell 1
    have q2 := hk3.cell 2
    simp at q0 q1 q2
    have HQ0 := Lib.hid q0
    have HQ1 := Lib.hid q1
    have HQ2 := Lib.hid q2
    clear hk3 q0 q1 q2 hn
    go_wp2_with fail
    refine (HN.out _).mono ?_
    rintro e w1 ⟨rfl, rfl⟩
    go_wp2
    refine bodyPost_ret (v := .tuple #[.agg #[.int .i64 0, .int .i64 0, .int .i64 0], .int .i64 2]) (by have q0 := HQ0.out; have q1 := HQ1.out; have q2 := HQ2.out; simp [results, Tryd.results26, go_sem, q0, q1, q2]) rfl ?_
    exact ⟨by rw [HV.out]; rfl, ((T0.out.setCell (p := ⟨w.heap.size, 0, none⟩) (Nat.le_refl _) _).setCell (p := ⟨w.heap.size, 1, none⟩) (Nat.le_refl _) _).setCell (p := ⟨w.heap.size, 2, none⟩) (Nat.le_refl _) _⟩
  · rw [hn] at HN
    obtain ⟨l, rfl, hl⟩ := inB_lang hn
    have HV := Lib.hid (rsV_lang hn s)
    have HRD := Lib.hid (fun W => l19Read_c l hl s hs W)
    rw [Int.toNat_natCast] at HV
    generalize readV l s.data.toList = v at *
    obtain ⟨⟨k, a, b⟩, ok⟩ := v
    simp only [Sen.val] at HRD HV
    clear hn hl
    go_wp2_with fail
    refine (HN.out _).mono ?_
    rintro e w1 ⟨rfl, rfl⟩
    go_wp2_with fail
    refine (HRD.out _).mono ?_
    rintro e w1 ⟨rfl, B⟩
    have T1 := Lib.hid (T0.out.trans (B.mono T0.out.size))
    have HR1 := Lib.hid (HR0.out.below B HR0.out.lt)
    clear B HRD T0 HR0
    have hw1 := T1.out.size
    have hlt := HR1.out.lt
    go_upto_region 4 with (fail)
    obtain ⟨w2, hw2⟩ : ∃ W, W = w1.alloc (.cells #[.int .i64 k, .int .i64 a, .int .i64 b] 26) := ⟨_, rfl⟩
    have T2 : Hid (Below w.heap.size w w2) := Lib.hid (by rw [hw2]; exact T1.out.alloc hw1 _)
    have HX2 : Hid (Blk w2 w1.heap.size 26 #[.int .i64 k, .int .i64 a, .int .i64 b]) := Lib.hid (by rw [hw2]; exact Blk.new _ _ _)
    have HR2 : Hid (Blk w2 w.heap.size 26 #[.int .i64 0, .int .i64 0, .int .i64 0]) := Lib.hid (by rw [hw2]; exact HR1.out.alloc _)
    rw [← hw2]
    clear hw2 T1 HR1
    have r0 : w2.cell? ⟨w.heap.size, 0, none⟩ = some (.int .i64 0) := HR2.out.cell 0
    have r1 : w2.cell? ⟨w.heap.size, 1, none⟩ = some (.int .i64 0) := HR2.out.cell 1
    have r2 : w2.cell? ⟨w.heap.size, 2, none⟩ = some (.int .i64 0) := HR2.out.cell 2
    have c0 : w2.cell? ⟨w1.heap.size, 0, none⟩ = some (.int .i64 k) := HX2.out.cell 0
    have c1 : w2.cell? ⟨w1.heap.size, 1, none⟩ = some (.int .i64 a) := HX2.out.cell 1
    have c2 : w2.cell? ⟨w1.heap.size, 2, none⟩ = some (.int .i64 b) := HX2.out.cell 2
    have f0 := HR2.out.frozen 0
    have f1 := HR2.out.frozen 1
    have f2 := HR2.out.frozen 2
    cases ok
    · have hk3 := ((HR2.out.set_ 0 (.int .i64 0)).set_ 1 (.int .i64 0)).set_ 2 (.int .i64 0)
      have q0 := hk3.cell 0
      have q1 := hk3.cell 1
      have q2 := hk3.cell 2
      simp at q0 q1 q2
      have HQ0 := Lib.hid q0
      have HQ1 := Lib.hid q1
      have HQ2 := Lib.hid q2
      clear hk3 q0 q1 q2
      go_wp2
      refine bodyPost_ret (v := .tuple #[.agg #[.int .i64 0, .int .i64 0, .int .i64 0], .int .i64 8]) (by have q0 := HQ0.out; have q1 := HQ1.out; have q2 := HQ2.out; simp [results, Tryd.results26, go_sem, q0, q1, q2]) rfl ?_
      exact ⟨by rw [HV.out]; rfl, ((T2.out.setCell (p := ⟨w.heap.size, 0, none⟩) (Nat.le_refl _) _).setCell (p := ⟨w.heap.size, 1, none⟩) (Nat.le_refl _) _).setCell (p := ⟨w.heap.size, 2, none⟩) (Nat.le_refl _) _⟩
    · have hk3 := ((HR2.out.set_ 0 (.int .i64 k)).set_ 1 (.int .i64 a)).set_ 2 (.int .i64 b)
      have q0 := hk3.cell 0
      have q1 := hk3.cell 1
      have q2 := hk3.cell 2
      simp at q0 q1 q2
      have HQ0 := Lib.hid q0
      have HQ1 := Lib.hid q1
      have HQ2 := Lib.hid q2
      clear hk3 q0 q1 q2
      go_wp2
      refine bodyPost_ret (v := .tuple #[.agg #[.int .i64 k, .int .i64 a, .int .i64 b], .int .i64 0]) (by have q0 := HQ0.out; have q1 := HQ1.out; have q2 := HQ2.out; simp [results, Tryd.results26, go_sem, q0, q1, q2]) rfl ?_
      exact ⟨by rw [HV.out]; rfl, ((T2.out.setCell (p := ⟨w.heap.size, 0, none⟩) (Nat.le_refl _) _).setCell (p := ⟨w.heap.size, 1, none⟩) (Nat.le_refl _) _).setCell (p := ⟨w.heap.size, 2, none⟩) (Nat.le_refl _) _⟩
set_option maxHeartbeats 1000000 in
theorem sTranslateText_c (s : ByteArray) (n m : Int) (hs : s.size ≤ 1048576) (w : World) :
    Calls Tryd.prog 25 #[.string s, .int .i64 n, .int .i64 m] w fun e w' => e = .returned (.tuple #[.string (trV n m s).1, .int .i64 (trV n m s).2]) ∧ Below w.heap.size w w' := by
  have HN := Lib.hid fun W => l19Language_c n W
  have HM := Lib.hid fun W => l19Language_c m W
  by_cases hnm : inB n 1 4 = true ∧ inB m 1 4 = true
  · obtain ⟨hn, hm⟩ := hnm
    rw [hn] at HN
    rw [hm] at HM
    have HV := Lib.hid (trV_lang hn hm s)
    obtain ⟨l, rfl, hl⟩ := inB_lang hn
    obtain ⟨l2, rfl, hl2⟩ := inB_lang hm
    rw [Int.toNat_natCast, Int.toNat_natCast] at HV
    have HRD := Lib.hid (fun W => l19Read_c l hl s hs W)
    have HOK := Lib.hid (readV_ok hl s.data.toList)
    generalize readV l s.data.toList = v at *
    obtain ⟨⟨k, a, b⟩, ok⟩ := v
    simp only [Sen.val] at HRD HV
    clear hn hm
    cases ok
    · go_enter Tryd.func25, Tryd.ntmps25
      go_wp2_with fail
      refine (HN.out _).mono ?_
      rintro e w1 ⟨rfl, rfl⟩
      go_wp2_with fail
      refine (HM.out _).mono ?_
      rintro e w1 ⟨rfl, rfl⟩
      go_wp2_with fail
      refine (HRD.out _).mono ?_
      rintro e w1 ⟨rfl, B⟩
      have T1 := Lib.hid B
      clear B HRD
      go_wp2
      go_ret2
      exact ⟨by rw [HV.out]; rfl, T1.out.alloc T1.out.size _⟩
    · obtain ⟨kn, rfl, q1, q7, ha, hb, hzz⟩ := okS_num (HOK.out rfl)
      clear hzz
      have HTX := Lib.hid (fun (W : World) (g : Nat) (hW : Blk W g 26 #[.int .i64 kn, .int .i64 a, .int .i64 b]) => l19Text_c kn l2 a b ⟨q1, q7⟩ hl2 ha hb ⟨g, 0, none⟩ W (hW.cell 0) (hW.cell 1) (hW.cell 2))
      clear hl hl2 q1 q7 ha hb HOK
      go_enter Tryd.func25, Tryd.ntmps25
      go_wp2_with fail
      refine (HN.out _).mono ?_
      rintro e w1 ⟨rfl, rfl⟩
      go_wp2_with fail
      refine (HM.out _).mono ?_
      rintro e w1 ⟨rfl, rfl⟩
      go_wp2_with fail
      refine (HRD.out _).mono ?_
      rintro e w1 ⟨rfl, B⟩
      have T1 := Lib.hid B
      have hw1 := B.size
      clear B HRD
      go_upto_region 4 with (fail)
      obtain ⟨w2, hw2⟩ : ∃ W, W = w1.alloc (.cells #[.int .i64 kn, .int .i64 a, .int .i64 b] 26) := ⟨_, rfl⟩
      have T2 : Hid (Below w.heap.size w w2) := Lib.hid (by rw [hw2]; exact T1.out.alloc hw1 _)
      have HX2 : Hid (Blk w2 w1.heap.size 26 #[.int .i64 kn, .int .i64 a, .int .i64 b]) := Lib.hid (by rw [hw2]; exact Blk.new _ _ _)
      rw [← hw2]
      clear hw2 T1
      have c0 : w2.cell? ⟨w1.heap.size, 0, none⟩ = some (.int .i64 kn) := HX2.out.cell 0
      have c1 : w2.cell? ⟨w1.heap.size, 1, none⟩ = some (.int .i64 a) := HX2.out.cell 1
      have c2 : w2.cell? ⟨w1.heap.size, 2, none⟩ = some (.int .i64 b) := HX2.out.cell 2
      go_wp2_with fail
      refine (HTX.out _ _ HX2.out).mono ?_
      rintro e w3 ⟨rfl, B⟩
      have T3 := Lib.hid (T2.out.trans (B.mono T2.out.size))
      clear B
      go_wp2
      go_ret2
      exact ⟨by rw [HV.out]; rfl, T3.out⟩
  · have HV : Hid (trV n m s = (⟨#[]⟩, 2)) := Lib.hid (by unfold trV; rw [if_neg hnm])
    cases hn : inB n 1 4
    · rw [hn] at HN
      clear hn hnm HM
      go_enter Tryd.func25, Tryd.ntmps25
      go_wp2_with fail
      refine (HN.out _).mono ?_
      rintro e w1 ⟨rfl, rfl⟩
      go_wp2
      go_ret2
      exact ⟨by rw [HV.out]; rfl, by go_grown⟩
    · cases hm : inB m 1 4
      · rw [hn] at HN
        rw [hm] at HM
        clear hn hnm hm
        go_enter Tryd.func25, Tryd.ntmps25
        go_wp2_with fail
        refine (HN.out _).mono ?_
        rintro e w1 ⟨rfl, rfl⟩
        go_wp2_with fail
        refine (HM.out _).mono ?_
        rintro e w1 ⟨rfl, rfl⟩
        go_wp2
        go_ret2
        exact ⟨by rw [HV.out]; rfl, by go_grown⟩
      · exact absurd ⟨hn, hm⟩ hnm
set_option maxHeartbeats 1000000 in
theorem iReadSentence_c (s : ByteArray) (n : Int) (hs : s.size ≤ 1048576) (w : World) (he : Env w) :
    Calls Tryd.prog 22 #[.string s, .int .i64 n] w fun e w' => e = .returned (.tuple #[(rsV n s).1.val, .int .i64 (rsV n s).2]) ∧ Below w.heap.size w w' := by
  have HN := Lib.hid fun W => languageOk_c n W
  have HEN := Lib.hid (fun W (hW : Below w.heap.size w W) => he.below hW)
  have HE0 := Lib.hid he
  clear he
  go_enter Tryd.func22, Tryd.ntmps22
  go_upto_region 1 with (fail)
  obtain ⟨w0, hw0⟩ : ∃ W, W = w.alloc (.cells #[.int .i64 0, .int .i64 0, .int .i64 0] 26) := ⟨_, rfl⟩
  have HR0 : Hid (Blk w0 w.heap.size 26 #[.int .i64 0, .int .i64 0, .int .i64 0]) := Lib.hid (by rw [hw0]; exact Blk.new _ _ _)
  have T0 : Hid (Below w.heap.size w w0) := Lib.hid (by rw [hw0]; exact (Below.refl _ _).alloc (Nat.le_refl _) _)
  rw [← hw0]
  clear hw0
  cases hn : inB n 1 4
  · rw [hn] at HN
    have HV : Hid (rsV n s = (⟨0, 0, 0⟩, 2)) := Lib.hid (by unfold rsV; rw [if_pos hn])
    have r0 : w0.cell? ⟨w.heap.size, 0, none⟩ = some (.int .i64 0) := HR0.out.cell 0
    have r1 : w0.cell? ⟨w.heap.size, 1, none⟩ = some (.int .i64 0) := HR0.out.cell 1
    have r2 : w0.cell? ⟨w.heap.size, 2, none⟩ = some (.int .i64 0) := HR0.out.cell 2
    have f0 := HR0.out.frozen 0
    have f1 := HR0.out.frozen 1
    have f2 := HR0.out.frozen 2
    have hk3 := ((HR0.out.set_ 0 (.int .i64 0)).set_ 1 (.int .i64 0)).set_ 2 (.int .i64 0)
    have q0 := hk3.cell 0
    have q1 := hk3.cell 1
    have q2 := hk3.cell 2
    simp at q0 q1 q2
    have HQ0 := Lib.hid q0
    have HQ1 := Lib.hid q1
    have HQ2 := Lib.hid q2
    clear hk3 q0 q1 q2 hn
    go_wp2_with fail
    refine (HN.out _).mono ?_
    rintro e w1 ⟨rfl, rfl⟩
    go_wp2
    refine bodyPost_ret (v := .tuple #[.agg #[.int .i64 0, .int .i64 0, .int .i64 0], .int .i64 2]) (by have q0 := HQ0.out; have q1 := HQ1.out; have q2 := HQ2.out; simp [results, Tryd.results22, go_sem, q0, q1, q2]) rfl ?_
    exact ⟨by rw [HV.out]; rfl, ((T0.out.setCell (p := ⟨w.heap.size, 0, none⟩) (Nat.le_refl _) _).setCell (p := ⟨w.heap.size, 1, none⟩) (Nat.le_refl _) _).setCell (p := ⟨w.heap.size, 2, none⟩) (Nat.le_refl _) _⟩
  · rw [hn] at HN
    obtain ⟨l, rfl, hl⟩ := inB_lang hn
    have HV := Lib.hid (rsV_lang hn s)
    have HRD := Lib.hid (fun W hW => iReadS_c l hl s hs W hW)
    rw [Int.toNat_natCast] at HV
    generalize readV l s.data.toList = v at *
    obtain ⟨⟨k, a, b⟩, ok⟩ := v
    simp only [Sen.val] at HRD HV
    clear hn hl
    go_wp2_with fail
    refine (HN.out _).mono ?_
    rintro e w1 ⟨rfl, rfl⟩
    go_wp2_with fail
    refine (HRD.out _ (HEN.out _ T0.out)).mono ?_
    rintro e w1 ⟨rfl, B⟩
    have T1 := Lib.hid (T0.out.trans (B.mono T0.out.size))
    have HR1 := Lib.hid (HR0.out.below B HR0.out.lt)
    clear B HRD T0 HR0
    have hw1 := T1.out.size
    have hlt := HR1.out.lt
    go_upto_region 4 with (fail)
    obtain ⟨w2, hw2⟩ : ∃ W, W = w1.alloc (.cells #[.int .i64 k, .int .i64 a, .int .i64 b] 26) := ⟨_, rfl⟩
    have T2 : Hid (Below w.heap.size w w2) := Lib.hid (by rw [hw2]; exact T1.out.alloc hw1 _)
    have HX2 : Hid (Blk w2 w1.heap.size 26 #[.int .i64 k, .int .i64 a, .int .i64 b]) := Lib.hid (by rw [hw2]; exact Blk.new _ _ _)
    have HR2 : Hid (Blk w2 w.heap.size 26 #[.int .i64 0, .int .i64 0, .int .i64 0]) := Lib.hid (by rw [hw2]; exact HR1.out.alloc _)
    rw [← hw2]
    clear hw2 T1 HR1
    have r0 : w2.cell? ⟨w.heap.size, 0, none⟩ = some (.int .i64 0) := HR2.out.cell 0
    have r1 : w2.cell? ⟨w.heap.size, 1, none⟩ = some (.int .i64 0) := HR2.out.cell 1
    have r2 : w2.cell? ⟨w.heap.size, 2, none⟩ = some (.int .i64 0) := HR2.out.cell 2
    have c0 : w2.cell? ⟨w1.heap.size, 0, none⟩ = some (.int .i64 k) := HX2.out.cell 0
    have c1 : w2.cell? ⟨w1.heap.size, 1, none⟩ = some (.int .i64 a) := HX2.out.cell 1
    have c2 : w2.cell? ⟨w1.heap.size, 2, none⟩ = some (.int .i64 b) := HX2.out.cell 2
    have f0 := HR2.out.frozen 0
    have f1 := HR2.out.frozen 1
    have f2 := HR2.out.frozen 2
    cases ok
    · have hk3 := ((HR2.out.set_ 0 (.int .i64 0)).set_ 1 (.int .i64 0)).set_ 2 (.int .i64 0)
      have q0 := hk3.cell 0
      have q1 := hk3.cell 1
      have q2 := hk3.cell 2
      simp at q0 q1 q2
      have HQ0 := Lib.hid q0
      have HQ1 := Lib.hid q1
      have HQ2 := Lib.hid q2
      clear hk3 q0 q1 q2
      go_wp2
      refine bodyPost_ret (v := .tuple #[.agg #[.int .i64 0, .int .i64 0, .int .i64 0], .int .i64 8]) (by have q0 := HQ0.out; have q1 := HQ1.out; have q2 := HQ2.out; simp [results, Tryd.results22, go_sem, q0, q1, q2]) rfl ?_
      exact ⟨by rw [HV.out]; rfl, ((T2.out.setCell (p := ⟨w.heap.size, 0, none⟩) (Nat.le_refl _) _).setCell (p := ⟨w.heap.size, 1, none⟩) (Nat.le_refl _) _).setCell (p := ⟨w.heap.size, 2, none⟩) (Nat.le_refl _) _⟩
    · have hk3 := ((HR2.out.set_ 0 (.int .i64 k)).set_ 1 (.int .i64 a)).set_ 2 (.int .i64 b)
      have q0 := hk3.cell 0
      have q1 := hk3.cell 1
      have q2 := hk3.cell 2
      simp at q0 q1 q2
      have HQ0 := Lib.hid q0
      have HQ1 := Lib.hid q1
      have HQ2 := Lib.hid q2
      clear hk3 q0 q1 q2
      go_wp2
      refine bodyPost_ret (v := .tuple #[.agg #[.int .i64 k, .int .i64 a, .int .i64 b], .int .i64 0]) (by have q0 := HQ0.out; have q1 := HQ1.out; have q2 := HQ2.out; simp [results, Tryd.results22, go_sem, q0, q1, q2]) rfl ?_
      exact ⟨by rw [HV.out]; rfl, ((T2.out.setCell (p := ⟨w.heap.size, 0, none⟩) (Nat.le_refl _) _).setCell (p := ⟨w.heap.size, 1, none⟩) (Nat.le_refl _) _).setCell (p := ⟨w.heap.size, 2, none⟩) (Nat.le_refl _) _⟩
set_option maxHeartbeats 1000000 in
theorem iTranslateText_c (s : ByteArray) (n m : Int) (hs : s.size ≤ 1048576) (w : World) (he : Env w) :
    Calls Tryd.prog 23 #[.string s, .int .i64 n, .int .i64 m] w fun e w' => e = .returned (.tuple #[.string (trV n m s).1, .int .i64 (trV n m s).2]) ∧ Below w.heap.size w w' := by
  have HN := Lib.hid fun W => languageOk_c n W
  have HM := Lib.hid fun W => languageOk_c m W
  have HEN := Lib.hid (fun W (hW : Below w.heap.size w W) => he.below hW)
  have HE0 := Lib.hid he
  clear he
  by_cases hnm : inB n 1 4 = true ∧ inB m 1 4 = true
  · obtain ⟨hn, hm⟩ := hnm
    rw [hn] at HN
    rw [hm] at HM
    have HV := Lib.hid (trV_lang hn hm s)
    obtain ⟨l, rfl, hl⟩ := inB_lang hn
    obtain ⟨l2, rfl, hl2⟩ := inB_lang hm
    rw [Int.toNat_natCast, Int.toNat_natCast] at HV
    have HRD := Lib.hid (fun W hW => iReadS_c l hl s hs W hW)
    have HOK := Lib.hid (readV_ok hl s.data.toList)
    generalize readV l s.data.toList = v at *
    obtain ⟨⟨k, a, b⟩, ok⟩ := v
    simp only [Sen.val] at HRD HV
    clear hn hm
    cases ok
    · go_enter Tryd.func23, Tryd.ntmps23
      go_wp2_with fail
      refine (HN.out _).mono ?_
      rintro e w1 ⟨rfl, rfl⟩
      go_wp2_with fail
      refine (HM.out _).mono ?_
      rintro e w1 ⟨rfl, rfl⟩
      go_wp2_with fail
      refine (HRD.out _ HE0.out).mono ?_
      rintro e w1 ⟨rfl, B⟩
      have T1 := Lib.hid B
      clear B HRD
      go_wp2
      go_ret2
      exact ⟨by rw [HV.out]; rfl, T1.out.alloc T1.out.size _⟩
    · obtain ⟨kn, rfl, q1, q7, ha, hb, hzz⟩ := okS_num (HOK.out rfl)
      clear hzz
      have HTX := Lib.hid (fun W hW => iTextE_c kn l2 a b ⟨q1, q7⟩ hl2 ha hb W hW)
      clear hl hl2 q1 q7 ha hb HOK
      go_enter Tryd.func23, Tryd.ntmps23
      go_wp2_with fail
      refine (HN.out _).mono ?_
      rintro e w1 ⟨rfl, rfl⟩
      go_wp2_with fail
      refine (HM.out _).mono ?_
      rintro e w1 ⟨rfl, rfl⟩
      go_wp2_with fail
      refine (HRD.out _ HE0.out).mono ?_
      rintro e w1 ⟨rfl, B⟩
      have T1 := Lib.hid B
      have hw1 := B.size
      clear B HRD
      go_upto_region 4 with (fail)
      obtain ⟨w2, hw2⟩ : ∃ W, W = w1.alloc (.cells #[.int .i64 kn, .int .i64 a, .int .i64 b] 26) := ⟨_, rfl⟩
      have T2 : Hid (Below w.heap.size w w2) := Lib.hid (by rw [hw2]; exact T1.out.alloc hw1 _)
      have HX2 : Hid (Blk w2 w1.heap.size 26 #[.int .i64 kn, .int .i64 a, .int .i64 b]) := Lib.hid (by rw [hw2]; exact Blk.new _ _ _)
      rw [← hw2]
      clear hw2 T1
      have c0 : w2.cell? ⟨w1.heap.size, 0, none⟩ = some (.int .i64 kn) := HX2.out.cell 0
      have c1 : w2.cell? ⟨w1.heap.size, 1, none⟩ = some (.int .i64 a) := HX2.out.cell 1
      have c2 : w2.cell? ⟨w1.heap.size, 2, none⟩ = some (.int .i64 b) := HX2.out.cell 2
      go_wp2_with fail
      refine (HTX.out _ (HEN.out _ T2.out)).mono ?_
      rintro e w3 ⟨rfl, B⟩
      have T3 := Lib.hid (T2.out.trans (B.mono T2.out.size))
      clear B
      go_wp2
      go_ret2
      exact ⟨by rw [HV.out]; rfl, T3.out⟩
  · have HV : Hid (trV n m s = (⟨#[]⟩, 2)) := Lib.hid (by unfold trV; rw [if_neg hnm])
    cases hn : inB n 1 4
    · rw [hn] at HN
      clear hn hnm HM
      go_enter Tryd.func23, Tryd.ntmps23
      go_wp2_with fail
      refine (HN.out _).mono ?_
      rintro e w1 ⟨rfl, rfl⟩
      go_wp2
      go_ret2
      exact ⟨by rw [HV.out]; rfl, by go_grown⟩
    · cases hm : inB m 1 4
      · rw [hn] at HN
        rw [hm] at HM
        clear hn hnm hm
        go_enter Tryd.func23, Tryd.ntmps23
        go_wp2_with fail
        refine (HN.out _).mono ?_
        rintro e w1 ⟨rfl, rfl⟩
        go_wp2_with fail
        refine (HM.out _).mono ?_
        rintro e w1 ⟨rfl, rfl⟩
        go_wp2
        go_ret2
        exact ⟨by rw [HV.out]; rfl, by go_grown⟩
      · exact absurd ⟨hn, hm⟩ hnm
end Go.Proofs.YthbnliepgjjbdaaDoor
