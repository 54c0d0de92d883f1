/- Sentences: one read from a text, by the reference (printed by wip/tools/mk_sns.py). -/
import Derived.Test.YthbnliepgjjbdaaDoorSnQ
import Derived.Test.YthbnliepgjjbdaaDoorSnH
namespace Go.Proofs.YthbnliepgjjbdaaDoor
open Go.ChangeShapes Go.WideShapes Go.ChangeAt Go.RowKit
set_option linter.unusedVariables false
theorem ok_range {k a b : Int} (h : okS k a b = true) : (k = 4 → 0 ≤ a ∧ a ≤ 7 ∧ 0 ≤ b ∧ b ≤ 7) ∧ (k ≠ 4 → -1 ≤ a ∧ a ≤ 5000 ∧ 0 ≤ b ∧ b ≤ 0) := by
  obtain ⟨kn, rfl, q1, q7, _⟩ := okS_num h
  unfold okS inB at h
  have hk7 : kn = 1 ∨ kn = 2 ∨ kn = 3 ∨ kn = 4 ∨ kn = 5 ∨ kn = 6 ∨ kn = 7 := by omega
  rcases hk7 with rfl | rfl | rfl | rfl | rfl | rfl | rfl <;> simp at h ⊢ <;> omega
theorem isText_four {l : Nat} {t : List UInt8} : ∀ x, IsText l t x → x.k = (4 : Nat) → 0 ≤ x.a ∧ x.a ≤ 7 ∧ 0 ≤ x.b ∧ x.b ≤ 7 := fun x h hk => (ok_range h.1).1 (by omega)
theorem isText_other {l k : Nat} {t : List UInt8} (hk4 : k ≠ 4) : ∀ x, IsText l t x → x.k = (k : Nat) → -1 ≤ x.a ∧ x.a ≤ 5000 ∧ 0 ≤ x.b ∧ x.b ≤ 0 := fun x h hk => (ok_range h.1).2 (by omega)
theorem step_b {l k : Nat} {t : List UInt8} {av bv : Int} (h : ∀ x, IsText l t x → x.k = (k : Nat) → x.a = av → bv ≤ x.b) {x : Sen} (hx : x = ⟨k, av, bv⟩) (hn : ¬ IsText l t x) :
    ∀ x, IsText l t x → x.k = (k : Nat) → x.a = av → bv + 1 ≤ x.b := by
  intro y h1 h2 h3
  have g := h y h1 h2 h3
  apply Classical.byContradiction
  intro hq
  have e : y = x := by
    obtain ⟨k', a', b'⟩ := y
    simp only at h2 h3 g hq
    rw [hx, h2, h3]
    congr 1; omega
  rw [e] at h1
  exact hn h1
theorem head_no {l k : Nat} (hl : 1 ≤ l ∧ l ≤ 4) {t : List UInt8} (hlow : ∀ s, IsText l t s → (k : Int) ≤ s.k) (h : ¬ (partT k l).1 <+: t) : ∀ s, IsText l t s → ((k + 1 : Nat) : Int) ≤ s.k := by
  intro s hs
  have h1 := hlow s hs
  apply Classical.byContradiction
  intro hq
  obtain ⟨_, _, _, q4⟩ := isText_kind hs (k := k) (by omega)
  rw [text_split] at q4
  exact h ⟨_, q4⟩
theorem ext_pre {s : ByteArray} {p : List UInt8} {h : ByteArray} (hh : h = ⟨p.toArray⟩) : ((s.extract 0 h.size).toList == h.toList) = decide (p <+: s.data.toList) := by
  have hz : h.size = p.length := by rw [hh]; rfl
  rw [eqT, Bool.eq_iff_iff, decide_eq_true_iff, decide_eq_true_iff, hz]
  constructor
  · intro e
    have e2 : (s.extract 0 p.length).data.toList = h.data.toList := by rw [e]
    rw [ext_list, hh] at e2
    simp at e2
    rw [← e2]
    exact List.take_prefix _ _
  · rintro ⟨r, hr⟩
    have e2 : (s.extract 0 p.length).data.toList = p := by rw [ext_list, ← hr]; simp
    rw [hh]
    obtain ⟨⟨x⟩⟩ := h
    have : (s.extract 0 p.length) = ⟨(s.extract 0 p.length).data.toList.toArray⟩ := by cases (s.extract 0 p.length); rfl
    rw [this, e2]
set_option maxHeartbeats 4000000 in
set_option maxRecDepth 100000 in
theorem l19Read_c (l : Nat) (hl0 : 1 ≤ l ∧ l ≤ 4) (s : ByteArray) (hs : s.size ≤ 1048576) (w : World) :
    Calls Tryd.prog 48 #[.string s, .int .i64 l] w fun e w' => e = .returned (.tuple #[(readV l s.data.toList).1.val, .bool (readV l s.data.toList).2]) ∧ Below w.heap.size w w' := by
  have hl := Lib.hid hl0
  clear hl0
  go_enter Tryd.func48, Tryd.ntmps48
  go_wp2
  go_loopw [6] (fun iv wr => ∃ k : Nat, 1 ≤ k ∧ k ≤ 8 ∧ iv = .int .i64 k ∧ Hid (∀ x, IsText l s.data.toList x → (k : Int) ≤ x.k) ∧ Hid (Blk wr w.heap.size 26 #[.int .i64 0, .int .i64 0, .int .i64 0]) ∧ Hid (Below w.heap.size w wr)) (fun iv _ => 8 - (intOf iv).toNat)
  case atStart => exact ⟨1, by omega, by omega, rfl, Lib.hid (fun x hx => (isText_range hx).1), Lib.hid (Blk.new _ _ _), Lib.hid ((Below.refl _ _).alloc (Nat.le_refl _) _)⟩
  case round =>
    obtain ⟨k, hk1, hk8, rfl, HLO, HR, HB⟩ := hrel
    generalize wr = wo at *
    by_cases hlt : k = 8
    · subst hlt
      have HV := Lib.hid (readV_none (l := l) (t := s.data.toList) (fun x hx => by have h1 := HLO.out x hx; have h2 := (isText_range hx).2; omega))
      have r0 : wo.cell? ⟨w.heap.size, 0, none⟩ = some (.int .i64 0) := HR.out.cell 0
      have r1 : wo.cell? ⟨w.heap.size, 1, none⟩ = some (.int .i64 0) := HR.out.cell 1
      have r2 : wo.cell? ⟨w.heap.size, 2, none⟩ = some (.int .i64 0) := HR.out.cell 2
      have f0 := HR.out.frozen 0
      have f1 := HR.out.frozen 1
      have f2 := HR.out.frozen 2
      have hk3 := ((HR.out.set_ 0 (.int .i64 0)).set_ 1 (.int .i64 0)).set_ 2 (.int .i64 0)
      have q0 := hk3.cell 0
      have q1 := hk3.cell 1
      have q2 := hk3.cell 2
      simp at q0 q1 q2
      have HQ0 := Lib.hid q0
      have HQ1 := Lib.hid q1
      have HQ2 := Lib.hid q2
      clear hk3 q0 q1 q2
      go_wp2
      refine bodyPost_ret (v := .tuple #[.agg #[.int .i64 0, .int .i64 0, .int .i64 0], .bool false]) (by have q0 := HQ0.out; have q1 := HQ1.out; have q2 := HQ2.out; simp [results, Tryd.results48, go_sem, q0, q1, q2]) rfl ?_
      exact ⟨by rw [HV.out]; rfl, ((HB.out.setCell (p := ⟨w.heap.size, 0, none⟩) (Nat.le_refl _) _).setCell (p := ⟨w.heap.size, 1, none⟩) (Nat.le_refl _) _).setCell (p := ⟨w.heap.size, 2, none⟩) (Nat.le_refl _) _⟩
    · have hkk : 1 ≤ k ∧ k ≤ 7 := by omega
      have hkn : (k : Int) ≤ 7 := by omega
      have HPC := Lib.hid (l19Parts_c k l hkk hl.out wo)
      have hpe : ∃ r, partsB k l = ⟨(partT k l).1.toArray⟩ :: r ∧ 0 < (partsB k l).length := by
        unfold partsB
        rw [if_neg (by omega)]
        split
        · exact ⟨_, rfl, by simp⟩
        · exact ⟨_, rfl, by simp⟩
      obtain ⟨hd, hhd⟩ : ∃ b : ByteArray, b = ⟨(partT k l).1.toArray⟩ := ⟨_, rfl⟩
      have HPR := Lib.hid (ext_pre (s := s) hhd)
      have hz : hd.size = (partT k l).1.length := by rw [hhd]; rfl
      have HNO := Lib.hid (fun h => head_no (k := k) hl.out (t := s.data.toList) HLO.out h)
      have hsz := size_l s
      go_wp2_with fail
      refine HPC.out.mono ?_
      rintro e w1 ⟨g, rfl, hb1, B⟩
      have T1 := Lib.hid (HB.out.trans (B.mono HB.out.size))
      have HR1 := Lib.hid (HR.out.below B HR.out.lt)
      have d0 : w1.cell? ⟨g, 0, none⟩ = some (.string hd) := by
        obtain ⟨r, hr, _⟩ := hpe
        rw [hb1.cell 0, hr, hhd]; rfl
      have hpl : (0 : Int) < ((partsB k l).length : Int) := by obtain ⟨r, _, h⟩ := hpe; omega
      generalize (partsB k l).length = pl at *
      clear hb1 B hpe hhd HPC
      by_cases hle : s.size < hd.size
      · have hle' : (s.size : Int) < (hd.size : Int) := by omega
        have HNX := Lib.hid (HNO.out (fun h => by have := h.length_le; omega))
        clear HPR hz hsz hle
        go_wp2
        go_roundw
        case rel => exact ⟨k + 1, by omega, by omega, by go_num, HNX, HR1, T1⟩
        case measure => simp [intOf]; omega
      · have hle' : ¬ (s.size : Int) < (hd.size : Int) := by omega
        have hle2 : (hd.size : Int) ≤ (s.size : Int) := by omega
        by_cases hp : (partT k l).1 <+: s.data.toList
        · have hq : ((s.extract 0 hd.size).toList == hd.toList) = true := by rw [HPR.out]; simpa using hp
          have HZ1 : Hid (decide (s.size < hd.size) = false) := Lib.hid (by simpa using hle)
          clear HPR hz hsz hle HNO hp
          by_cases hk4 : k = 4
          · subst hk4
            have HRG := Lib.hid (isText_four (l := l) (t := s.data.toList))
            go_wp2_with fail
            have hz1 := HZ1.out
            simp only [hz1]
            clear hz1
            go_loopw [11] (fun av wr => ∃ a : Int, 0 ≤ a ∧ a ≤ 7 + 1 ∧ av = .int .i64 a ∧ Hid (∀ x, IsText l s.data.toList x → x.k = (4 : Nat) → a ≤ x.a) ∧ Hid (Blk wr w.heap.size 26 #[.int .i64 0, .int .i64 0, .int .i64 0]) ∧ Hid (Below w.heap.size w wr)) (fun av _ => (7 + 1 - intOf av).toNat)
            case atStart => exact ⟨0, by omega, by omega, rfl, Lib.hid (fun x h1 h2 => (HRG.out x h1 h2).1), HR1, T1⟩
            case round =>
              clear HR1 T1
              obtain ⟨av, ha1, ha2, rfl, HA, HR2, T2⟩ := hrel
              generalize wr = wm at *
              by_cases hah : av ≤ 7
              · go_wp2_with fail
                go_loopw [12] (fun bv wr => ∃ b : Int, 0 ≤ b ∧ b ≤ 7 + 1 ∧ bv = .int .i64 b ∧ Hid (∀ x, IsText l s.data.toList x → x.k = (4 : Nat) → x.a = av → b ≤ x.b) ∧ Hid (Blk wr w.heap.size 26 #[.int .i64 0, .int .i64 0, .int .i64 0]) ∧ Hid (Below w.heap.size w wr)) (fun bv _ => (7 + 1 - intOf bv).toNat)
                case atStart => exact ⟨0, by omega, by omega, rfl, Lib.hid (fun x h1 h2 _ => (HRG.out x h1 h2).2.2.1), HR2, T2⟩
                case round =>
                  clear HR2 T2
                  obtain ⟨bv, hb1, hb2, rfl, HBB, HR3, T3⟩ := hrel
                  by_cases hbh : bv ≤ 7
                  · have hwb : IntKind.i64.wrap (bv + 1) = bv + 1 := IntWalk.i64_in _ (by omega)
                    have hs3 := T3.out.size
                    have T4 : Hid (Below w.heap.size w (wr.alloc (.cells #[.int .i64 (4 : Nat), .int .i64 av, .int .i64 bv] 26))) := Lib.hid (T3.out.alloc hs3 _)
                    have HX4 := Lib.hid (Blk.new wr 26 #[.int .i64 (4 : Nat), .int .i64 av, .int .i64 bv])
                    have HR4 := Lib.hid (HR3.out.alloc (.cells #[.int .i64 (4 : Nat), .int .i64 av, .int .i64 bv] 26))
                    have hxs := HR3.out.lt
                    have HOK := Lib.hid (fun (W : World) (hW : Blk W wr.heap.size 26 #[.int .i64 (4 : Nat), .int .i64 av, .int .i64 bv]) => l19Ok_c ⟨wr.heap.size, 0, none⟩ 4 av bv W (hW.cell 0) (hW.cell 1) (hW.cell 2))
                    have HSO := Lib.hid (show (⟨4, av, bv⟩ : Sen).ok = okS 4 av bv from rfl)
                    cases ho : okS 4 av bv
                    · rw [ho] at HOK HSO
                      have HNX := Lib.hid (step_b HBB.out (x := ⟨4, av, bv⟩) rfl (fun h => by have := h.1; rw [HSO.out] at this; cases this))
                      clear ho
                      go_wp2_with fail
                      refine (HOK.out _ HX4.out).mono ?_
                      rintro e w5 ⟨rfl, rfl⟩
                      go_wp2
                      go_roundw
                      case rel => exact ⟨bv + 1, by omega, by omega, rfl, HNX, HR4, T4⟩
                      case measure => simp [intOf]; omega
                    · rw [ho] at HOK HSO
                      obtain ⟨kn, hkq, q1, q7, hna, hnb, hzz⟩ := okS_num ho
                      obtain rfl : 4 = kn := by omega
                      clear hzz
                      have HTX := Lib.hid (fun (W : World) (hW : Blk W wr.heap.size 26 #[.int .i64 (4 : Nat), .int .i64 av, .int .i64 bv]) => l19Text_c 4 l av bv ⟨q1, q7⟩ hl.out hna hnb ⟨wr.heap.size, 0, none⟩ W (hW.cell 0) (hW.cell 1) (hW.cell 2))
                      have HTE := Lib.hid (show (⟨4, av, bv⟩ : Sen).text l = textT 4 l av bv from rfl)
                      have HEQ := Lib.hid (eqL (textT 4 l av bv) s.data.toList)
                      have hmk : (⟨s.data.toList.toArray⟩ : ByteArray) = s := by cases s; rfl
                      rw [hmk] at HEQ
                      clear hmk ho hkq q1 q7 hna hnb
                      go_wp2_with fail
                      refine (HOK.out _ HX4.out).mono ?_
                      rintro e w5 ⟨rfl, rfl⟩
                      go_wp2_with fail
                      refine (HTX.out _ HX4.out).mono ?_
                      rintro e w6 ⟨rfl, B⟩
                      have T6 := Lib.hid (T4.out.trans (B.mono T4.out.size))
                      have HR6 := Lib.hid (HR4.out.below B HR4.out.lt)
                      have HX6 := Lib.hid (HX4.out.below B HX4.out.lt)
                      clear B HTX HOK
                      by_cases he : textT 4 l av bv = s.data.toList
                      · have HV := Lib.hid (readV_some (t := s.data.toList) hl.out (s := ⟨4, av, bv⟩) ⟨HSO.out, by rw [HTE.out]; exact he⟩)
                        have hq : ((⟨(textT 4 l av bv).toArray⟩ : ByteArray).toList == s.toList) = true := by rw [HEQ.out]; simpa using he
                        obtain ⟨tb, htb⟩ : ∃ b : ByteArray, b = ⟨(textT 4 l av bv).toArray⟩ := ⟨_, rfl⟩
                        rw [← htb] at hq ⊢
                        clear he HEQ htb HBB HA HRG
                        have c0 : w6.cell? ⟨wr.heap.size, 0, none⟩ = some (.int .i64 (4 : Nat)) := HX6.out.cell 0
                        have c1 : w6.cell? ⟨wr.heap.size, 1, none⟩ = some (.int .i64 av) := HX6.out.cell 1
                        have c2 : w6.cell? ⟨wr.heap.size, 2, none⟩ = some (.int .i64 bv) := HX6.out.cell 2
                        have r0 : w6.cell? ⟨w.heap.size, 0, none⟩ = some (.int .i64 0) := HR6.out.cell 0
                        have r1 : w6.cell? ⟨w.heap.size, 1, none⟩ = some (.int .i64 0) := HR6.out.cell 1
                        have r2 : w6.cell? ⟨w.heap.size, 2, none⟩ = some (.int .i64 0) := HR6.out.cell 2
                        have f0 := HR6.out.frozen 0
                        have f1 := HR6.out.frozen 1
                        have f2 := HR6.out.frozen 2
                        have hk3 := ((HR6.out.set_ 0 (.int .i64 (4 : Nat))).set_ 1 (.int .i64 av)).set_ 2 (.int .i64 bv)
                        have q0 := hk3.cell 0
                        have q1 := hk3.cell 1
                        have q2 := hk3.cell 2
                        simp at q0 q1 q2
                        have HQ0 := Lib.hid q0
                        have HQ1 := Lib.hid q1
                        have HQ2 := Lib.hid q2
                        clear hk3 q0 q1 q2
                        go_wp2
                        refine bodyPost_ret (v := .tuple #[.agg #[.int .i64 4, .int .i64 av, .int .i64 bv], .bool true]) (by have q0 := HQ0.out; have q1 := HQ1.out; have q2 := HQ2.out; simp [results, Tryd.results48, go_sem, q0, q1, q2]) rfl ?_
                        exact ⟨by rw [HV.out]; rfl, ((T6.out.setCell (p := ⟨w.heap.size, 0, none⟩) (Nat.le_refl _) _).setCell (p := ⟨w.heap.size, 1, none⟩) (Nat.le_refl _) _).setCell (p := ⟨w.heap.size, 2, none⟩) (Nat.le_refl _) _⟩
                      · have HNX := Lib.hid (step_b HBB.out (x := ⟨4, av, bv⟩) rfl (fun h => he (by have := h.2; rw [HTE.out] at this; exact this)))
                        have hq : ((⟨(textT 4 l av bv).toArray⟩ : ByteArray).toList == s.toList) = false := by rw [HEQ.out]; simpa using he
                        obtain ⟨tb, htb⟩ : ∃ b : ByteArray, b = ⟨(textT 4 l av bv).toArray⟩ := ⟨_, rfl⟩
                        rw [← htb] at hq ⊢
                        clear he HEQ htb
                        go_wp2
                        go_roundw
                        case rel => exact ⟨bv + 1, by omega, by omega, rfl, HNX, HR6, T6⟩
                        case measure => simp [intOf]; omega
                  · have hwa : IntKind.i64.wrap (av + 1) = av + 1 := IntWalk.i64_in _ (by omega)
                    have HNX : Hid (∀ x, IsText l s.data.toList x → x.k = (4 : Nat) → av + 1 ≤ x.a) := Lib.hid (fun x h1 h2 => by have g1 := HA.out x h1 h2; have g2 := HRG.out x h1 h2; by_cases hx : x.a = av; (have g3 := HBB.out x h1 h2 hx; omega); omega)
                    go_wp2
                    go_roundw
                    case rel => exact ⟨av + 1, by omega, by omega, rfl, HNX, HR3, T3⟩
                    case measure => simp [intOf]; omega
              · have HNX : Hid (∀ x, IsText l s.data.toList x → ((4 + 1 : Nat) : Int) ≤ x.k) := Lib.hid (fun x h1 => by have g0 := HLO.out x h1; apply Classical.byContradiction; intro hq; have g1 := HA.out x h1 (by omega); have g2 := HRG.out x h1 (by omega); omega)
                go_wp2
                go_roundw
                case rel => exact ⟨4 + 1, by omega, by omega, by go_num, HNX, HR2, T2⟩
                case measure => first | (simp [intOf]; done) | (simp [intOf]; omega)
          · have HRG := Lib.hid (isText_other (l := l) (t := s.data.toList) (k := k) hk4)
            have hk4' : ¬ ((k : Int) = 4) := by omega
            go_wp2_with fail
            have hz1 := HZ1.out
            have hz2 : ((k : Int) == 4) = false := by simpa using hk4'
            simp only [hz1, hz2]
            clear hz1 hz2
            go_loopw [11] (fun av wr => ∃ a : Int, (-1) ≤ a ∧ a ≤ 5000 + 1 ∧ av = .int .i64 a ∧ Hid (∀ x, IsText l s.data.toList x → x.k = (k : Nat) → a ≤ x.a) ∧ Hid (Blk wr w.heap.size 26 #[.int .i64 0, .int .i64 0, .int .i64 0]) ∧ Hid (Below w.heap.size w wr)) (fun av _ => (5000 + 1 - intOf av).toNat)
            case atStart => exact ⟨(-1), by omega, by omega, rfl, Lib.hid (fun x h1 h2 => (HRG.out x h1 h2).1), HR1, T1⟩
            case round =>
              clear HR1 T1
              obtain ⟨av, ha1, ha2, rfl, HA, HR2, T2⟩ := hrel
              generalize wr = wm at *
              by_cases hah : av ≤ 5000
              · go_wp2_with fail
                go_loopw [12] (fun bv wr => ∃ b : Int, 0 ≤ b ∧ b ≤ 0 + 1 ∧ bv = .int .i64 b ∧ Hid (∀ x, IsText l s.data.toList x → x.k = (k : Nat) → x.a = av → b ≤ x.b) ∧ Hid (Blk wr w.heap.size 26 #[.int .i64 0, .int .i64 0, .int .i64 0]) ∧ Hid (Below w.heap.size w wr)) (fun bv _ => (0 + 1 - intOf bv).toNat)
                case atStart => exact ⟨0, by omega, by omega, rfl, Lib.hid (fun x h1 h2 _ => (HRG.out x h1 h2).2.2.1), HR2, T2⟩
                case round =>
                  clear HR2 T2
                  obtain ⟨bv, hb1, hb2, rfl, HBB, HR3, T3⟩ := hrel
                  by_cases hbh : bv ≤ 0
                  · have hwb : IntKind.i64.wrap (bv + 1) = bv + 1 := IntWalk.i64_in _ (by omega)
                    have hs3 := T3.out.size
                    have T4 : Hid (Below w.heap.size w (wr.alloc (.cells #[.int .i64 (k : Nat), .int .i64 av, .int .i64 bv] 26))) := Lib.hid (T3.out.alloc hs3 _)
                    have HX4 := Lib.hid (Blk.new wr 26 #[.int .i64 (k : Nat), .int .i64 av, .int .i64 bv])
                    have HR4 := Lib.hid (HR3.out.alloc (.cells #[.int .i64 (k : Nat), .int .i64 av, .int .i64 bv] 26))
                    have hxs := HR3.out.lt
                    have HOK := Lib.hid (fun (W : World) (hW : Blk W wr.heap.size 26 #[.int .i64 (k : Nat), .int .i64 av, .int .i64 bv]) => l19Ok_c ⟨wr.heap.size, 0, none⟩ k av bv W (hW.cell 0) (hW.cell 1) (hW.cell 2))
                    have HSO := Lib.hid (show (⟨k, av, bv⟩ : Sen).ok = okS k av bv from rfl)
                    cases ho : okS k av bv
                    · rw [ho] at HOK HSO
                      have HNX := Lib.hid (step_b HBB.out (x := ⟨k, av, bv⟩) rfl (fun h => by have := h.1; rw [HSO.out] at this; cases this))
                      clear ho
                      go_wp2_with fail
                      refine (HOK.out _ HX4.out).mono ?_
                      rintro e w5 ⟨rfl, rfl⟩
                      go_wp2
                      go_roundw
                      case rel => exact ⟨bv + 1, by omega, by omega, rfl, HNX, HR4, T4⟩
                      case measure => simp [intOf]; omega
                    · rw [ho] at HOK HSO
                      obtain ⟨kn, hkq, q1, q7, hna, hnb, hzz⟩ := okS_num ho
                      obtain rfl : k = kn := by omega
                      clear hzz
                      have HTX := Lib.hid (fun (W : World) (hW : Blk W wr.heap.size 26 #[.int .i64 (k : Nat), .int .i64 av, .int .i64 bv]) => l19Text_c k l av bv ⟨q1, q7⟩ hl.out hna hnb ⟨wr.heap.size, 0, none⟩ W (hW.cell 0) (hW.cell 1) (hW.cell 2))
                      have HTE := Lib.hid (show (⟨k, av, bv⟩ : Sen).text l = textT k l av bv from rfl)
                      have HEQ := Lib.hid (eqL (textT k l av bv) s.data.toList)
                      have hmk : (⟨s.data.toList.toArray⟩ : ByteArray) = s := by cases s; rfl
                      rw [hmk] at HEQ
                      clear hmk ho hkq q1 q7 hna hnb
                      go_wp2_with fail
                      refine (HOK.out _ HX4.out).mono ?_
                      rintro e w5 ⟨rfl, rfl⟩
                      go_wp2_with fail
                      refine (HTX.out _ HX4.out).mono ?_
                      rintro e w6 ⟨rfl, B⟩
                      have T6 := Lib.hid (T4.out.trans (B.mono T4.out.size))
                      have HR6 := Lib.hid (HR4.out.below B HR4.out.lt)
                      have HX6 := Lib.hid (HX4.out.below B HX4.out.lt)
                      clear B HTX HOK
                      by_cases he : textT k l av bv = s.data.toList
                      · have HV := Lib.hid (readV_some (t := s.data.toList) hl.out (s := ⟨k, av, bv⟩) ⟨HSO.out, by rw [HTE.out]; exact he⟩)
                        have hq : ((⟨(textT k l av bv).toArray⟩ : ByteArray).toList == s.toList) = true := by rw [HEQ.out]; simpa using he
                        obtain ⟨tb, htb⟩ : ∃ b : ByteArray, b = ⟨(textT k l av bv).toArray⟩ := ⟨_, rfl⟩
                        rw [← htb] at hq ⊢
                        clear he HEQ htb HBB HA HRG
                        have c0 : w6.cell? ⟨wr.heap.size, 0, none⟩ = some (.int .i64 (k : Nat)) := HX6.out.cell 0
                        have c1 : w6.cell? ⟨wr.heap.size, 1, none⟩ = some (.int .i64 av) := HX6.out.cell 1
                        have c2 : w6.cell? ⟨wr.heap.size, 2, none⟩ = some (.int .i64 bv) := HX6.out.cell 2
                        have r0 : w6.cell? ⟨w.heap.size, 0, none⟩ = some (.int .i64 0) := HR6.out.cell 0
                        have r1 : w6.cell? ⟨w.heap.size, 1, none⟩ = some (.int .i64 0) := HR6.out.cell 1
                        have r2 : w6.cell? ⟨w.heap.size, 2, none⟩ = some (.int .i64 0) := HR6.out.cell 2
                        have f0 := HR6.out.frozen 0
                        have f1 := HR6.out.frozen 1
                        have f2 := HR6.out.frozen 2
                        have hk3 := ((HR6.out.set_ 0 (.int .i64 (k : Nat))).set_ 1 (.int .i64 av)).set_ 2 (.int .i64 bv)
                        have q0 := hk3.cell 0
                        have q1 := hk3.cell 1
                        have q2 := hk3.cell 2
                        simp at q0 q1 q2
                        have HQ0 := Lib.hid q0
                        have HQ1 := Lib.hid q1
                        have HQ2 := Lib.hid q2
                        clear hk3 q0 q1 q2
                        go_wp2
                        refine bodyPost_ret (v := .tuple #[.agg #[.int .i64 k, .int .i64 av, .int .i64 bv], .bool true]) (by have q0 := HQ0.out; have q1 := HQ1.out; have q2 := HQ2.out; simp [results, Tryd.results48, go_sem, q0, q1, q2]) rfl ?_
                        exact ⟨by rw [HV.out]; rfl, ((T6.out.setCell (p := ⟨w.heap.size, 0, none⟩) (Nat.le_refl _) _).setCell (p := ⟨w.heap.size, 1, none⟩) (Nat.le_refl _) _).setCell (p := ⟨w.heap.size, 2, none⟩) (Nat.le_refl _) _⟩
                      · have HNX := Lib.hid (step_b HBB.out (x := ⟨k, av, bv⟩) rfl (fun h => he (by have := h.2; rw [HTE.out] at this; exact this)))
                        have hq : ((⟨(textT k l av bv).toArray⟩ : ByteArray).toList == s.toList) = false := by rw [HEQ.out]; simpa using he
                        obtain ⟨tb, htb⟩ : ∃ b : ByteArray, b = ⟨(textT k l av bv).toArray⟩ := ⟨_, rfl⟩
                        rw [← htb] at hq ⊢
                        clear he HEQ htb
                        go_wp2
                        go_roundw
                        case rel => exact ⟨bv + 1, by omega, by omega, rfl, HNX, HR6, T6⟩
                        case measure => simp [intOf]; omega
                  · have hwa : IntKind.i64.wrap (av + 1) = av + 1 := IntWalk.i64_in _ (by omega)
                    have HNX : Hid (∀ x, IsText l s.data.toList x → x.k = (k : Nat) → av + 1 ≤ x.a) := Lib.hid (fun x h1 h2 => by have g1 := HA.out x h1 h2; have g2 := HRG.out x h1 h2; by_cases hx : x.a = av; (have g3 := HBB.out x h1 h2 hx; omega); omega)
                    go_wp2
                    go_roundw
                    case rel => exact ⟨av + 1, by omega, by omega, rfl, HNX, HR3, T3⟩
                    case measure => simp [intOf]; omega
              · have HNX : Hid (∀ x, IsText l s.data.toList x → ((k + 1 : Nat) : Int) ≤ x.k) := Lib.hid (fun x h1 => by have g0 := HLO.out x h1; apply Classical.byContradiction; intro hq; have g1 := HA.out x h1 (by omega); have g2 := HRG.out x h1 (by omega); omega)
                go_wp2
                go_roundw
                case rel => exact ⟨k + 1, by omega, by omega, by go_num, HNX, HR2, T2⟩
                case measure => first | (simp [intOf]; done) | (simp [intOf]; omega)
        · have hq : ((s.extract 0 hd.size).toList == hd.toList) = false := by rw [HPR.out]; simpa using hp
          have HNX := Lib.hid (HNO.out hp)
          clear HPR hz hsz hle hp
          go_wp2
          go_roundw
          case rel => exact ⟨k + 1, by omega, by omega, by go_num, HNX, HR1, T1⟩
          case measure => simp [intOf]; omega
end Go.Proofs.YthbnliepgjjbdaaDoor
