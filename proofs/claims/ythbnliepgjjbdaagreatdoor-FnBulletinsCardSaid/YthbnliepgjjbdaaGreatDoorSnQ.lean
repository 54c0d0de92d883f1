/- Sentences: one read from a text, by the program (printed by wip/tools/mk_snq.py). -/
import Derived.Test.YthbnliepgjjbdaaGreatDoorSnNO
import Derived.Test.YthbnliepgjjbdaaGreatDoorSen2
namespace Go.Proofs.YthbnliepgjjbdaaGreatDoor
open Go.ChangeShapes Go.WideShapes Go.ChangeAt Go.RowKit
set_option linter.unusedVariables false
theorem isText_kind {k l : Nat} {t : List UInt8} {s : Sen} (h : IsText l t s) (hk : s.k = k) : numOk k s.a ∧ (k = 4 → numOk 4 s.b) ∧ (k ≠ 4 → s.b = 0) ∧ textT k l s.a s.b = t := by
  obtain ⟨kk, a, b⟩ := s
  obtain ⟨h1, h2⟩ := h
  unfold Sen.ok at h1
  unfold Sen.text at h2
  obtain ⟨kn, rfl, q1, q2, q3, q4, q5⟩ := okS_num h1
  simp only [Int.toNat_natCast] at h2 hk
  obtain rfl : kn = k := by omega
  exact ⟨q3, q4, q5, h2⟩
theorem isText_range {l : Nat} {t : List UInt8} {s : Sen} (h : IsText l t s) : 1 ≤ s.k ∧ s.k ≤ 7 := by
  obtain ⟨kk, a, b⟩ := s
  obtain ⟨kn, rfl, q1, q2, _⟩ := okS_num h.1
  exact ⟨by simp only; omega, by simp only; omega⟩
theorem round_no {k l : Nat} (hl : 1 ≤ l ∧ l ≤ 4) {t : List UInt8} (hlow : ∀ s, IsText l t s → (k : Int) ≤ s.k) (h : fitsT k l t = false) : ∀ s, IsText l t s → ((k + 1 : Nat) : Int) ≤ s.k := by
  intro s hs
  have h1 := hlow s hs
  apply Classical.byContradiction
  intro hq
  obtain ⟨q1, _, _, q4⟩ := isText_kind hs (k := k) (by omega)
  have := (text_apart hl (b := s.b) q1).1
  rw [q4, h] at this
  cases this
theorem round_x {k l : Nat} {n1 n2 : Int} (hl : 1 ≤ l ∧ l ≤ 4) {t : List UInt8} (h1 : ∀ m, numOk k m → wordA k l t = numT k l m → n1 = m) (h2 : k = 4 → ∀ m, numOk 4 m → wordBB 4 l t = numT 4 l m → n2 = m) (h3 : k ≠ 4 → n2 = 0) :
    ∀ s, IsText l t s → s.k = k → s = ⟨k, n1, n2⟩ := by
  intro s hs hk
  obtain ⟨q1, q2, q3, q4⟩ := isText_kind hs hk
  obtain ⟨_, g2, g3⟩ := text_apart hl (b := s.b) q1
  rw [q4] at g2 g3
  have e1 := h1 _ q1 g2
  have e2 : n2 = s.b := by
    by_cases h4 : k = 4
    · subst h4; exact h2 rfl _ (q2 rfl) (g3 rfl)
    · rw [h3 h4, q3 h4]
  obtain ⟨kk, a, b⟩ := s
  simp only at hk e1 e2
  rw [hk, e1, e2]
theorem round_ne {k l : Nat} {t : List UInt8} {x : Sen} (hlow : ∀ s, IsText l t s → (k : Int) ≤ s.k) (h : ¬ IsText l t x) (hx : ∀ s, IsText l t s → s.k = k → s = x) : ∀ s, IsText l t s → ((k + 1 : Nat) : Int) ≤ s.k := by
  intro s hs
  have h1 := hlow s hs
  apply Classical.byContradiction
  intro hq
  have := hx s hs (by omega)
  rw [this] at hs
  exact h hs
theorem cut_c (a b : List UInt8) (w : World) (he : Env w) (ha : a.length ≤ 2000000) :
    Calls Tryz.prog 44 #[.string ⟨a.toArray⟩, .string ⟨b.toArray⟩] w fun e w' => e = .returned (.tuple #[.string ⟨(Lib.cut a b).1.toArray⟩, .string ⟨(Lib.cut a b).2.1.toArray⟩, .bool (Lib.cut a b).2.2]) ∧ Below w.heap.size w w' := by
  obtain ⟨m, hm⟩ := he.m0
  refine (Tryz.strings_Cut ⟨a.toArray⟩ ⟨b.toArray⟩ m w (by show a.length < 4294967281; omega) hm).mono ?_
  rintro e w' ⟨rfl, n, rfl⟩
  exact ⟨rfl, below_drewN (Below.refl _ _) n⟩
theorem cutP_c (s : ByteArray) (p : List UInt8) (w : World) :
    Calls Tryz.prog 45 #[.string s, .string ⟨p.toArray⟩] w fun e w' => e = .returned (.tuple #[.string ⟨(Lib.trimPrefix s.data.toList p).toArray⟩, .bool (Lib.hasPrefix s.data.toList p)]) ∧ Below w.heap.size w w' :=
  (Tryz.strings_CutPrefix s ⟨p.toArray⟩ w).mono fun e w' ⟨h1, h2⟩ => ⟨h1, by rw [h2]; exact Below.refl _ _⟩
theorem cutS_c (s p : List UInt8) (w : World) (hs : s.length ≤ 2000000) :
    Calls Tryz.prog 46 #[.string ⟨s.toArray⟩, .string ⟨p.toArray⟩] w fun e w' => e = .returned (.tuple #[.string ⟨(Lib.trimSuffix s p).toArray⟩, .bool (Lib.hasSuffix s p)]) ∧ Below w.heap.size w w' :=
  (Tryz.strings_CutSuffix ⟨s.toArray⟩ ⟨p.toArray⟩ w (by show s.length ≤ 9223372036854775807; omega)).mono fun e w' ⟨h1, h2⟩ => ⟨h1, by rw [h2]; exact Below.refl _ _⟩
theorem iTextE_c (k l : Nat) (a b : Int) (hk : 1 ≤ k ∧ k ≤ 7) (hl : 1 ≤ l ∧ l ≤ 4) (ha : numOk k a) (hb : k = 4 → numOk 4 b) (w : World) (he : Env w) :
    Calls Tryz.prog 24 #[.agg #[.int .i64 k, .int .i64 a, .int .i64 b], .int .i64 l] w fun e w' => e = .returned (.string ⟨(textT k l a b).toArray⟩) ∧ Below w.heap.size w w' := by
  obtain ⟨m, hm⟩ := he.m0
  exact iText_c k l a b m hk hl ha hb w hm he.tab
set_option maxHeartbeats 4000000 in
set_option maxRecDepth 100000 in
theorem iReadS_c (l : Nat) (hl0 : 1 ≤ l ∧ l ≤ 4) (s : ByteArray) (hs : s.size ≤ 1048576) (w : World) (he : Env w) :
    Calls Tryz.prog 27 #[.string s, .int .i64 l] w fun e w' => e = .returned (.tuple #[(readV l s.data.toList).1.val, .bool (readV l s.data.toList).2]) ∧ Below w.heap.size w w' := by
  have hl := Lib.hid hl0
  have HEN := Lib.hid (fun W (hW : Below w.heap.size w W) => he.below hW)
  clear hl0 he
  go_enter Tryz.func27, Tryz.ntmps27
  go_wp2
  go_loopw [6] (fun iv wr => ∃ k : Nat, 1 ≤ k ∧ k ≤ 8 ∧ iv = .int .i64 k ∧ Hid (∀ x, IsText l s.data.toList x → (k : Int) ≤ x.k) ∧ Hid (Blk wr w.heap.size 38 #[.int .i64 0, .int .i64 0, .int .i64 0]) ∧ Hid (Below w.heap.size w wr)) (fun iv _ => 8 - (intOf iv).toNat)
  case atStart => exact ⟨1, by omega, by omega, rfl, Lib.hid (fun x hx => (isText_range hx).1), Lib.hid (Blk.new _ _ _), Lib.hid ((Below.refl _ _).alloc (Nat.le_refl _) _)⟩
  case round =>
    obtain ⟨k, hk1, hk8, rfl, HLO, HR, HB⟩ := hrel
    by_cases hlt : k = 8
    · subst hlt
      have HV := Lib.hid (readV_none (l := l) (t := s.data.toList) (fun x hx => by have h1 := HLO.out x hx; have h2 := (isText_range hx).2; omega))
      have r0 : wr.cell? ⟨w.heap.size, 0, none⟩ = some (.int .i64 0) := HR.out.cell 0
      have r1 : wr.cell? ⟨w.heap.size, 1, none⟩ = some (.int .i64 0) := HR.out.cell 1
      have r2 : wr.cell? ⟨w.heap.size, 2, none⟩ = some (.int .i64 0) := HR.out.cell 2
      have f0 := HR.out.frozen 0
      have f1 := HR.out.frozen 1
      have f2 := HR.out.frozen 2
      have hk3 := ((HR.out.set_ 0 (.int .i64 0)).set_ 1 (.int .i64 0)).set_ 2 (.int .i64 0)
      have q0 := hk3.cell 0
      have q1 := hk3.cell 1
      have q2 := hk3.cell 2
      simp at q0 q1 q2
      have HQ0 := Lib.hid q0
      have HQ1 := Lib.hid q1
      have HQ2 := Lib.hid q2
      clear hk3 q0 q1 q2
      go_wp2
      refine bodyPost_ret (v := .tuple #[.agg #[.int .i64 0, .int .i64 0, .int .i64 0], .bool false]) (by have q0 := HQ0.out; have q1 := HQ1.out; have q2 := HQ2.out; simp [results, Tryz.results27, go_sem, q0, q1, q2]) rfl ?_
      exact ⟨by rw [HV.out]; rfl, ((HB.out.setCell (p := ⟨w.heap.size, 0, none⟩) (Nat.le_refl _) _).setCell (p := ⟨w.heap.size, 1, none⟩) (Nat.le_refl _) _).setCell (p := ⟨w.heap.size, 2, none⟩) (Nat.le_refl _) _⟩
    · by_cases hk4 : k = 4
      · subst hk4
        have hkk : 1 ≤ 4 ∧ 4 ≤ 7 := by omega
        have hkn : (((4 : Nat) : Int) : Int) ≤ 7 := by omega
        have hrp : (restT 4 l).length ≤ 1000 ∧ (patT 4 l).length ≤ 1000 := by have h1 := (pat_facts hkk hl.out).1; have h2 := patT_rest 4 l; have h3 := congrArg List.length h2; simp only [List.length_append] at h3; omega
        have HC1 := Lib.hid (fun W hW => cut_c (patT 4 l) [60, 65, 62] W hW (by omega))
        rw [cut_pat hkk hl.out] at HC1
        have HC2 := Lib.hid (fun W hW => cut_c (restT 4 l) [60, 66, 62] W hW (by omega))
        rw [cut_rest hkk hl.out, if_pos rfl] at HC2
        simp only at HC1 HC2
        have HSP := Lib.hid (fun W => sentencePattern_c 4 l hkk hl.out W)
        have HCP := Lib.hid (fun W => cutP_c s (partT 4 l).1 W)
        have HCS := Lib.hid (fun W => cutS_c (Lib.trimPrefix s.data.toList (partT 4 l).1) (endT 4 l) W (by have h1 := trimP_len s.data.toList (partT 4 l).1; have h2 := size_l s; omega))
        have hwl := word_len 4 l s.data.toList
        have hil := inner_len 4 l s.data.toList
        have hsl := size_l s
        have HC3 := Lib.hid (fun W hW => cut_c (innerT 4 l s.data.toList) (betT 4 l) W hW (by omega))
        have HFT := Lib.hid (show fitsT 4 l s.data.toList = (Lib.hasPrefix s.data.toList (partT 4 l).1 && Lib.hasSuffix (Lib.trimPrefix s.data.toList (partT 4 l).1) (endT 4 l)) from rfl)
        have HIT : Lib.trimSuffix (Lib.trimPrefix s.data.toList (partT 4 l).1) (endT 4 l) = innerT 4 l s.data.toList := rfl
        rw [HIT] at HCS
        have HNA := Lib.hid (fun W hW => iNumberOfWord_c 4 l hkk hl.out ⟨(wordA 4 l s.data.toList).toArray⟩ (by show (wordA 4 l s.data.toList).length ≤ 1048576; omega) W hW)
        have HNB := Lib.hid (fun W hW => iNumberOfWord_c 4 l hkk hl.out ⟨(wordBB 4 l s.data.toList).toArray⟩ (by show (wordBB 4 l s.data.toList).length ≤ 1048576; omega) W hW)
        have hwa : (Lib.cut (innerT 4 l s.data.toList) (betT 4 l)).1 = wordA 4 l s.data.toList := by unfold wordA; rw [if_pos rfl]
        have hwb : (Lib.cut (innerT 4 l s.data.toList) (betT 4 l)).2.1 = wordBB 4 l s.data.toList := rfl
        rw [hwa, hwb] at HC3
        have HRX := Lib.hid (fun n1 n2 h1 h2 h3 => round_x (k := 4) (n1 := n1) (n2 := n2) hl.out (t := s.data.toList) h1 h2 h3)
        have HRN := Lib.hid (fun h => round_no (k := 4) hl.out (t := s.data.toList) HLO.out h)
        have HRY := Lib.hid (fun x h => round_ne (k := 4) (t := s.data.toList) (x := x) HLO.out h)
        generalize (partT 4 l).1 = beg at *
        generalize endT 4 l = en at *
        generalize betT 4 l = bt at *
        generalize wordBB 4 l s.data.toList = wb at *
        generalize innerT 4 l s.data.toList = inn at *
        generalize wordA 4 l s.data.toList = wa at *
        clear hrp hwl hil hsl HIT hwa hwb
        go_wp2_with fail
        refine (HSP.out _).mono ?_
        rintro e w1 ⟨rfl, B⟩
        have T1 := Lib.hid (HB.out.trans (B.mono HB.out.size))
        have HRw1 := Lib.hid (HR.out.below B HR.out.lt)
        clear B
        go_wp2_with fail
        refine (HC1.out _ (HEN.out _ T1.out)).mono ?_
        rintro e w2 ⟨rfl, B⟩
        have T2 := Lib.hid (T1.out.trans (B.mono T1.out.size))
        have HRw2 := Lib.hid (HRw1.out.below B HRw1.out.lt)
        clear B
        go_wp2_with fail
        refine (HC2.out _ (HEN.out _ T2.out)).mono ?_
        rintro e w3 ⟨rfl, B⟩
        have T3 := Lib.hid (T2.out.trans (B.mono T2.out.size))
        have HRw3 := Lib.hid (HRw2.out.below B HRw2.out.lt)
        clear B
        go_wp2_with fail
        refine (HCP.out _).mono ?_
        rintro e w4 ⟨rfl, B⟩
        have T4 := Lib.hid (T3.out.trans (B.mono T3.out.size))
        have HRw4 := Lib.hid (HRw3.out.below B HRw3.out.lt)
        clear B
        go_wp2_with fail
        refine (HCS.out _).mono ?_
        rintro e w5 ⟨rfl, B⟩
        have T5 := Lib.hid (T4.out.trans (B.mono T4.out.size))
        have HRw5 := Lib.hid (HRw4.out.below B HRw4.out.lt)
        clear B
        clear HSP HC1 HC2 HCP HCS T1 T2 T3 T4 HRw1 HRw2 HRw3 HRw4
        generalize Lib.hasPrefix s.data.toList beg = one at *
        generalize Lib.hasSuffix (Lib.trimPrefix s.data.toList beg) en = two at *
        cases one
        · rw [Bool.false_and] at HFT
          have HNX := Lib.hid (HRN.out HFT.out)
          clear HRX HRY HNA HC3 HFT HNB
          go_wp2
          go_roundw
          case rel => exact ⟨4 + 1, by omega, by omega, by go_num, HNX, HRw5, T5⟩
          case measure => first | (simp [intOf]; done) | (simp [intOf]; omega)
        · cases two
          · rw [Bool.and_false] at HFT
            have HNX := Lib.hid (HRN.out HFT.out)
            clear HRX HRY HNA HC3 HFT HNB
            go_wp2
            go_roundw
            case rel => exact ⟨4 + 1, by omega, by omega, by go_num, HNX, HRw5, T5⟩
            case measure => first | (simp [intOf]; done) | (simp [intOf]; omega)
          · clear HFT HRN
            have hw5 := T5.out.size
            have T6 : Hid (Below w.heap.size w (w5.alloc (.cells #[.int .i64 4, .int .i64 0, .int .i64 0] 38))) := Lib.hid (T5.out.alloc hw5 _)
            have HX6 := Lib.hid (Blk.new w5 38 #[.int .i64 4, .int .i64 0, .int .i64 0])
            have HR6 := Lib.hid (HRw5.out.alloc (.cells #[.int .i64 4, .int .i64 0, .int .i64 0] 38))
            have hxs := HRw5.out.lt
            go_upto_region 12 with (fail)
            obtain ⟨w6, hw6⟩ : ∃ W, W = w5.alloc (.cells #[.int .i64 4, .int .i64 0, .int .i64 0] 38) := ⟨_, rfl⟩
            have hs6 : w6.heap.size = w5.heap.size + 1 := by rw [hw6]; simp
            rw [← hw6] at T6 HX6 HR6
            rw [← hw6]
            clear hw6
            go_wp2_with fail
            refine (HC3.out _ (HEN.out _ T6.out)).mono ?_
            rintro e w7 ⟨rfl, B⟩
            have T7 := Lib.hid (T6.out.trans (B.mono T6.out.size))
            have HX7 := Lib.hid (HX6.out.below B HX6.out.lt)
            have HR7 := Lib.hid (HR6.out.below B HR6.out.lt)
            have hs7 := B.size
            clear B HX6 HR6 T6
            go_wp2_with fail
            refine (HNA.out _ (HEN.out _ T7.out)).mono ?_
            rintro e w8 ⟨n1, rfl, hn1, B⟩
            have HN1 := Lib.hid hn1
            have T8 := Lib.hid (T7.out.trans (B.mono T7.out.size))
            have HX8 := Lib.hid (HX7.out.below B HX7.out.lt)
            have HR8 := Lib.hid (HR7.out.below B HR7.out.lt)
            have hs8 := B.size
            clear B HX7 HR7 T7 hn1
            have x1 : w8.cell? ⟨w5.heap.size, 1, none⟩ = some (.int .i64 0) := HX8.out.cell 1
            have xf1 : w8.frozen? ⟨w5.heap.size, 1, none⟩ = false := HX8.out.frozen 1
            have HX9 := Lib.hid (HX8.out.set_ 1 (.int .i64 n1))
            have T9 := Lib.hid (T8.out.setCell (p := ⟨w5.heap.size, 1, none⟩) hw5 (.int .i64 n1))
            have HR9 := Lib.hid (HR8.out.far (p := ⟨w5.heap.size, 1, none⟩) (show w.heap.size ≠ w5.heap.size by omega) (.int .i64 n1))
            go_upto_region 17 with (fail)
            obtain ⟨w9, hw9⟩ : ∃ W, W = w8.setCell ⟨w5.heap.size, 1, none⟩ (.int .i64 n1) := ⟨_, rfl⟩
            rw [← hw9] at HX9 T9 HR9
            rw [← hw9]
            have hs9 : w9.heap.size = w8.heap.size := by rw [hw9]; simp [World.setCell]
            clear x1 xf1 hw9
            go_wp2_with fail
            refine (HNB.out _ (HEN.out _ T9.out)).mono ?_
            rintro e w10 ⟨n2, rfl, hn2, B⟩
            have HN2 := Lib.hid hn2
            have T10 := Lib.hid (T9.out.trans (B.mono T9.out.size))
            have HX10 := Lib.hid (HX9.out.below B HX9.out.lt)
            have HR10 := Lib.hid (HR9.out.below B HR9.out.lt)
            have hs10 := B.size
            clear B HX9 HR9 T9 hn2
            have x2 : w10.cell? ⟨w5.heap.size, 2, none⟩ = some (.int .i64 0) := HX10.out.cell 2
            have xf2 : w10.frozen? ⟨w5.heap.size, 2, none⟩ = false := HX10.out.frozen 2
            have HX11 := Lib.hid (HX10.out.set_ 2 (.int .i64 n2))
            have T11 := Lib.hid (T10.out.setCell (p := ⟨w5.heap.size, 2, none⟩) hw5 (.int .i64 n2))
            have HR11 := Lib.hid (HR10.out.far (p := ⟨w5.heap.size, 2, none⟩) (show w.heap.size ≠ w5.heap.size by omega) (.int .i64 n2))
            go_upto_region 18 with (fail)
            obtain ⟨wv, hwv⟩ : ∃ W, W = w10.setCell ⟨w5.heap.size, 2, none⟩ (.int .i64 n2) := ⟨_, rfl⟩
            rw [← hwv] at HX11 T11 HR11
            rw [← hwv]
            have hsv : wv.heap.size = w10.heap.size := by rw [hwv]; simp [World.setCell]
            clear x2 xf2 hwv
            have HXV : Hid (Blk wv w5.heap.size 38 #[.int .i64 4, .int .i64 n1, .int .i64 n2]) := HX11
            have TV := T11
            have HRV := HR11
            have HEX := Lib.hid (HRX.out n1 n2 (fun m g1 g2 => HN1.out m g1 (by rw [g2]; rfl)) (fun _ m g1 g2 => HN2.out m g1 (by rw [g2]; rfl)) (fun q => absurd rfl q))
            have hvs : w5.heap.size < wv.heap.size := by omega
            clear HRX
            have c0 : wv.cell? ⟨w5.heap.size, 0, none⟩ = some (.int .i64 4) := HXV.out.cell 0
            have c1 : wv.cell? ⟨w5.heap.size, 1, none⟩ = some (.int .i64 n1) := HXV.out.cell 1
            have c2 : wv.cell? ⟨w5.heap.size, 2, none⟩ = some (.int .i64 n2) := HXV.out.cell 2
            have HVS := Lib.hid (fun W => iValidSentence_c 4 n1 n2 W)
            have HOK := Lib.hid (show (⟨4, n1, n2⟩ : Sen).ok = okS 4 n1 n2 from rfl)
            cases ho : okS 4 n1 n2
            · rw [ho] at HVS HOK
              have HNX := Lib.hid (HRY.out ⟨4, n1, n2⟩ (fun h => by have := h.1; rw [HOK.out] at this; cases this) HEX.out)
              clear ho HRY HEX
              go_wp2_with fail
              refine (HVS.out _).mono ?_
              rintro e w12 ⟨rfl, B⟩
              have TZ := Lib.hid (TV.out.trans (B.mono TV.out.size))
              have HRZ := Lib.hid (HRV.out.below B HRV.out.lt)
              clear B c0 c1 c2
              go_wp2
              go_roundw
              case rel => exact ⟨4 + 1, by omega, by omega, by go_num, HNX, HRZ, TZ⟩
              case measure => first | (simp [intOf]; done) | (simp [intOf]; omega)
            · rw [ho] at HVS HOK
              obtain ⟨kn, hkq, q1, q7, ha, hb, hzz⟩ := okS_num ho
              clear hzz
              obtain rfl : kn = 4 := by omega
              have HTX := Lib.hid (fun W hW => iTextE_c 4 l n1 n2 ⟨q1, q7⟩ hl.out ha hb W hW)
              have HTE := Lib.hid (show (⟨4, n1, n2⟩ : Sen).text l = textT 4 l n1 n2 from rfl)
              have HEQ := Lib.hid (eqL (textT 4 l n1 n2) s.data.toList)
              have hmk : (⟨s.data.toList.toArray⟩ : ByteArray) = s := by cases s; rfl
              rw [hmk] at HEQ
              clear hmk ho hkq q1 q7 ha hb
              go_wp2_with fail
              refine (HVS.out _).mono ?_
              rintro e w12 ⟨rfl, B⟩
              have T12 := Lib.hid (TV.out.trans (B.mono TV.out.size))
              have HR12 := Lib.hid (HRV.out.below B HRV.out.lt)
              have HX12 := Lib.hid (HXV.out.below B HXV.out.lt)
              clear B c0 c1 c2 HVS
              have c0 : w12.cell? ⟨w5.heap.size, 0, none⟩ = some (.int .i64 4) := HX12.out.cell 0
              have c1 : w12.cell? ⟨w5.heap.size, 1, none⟩ = some (.int .i64 n1) := HX12.out.cell 1
              have c2 : w12.cell? ⟨w5.heap.size, 2, none⟩ = some (.int .i64 n2) := HX12.out.cell 2
              go_wp2_with fail
              refine (HTX.out _ (HEN.out _ T12.out)).mono ?_
              rintro e w13 ⟨rfl, B⟩
              have T13 := Lib.hid (T12.out.trans (B.mono T12.out.size))
              have HR13 := Lib.hid (HR12.out.below B HR12.out.lt)
              have HX13 := Lib.hid (HX12.out.below B HX12.out.lt)
              clear B c0 c1 c2 HTX
              have c0 : w13.cell? ⟨w5.heap.size, 0, none⟩ = some (.int .i64 4) := HX13.out.cell 0
              have c1 : w13.cell? ⟨w5.heap.size, 1, none⟩ = some (.int .i64 n1) := HX13.out.cell 1
              have c2 : w13.cell? ⟨w5.heap.size, 2, none⟩ = some (.int .i64 n2) := HX13.out.cell 2
              by_cases he : textT 4 l n1 n2 = s.data.toList
              · have HV := Lib.hid (readV_some (t := s.data.toList) hl.out (s := ⟨4, n1, n2⟩) ⟨HOK.out, by rw [HTE.out]; exact he⟩)
                have hq : ((⟨(textT 4 l n1 n2).toArray⟩ : ByteArray).toList == s.toList) = true := by rw [HEQ.out]; simpa using he
                obtain ⟨tb, htb⟩ : ∃ b : ByteArray, b = ⟨(textT 4 l n1 n2).toArray⟩ := ⟨_, rfl⟩
                rw [← htb] at hq ⊢
                clear he HEQ htb HRY HEX
                have r0 : w13.cell? ⟨w.heap.size, 0, none⟩ = some (.int .i64 0) := HR13.out.cell 0
                have r1 : w13.cell? ⟨w.heap.size, 1, none⟩ = some (.int .i64 0) := HR13.out.cell 1
                have r2 : w13.cell? ⟨w.heap.size, 2, none⟩ = some (.int .i64 0) := HR13.out.cell 2
                have f0 := HR13.out.frozen 0
                have f1 := HR13.out.frozen 1
                have f2 := HR13.out.frozen 2
                have hk3 := ((HR13.out.set_ 0 (.int .i64 (4 : Nat))).set_ 1 (.int .i64 n1)).set_ 2 (.int .i64 n2)
                have q0 := hk3.cell 0
                have q1 := hk3.cell 1
                have q2 := hk3.cell 2
                simp at q0 q1 q2
                have HQ0 := Lib.hid q0
                have HQ1 := Lib.hid q1
                have HQ2 := Lib.hid q2
                clear hk3 q0 q1 q2
                go_wp2
                refine bodyPost_ret (v := .tuple #[.agg #[.int .i64 4, .int .i64 n1, .int .i64 n2], .bool true]) (by have q0 := HQ0.out; have q1 := HQ1.out; have q2 := HQ2.out; simp [results, Tryz.results27, go_sem, q0, q1, q2]) rfl ?_
                exact ⟨by rw [HV.out]; rfl, ((T13.out.setCell (p := ⟨w.heap.size, 0, none⟩) (Nat.le_refl _) _).setCell (p := ⟨w.heap.size, 1, none⟩) (Nat.le_refl _) _).setCell (p := ⟨w.heap.size, 2, none⟩) (Nat.le_refl _) _⟩
              · have HNX := Lib.hid (HRY.out ⟨4, n1, n2⟩ (fun h => he (by have := h.2; rw [HTE.out] at this; exact this)) HEX.out)
                have hq : ((⟨(textT 4 l n1 n2).toArray⟩ : ByteArray).toList == s.toList) = false := by rw [HEQ.out]; simpa using he
                obtain ⟨tb, htb⟩ : ∃ b : ByteArray, b = ⟨(textT 4 l n1 n2).toArray⟩ := ⟨_, rfl⟩
                rw [← htb] at hq ⊢
                clear he HEQ htb HRY HEX
                go_wp2
                go_roundw
                case rel => exact ⟨4 + 1, by omega, by omega, by go_num, HNX, HR13, T13⟩
                case measure => first | (simp [intOf]; done) | (simp [intOf]; omega)
      · have hkk : 1 ≤ k ∧ k ≤ 7 := by omega
        have hkn : ((k : Int) : Int) ≤ 7 := by omega
        have hrp : (restT k l).length ≤ 1000 ∧ (patT k l).length ≤ 1000 := by have h1 := (pat_facts hkk hl.out).1; have h2 := patT_rest k l; have h3 := congrArg List.length h2; simp only [List.length_append] at h3; omega
        have HC1 := Lib.hid (fun W hW => cut_c (patT k l) [60, 65, 62] W hW (by omega))
        rw [cut_pat hkk hl.out] at HC1
        have HC2 := Lib.hid (fun W hW => cut_c (restT k l) [60, 66, 62] W hW (by omega))
        rw [cut_rest hkk hl.out, if_neg hk4] at HC2
        simp only at HC1 HC2
        have HSP := Lib.hid (fun W => sentencePattern_c k l hkk hl.out W)
        rw [endT_rest hk4] at HC1 HC2
        have HCP := Lib.hid (fun W => cutP_c s (partT k l).1 W)
        have HCS := Lib.hid (fun W => cutS_c (Lib.trimPrefix s.data.toList (partT k l).1) (endT k l) W (by have h1 := trimP_len s.data.toList (partT k l).1; have h2 := size_l s; omega))
        have hwl := word_len k l s.data.toList
        have hil := inner_len k l s.data.toList
        have hsl := size_l s
        have HC3 := Lib.hid (fun W hW => cut_c (innerT k l s.data.toList) [] W hW (by omega))
        have HFT := Lib.hid (show fitsT k l s.data.toList = (Lib.hasPrefix s.data.toList (partT k l).1 && Lib.hasSuffix (Lib.trimPrefix s.data.toList (partT k l).1) (endT k l)) from rfl)
        have HIT : Lib.trimSuffix (Lib.trimPrefix s.data.toList (partT k l).1) (endT k l) = innerT k l s.data.toList := rfl
        rw [HIT] at HCS
        have HNA := Lib.hid (fun W hW => iNumberOfWord_c k l hkk hl.out ⟨(wordA k l s.data.toList).toArray⟩ (by show (wordA k l s.data.toList).length ≤ 1048576; omega) W hW)
        have hwa : innerT k l s.data.toList = wordA k l s.data.toList := by unfold wordA; rw [if_neg hk4]
        rw [hwa] at HCS HC3
        have HRX := Lib.hid (fun n1 n2 h1 h2 h3 => round_x (k := k) (n1 := n1) (n2 := n2) hl.out (t := s.data.toList) h1 h2 h3)
        have HRN := Lib.hid (fun h => round_no (k := k) hl.out (t := s.data.toList) HLO.out h)
        have HRY := Lib.hid (fun x h => round_ne (k := k) (t := s.data.toList) (x := x) HLO.out h)
        generalize (partT k l).1 = beg at *
        generalize endT k l = en at *
        generalize wordA k l s.data.toList = wa at *
        clear hrp hwl hil hsl HIT hwa
        go_wp2_with fail
        refine (HSP.out _).mono ?_
        rintro e w1 ⟨rfl, B⟩
        have T1 := Lib.hid (HB.out.trans (B.mono HB.out.size))
        have HRw1 := Lib.hid (HR.out.below B HR.out.lt)
        clear B
        go_wp2_with fail
        refine (HC1.out _ (HEN.out _ T1.out)).mono ?_
        rintro e w2 ⟨rfl, B⟩
        have T2 := Lib.hid (T1.out.trans (B.mono T1.out.size))
        have HRw2 := Lib.hid (HRw1.out.below B HRw1.out.lt)
        clear B
        go_wp2_with fail
        refine (HC2.out _ (HEN.out _ T2.out)).mono ?_
        rintro e w3 ⟨rfl, B⟩
        have T3 := Lib.hid (T2.out.trans (B.mono T2.out.size))
        have HRw3 := Lib.hid (HRw2.out.below B HRw2.out.lt)
        clear B
        go_wp2_with fail
        refine (HCP.out _).mono ?_
        rintro e w4 ⟨rfl, B⟩
        have T4 := Lib.hid (T3.out.trans (B.mono T3.out.size))
        have HRw4 := Lib.hid (HRw3.out.below B HRw3.out.lt)
        clear B
        go_wp2_with fail
        refine (HCS.out _).mono ?_
        rintro e w5 ⟨rfl, B⟩
        have T5 := Lib.hid (T4.out.trans (B.mono T4.out.size))
        have HRw5 := Lib.hid (HRw4.out.below B HRw4.out.lt)
        clear B
        clear HSP HC1 HC2 HCP HCS T1 T2 T3 T4 HRw1 HRw2 HRw3 HRw4
        generalize Lib.hasPrefix s.data.toList beg = one at *
        generalize Lib.hasSuffix (Lib.trimPrefix s.data.toList beg) en = two at *
        cases one
        · rw [Bool.false_and] at HFT
          have HNX := Lib.hid (HRN.out HFT.out)
          clear HRX HRY HNA HC3 HFT
          go_wp2
          go_roundw
          case rel => exact ⟨k + 1, by omega, by omega, by go_num, HNX, HRw5, T5⟩
          case measure => first | (simp [intOf]; done) | (simp [intOf]; omega)
        · cases two
          · rw [Bool.and_false] at HFT
            have HNX := Lib.hid (HRN.out HFT.out)
            clear HRX HRY HNA HC3 HFT
            go_wp2
            go_roundw
            case rel => exact ⟨k + 1, by omega, by omega, by go_num, HNX, HRw5, T5⟩
            case measure => first | (simp [intOf]; done) | (simp [intOf]; omega)
          · clear HFT HRN
            have hw5 := T5.out.size
            have T6 : Hid (Below w.heap.size w (w5.alloc (.cells #[.int .i64 k, .int .i64 0, .int .i64 0] 38))) := Lib.hid (T5.out.alloc hw5 _)
            have HX6 := Lib.hid (Blk.new w5 38 #[.int .i64 k, .int .i64 0, .int .i64 0])
            have HR6 := Lib.hid (HRw5.out.alloc (.cells #[.int .i64 k, .int .i64 0, .int .i64 0] 38))
            have hxs := HRw5.out.lt
            go_upto_region 12 with (fail)
            obtain ⟨w6, hw6⟩ : ∃ W, W = w5.alloc (.cells #[.int .i64 k, .int .i64 0, .int .i64 0] 38) := ⟨_, rfl⟩
            have hs6 : w6.heap.size = w5.heap.size + 1 := by rw [hw6]; simp
            rw [← hw6] at T6 HX6 HR6
            rw [← hw6]
            clear hw6
            go_wp2_with fail
            refine (HC3.out _ (HEN.out _ T6.out)).mono ?_
            rintro e w7 ⟨rfl, B⟩
            have T7 := Lib.hid (T6.out.trans (B.mono T6.out.size))
            have HX7 := Lib.hid (HX6.out.below B HX6.out.lt)
            have HR7 := Lib.hid (HR6.out.below B HR6.out.lt)
            have hs7 := B.size
            clear B HX6 HR6 T6
            go_wp2_with fail
            refine (HNA.out _ (HEN.out _ T7.out)).mono ?_
            rintro e w8 ⟨n1, rfl, hn1, B⟩
            have HN1 := Lib.hid hn1
            have T8 := Lib.hid (T7.out.trans (B.mono T7.out.size))
            have HX8 := Lib.hid (HX7.out.below B HX7.out.lt)
            have HR8 := Lib.hid (HR7.out.below B HR7.out.lt)
            have hs8 := B.size
            clear B HX7 HR7 T7 hn1
            have x1 : w8.cell? ⟨w5.heap.size, 1, none⟩ = some (.int .i64 0) := HX8.out.cell 1
            have xf1 : w8.frozen? ⟨w5.heap.size, 1, none⟩ = false := HX8.out.frozen 1
            have HX9 := Lib.hid (HX8.out.set_ 1 (.int .i64 n1))
            have T9 := Lib.hid (T8.out.setCell (p := ⟨w5.heap.size, 1, none⟩) hw5 (.int .i64 n1))
            have HR9 := Lib.hid (HR8.out.far (p := ⟨w5.heap.size, 1, none⟩) (show w.heap.size ≠ w5.heap.size by omega) (.int .i64 n1))
            go_upto_region 18 with (fail)
            obtain ⟨wv, hwv⟩ : ∃ W, W = w8.setCell ⟨w5.heap.size, 1, none⟩ (.int .i64 n1) := ⟨_, rfl⟩
            rw [← hwv] at HX9 T9 HR9
            rw [← hwv]
            have hsv : wv.heap.size = w8.heap.size := by rw [hwv]; simp [World.setCell]
            clear x1 xf1 hwv
            have HXV : Hid (Blk wv w5.heap.size 38 #[.int .i64 k, .int .i64 n1, .int .i64 0]) := HX9
            have TV := T9
            have HRV := HR9
            obtain ⟨n2, hn2⟩ : ∃ z : Int, z = 0 := ⟨0, rfl⟩
            have HEX := Lib.hid (HRX.out n1 n2 (fun m g1 g2 => HN1.out m g1 (by rw [g2]; rfl)) (fun q => absurd q hk4) (fun _ => hn2))
            have hvs : w5.heap.size < wv.heap.size := by omega
            rw [← hn2] at HXV
            clear hn2
            clear HRX
            have c0 : wv.cell? ⟨w5.heap.size, 0, none⟩ = some (.int .i64 k) := HXV.out.cell 0
            have c1 : wv.cell? ⟨w5.heap.size, 1, none⟩ = some (.int .i64 n1) := HXV.out.cell 1
            have c2 : wv.cell? ⟨w5.heap.size, 2, none⟩ = some (.int .i64 n2) := HXV.out.cell 2
            have HVS := Lib.hid (fun W => iValidSentence_c k n1 n2 W)
            have HOK := Lib.hid (show (⟨k, n1, n2⟩ : Sen).ok = okS k n1 n2 from rfl)
            cases ho : okS k n1 n2
            · rw [ho] at HVS HOK
              have HNX := Lib.hid (HRY.out ⟨k, n1, n2⟩ (fun h => by have := h.1; rw [HOK.out] at this; cases this) HEX.out)
              clear ho HRY HEX
              go_wp2_with fail
              refine (HVS.out _).mono ?_
              rintro e w12 ⟨rfl, B⟩
              have TZ := Lib.hid (TV.out.trans (B.mono TV.out.size))
              have HRZ := Lib.hid (HRV.out.below B HRV.out.lt)
              clear B c0 c1 c2
              go_wp2
              go_roundw
              case rel => exact ⟨k + 1, by omega, by omega, by go_num, HNX, HRZ, TZ⟩
              case measure => first | (simp [intOf]; done) | (simp [intOf]; omega)
            · rw [ho] at HVS HOK
              obtain ⟨kn, hkq, q1, q7, ha, hb, hzz⟩ := okS_num ho
              clear hzz
              obtain rfl : k = kn := by omega
              have HTX := Lib.hid (fun W hW => iTextE_c k l n1 n2 ⟨q1, q7⟩ hl.out ha hb W hW)
              have HTE := Lib.hid (show (⟨k, n1, n2⟩ : Sen).text l = textT k l n1 n2 from rfl)
              have HEQ := Lib.hid (eqL (textT k l n1 n2) s.data.toList)
              have hmk : (⟨s.data.toList.toArray⟩ : ByteArray) = s := by cases s; rfl
              rw [hmk] at HEQ
              clear hmk ho hkq q1 q7 ha hb
              go_wp2_with fail
              refine (HVS.out _).mono ?_
              rintro e w12 ⟨rfl, B⟩
              have T12 := Lib.hid (TV.out.trans (B.mono TV.out.size))
              have HR12 := Lib.hid (HRV.out.below B HRV.out.lt)
              have HX12 := Lib.hid (HXV.out.below B HXV.out.lt)
              clear B c0 c1 c2 HVS
              have c0 : w12.cell? ⟨w5.heap.size, 0, none⟩ = some (.int .i64 k) := HX12.out.cell 0
              have c1 : w12.cell? ⟨w5.heap.size, 1, none⟩ = some (.int .i64 n1) := HX12.out.cell 1
              have c2 : w12.cell? ⟨w5.heap.size, 2, none⟩ = some (.int .i64 n2) := HX12.out.cell 2
              go_wp2_with fail
              refine (HTX.out _ (HEN.out _ T12.out)).mono ?_
              rintro e w13 ⟨rfl, B⟩
              have T13 := Lib.hid (T12.out.trans (B.mono T12.out.size))
              have HR13 := Lib.hid (HR12.out.below B HR12.out.lt)
              have HX13 := Lib.hid (HX12.out.below B HX12.out.lt)
              clear B c0 c1 c2 HTX
              have c0 : w13.cell? ⟨w5.heap.size, 0, none⟩ = some (.int .i64 k) := HX13.out.cell 0
              have c1 : w13.cell? ⟨w5.heap.size, 1, none⟩ = some (.int .i64 n1) := HX13.out.cell 1
              have c2 : w13.cell? ⟨w5.heap.size, 2, none⟩ = some (.int .i64 n2) := HX13.out.cell 2
              by_cases he : textT k l n1 n2 = s.data.toList
              · have HV := Lib.hid (readV_some (t := s.data.toList) hl.out (s := ⟨k, n1, n2⟩) ⟨HOK.out, by rw [HTE.out]; exact he⟩)
                have hq : ((⟨(textT k l n1 n2).toArray⟩ : ByteArray).toList == s.toList) = true := by rw [HEQ.out]; simpa using he
                obtain ⟨tb, htb⟩ : ∃ b : ByteArray, b = ⟨(textT k l n1 n2).toArray⟩ := ⟨_, rfl⟩
                rw [← htb] at hq ⊢
                clear he HEQ htb HRY HEX
                have r0 : w13.cell? ⟨w.heap.size, 0, none⟩ = some (.int .i64 0) := HR13.out.cell 0
                have r1 : w13.cell? ⟨w.heap.size, 1, none⟩ = some (.int .i64 0) := HR13.out.cell 1
                have r2 : w13.cell? ⟨w.heap.size, 2, none⟩ = some (.int .i64 0) := HR13.out.cell 2
                have f0 := HR13.out.frozen 0
                have f1 := HR13.out.frozen 1
                have f2 := HR13.out.frozen 2
                have hk3 := ((HR13.out.set_ 0 (.int .i64 (k : Nat))).set_ 1 (.int .i64 n1)).set_ 2 (.int .i64 n2)
                have q0 := hk3.cell 0
                have q1 := hk3.cell 1
                have q2 := hk3.cell 2
                simp at q0 q1 q2
                have HQ0 := Lib.hid q0
                have HQ1 := Lib.hid q1
                have HQ2 := Lib.hid q2
                clear hk3 q0 q1 q2
                go_wp2
                refine bodyPost_ret (v := .tuple #[.agg #[.int .i64 k, .int .i64 n1, .int .i64 n2], .bool true]) (by have q0 := HQ0.out; have q1 := HQ1.out; have q2 := HQ2.out; simp [results, Tryz.results27, go_sem, q0, q1, q2]) rfl ?_
                exact ⟨by rw [HV.out]; rfl, ((T13.out.setCell (p := ⟨w.heap.size, 0, none⟩) (Nat.le_refl _) _).setCell (p := ⟨w.heap.size, 1, none⟩) (Nat.le_refl _) _).setCell (p := ⟨w.heap.size, 2, none⟩) (Nat.le_refl _) _⟩
              · have HNX := Lib.hid (HRY.out ⟨k, n1, n2⟩ (fun h => he (by have := h.2; rw [HTE.out] at this; exact this)) HEX.out)
                have hq : ((⟨(textT k l n1 n2).toArray⟩ : ByteArray).toList == s.toList) = false := by rw [HEQ.out]; simpa using he
                obtain ⟨tb, htb⟩ : ∃ b : ByteArray, b = ⟨(textT k l n1 n2).toArray⟩ := ⟨_, rfl⟩
                rw [← htb] at hq ⊢
                clear he HEQ htb HRY HEX
                go_wp2
                go_roundw
                case rel => exact ⟨k + 1, by omega, by omega, by go_num, HNX, HR13, T13⟩
                case measure => first | (simp [intOf]; done) | (simp [intOf]; omega)
end Go.Proofs.YthbnliepgjjbdaaGreatDoor
