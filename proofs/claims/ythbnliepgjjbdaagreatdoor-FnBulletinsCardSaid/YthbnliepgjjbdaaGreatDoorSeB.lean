/- FnBulletins: the law's walk (printed by wip/tools/laws_fb.py). -/
import Derived.Test.YthbnliepgjjbdaaGreatDoorSeA
import Derived.Test.YthbnliepgjjbdaaGreatDoorSrcs
namespace Go.Proofs.YthbnliepgjjbdaaGreatDoor
open Go.ChangeShapes Go.WideShapes Go.ChangeAt Go.RowKit
set_option linter.unusedVariables false
def SameInv (b : Bool) (n1 : Nat) (M ss : List Sen) (j : Nat) : Prop := (b = true → n1 = ss.length ∧ M.take j = ss.take j) ∧ (b = false → M ≠ ss)
def bulS (l : Nat) (ss : List Sen) : ByteArray := ⟨(bulT l ss).toArray⟩
theorem btOk_c (l : Nat) (hl : 1 ≤ l ∧ l ≤ 4) (ss : List Sen) (hb : bulB ss = true) (A : Option Addr) (c B : Nat) (W : World) (hr : Reads W B 3 A ss.length (sens ss)) (hB : B ≤ W.heap.size) (he : Env W) :
    Calls Tryz.prog 13 #[.slice A ss.length c, .int .i64 l] W fun e w' => e = .returned (.tuple #[.string (bulS l ss), .int .i64 0]) ∧ Below W.heap.size W w' := by
  obtain ⟨m, hm⟩ := he.m0
  have h7 := (bulB_all hb).2
  have h := iBulletinText_c A ss.length c B ss l W hr hB (by omega) m hm he.tab
  rw [btV_ok hl hb] at h
  exact h
theorem rbOk_c (l : Nat) (hl : 1 ≤ l ∧ l ≤ 4) (ss : List Sen) (hb : bulB ss = true) (W : World) (he : Env W) : Calls Tryz.prog 14 #[.string (bulS l ss), .int .i64 l] W (RBPost (ss, 0) W) := by
  have h := iReadBulletin_c (bulS l ss) l (bulT_size hl hb) W he
  rw [show rbV l (bulS l ss) = (ss, 0) from rbV_text hl hb] at h
  exact h
theorem smOk_c (l m : Nat) (hl : 1 ≤ l ∧ l ≤ 4) (hm : 1 ≤ m ∧ m ≤ 4) (ss ts : List Sen) (hs : bulB ss = true) (ht : bulB ts = true) (W : World) (he : Env W) :
    Calls Tryz.prog 15 #[.string (bulS l ss), .int .i64 l, .string (bulS m ts), .int .i64 m] W fun e w' => e = .returned (.bool (decide (ss = ts))) ∧ Below W.heap.size W w' := by
  have h := iSameMeaning_c (bulS l ss) l (bulS m ts) m (bulT_size hl hs) (bulT_size hm ht) W he
  rw [show smV (bulS l ss) l (bulS m ts) m = decide (ss = ts) from smV_ok hl hm hs ht] at h
  exact h
theorem btOk2_c (l : Nat) (hl : 1 ≤ l ∧ l ≤ 4) (ss : List Sen) (hb : bulB ss = true) (A : Option Addr) (n c B : Nat) (hn : ss.length = n) (W : World) (hr : Reads W B 3 A n (sens ss)) (hB : B ≤ W.heap.size) (he : Env W) :
    Calls Tryz.prog 13 #[.slice A n c, .int .i64 l] W fun e w' => e = .returned (.tuple #[.string (bulS l ss), .int .i64 0]) ∧ Below W.heap.size W w' := by
  subst hn
  exact btOk_c l hl ss hb A c B W hr hB he
theorem compM_c (a b c d e : Int) (M : List Sen) (hok : compOk a b c d e = true) (heq : compV a b c d e = M) (W : World) : Calls Tryz.prog 7 #[.int .i64 a, .int .i64 b, .int .i64 c, .int .i64 d, .int .i64 e] W (CompPost M 0 W) := by
  have h := iCompOk_c a b c d e W hok
  rw [heq] at h
  exact h
theorem ivOk_c (A : Option Addr) (n c B : Nat) (M : List Sen) (hb : bulB M = true) (W : World) (hr : Reads W B 3 A n (sens M)) (hB : B ≤ W.heap.size) (hn : n ≤ 1152921504606846976) : Calls Tryz.prog 8 #[.slice A n c] W fun e w' => e = .returned (.bool true) ∧ Below W.heap.size W w' := by
  have h := iValidBulletin_c A n c B M W hr hB hn
  rw [hb] at h
  exact h
theorem svOk_c (A : Option Addr) (n c B : Nat) (M : List Sen) (hb : bulB M = true) (W : World) (hr : Reads W B 3 A n (sens M)) (hB : B ≤ W.heap.size) (hn : n ≤ 1152921504606846976) : Calls Tryz.prog 9 #[.slice A n c] W fun e w' => e = .returned (.bool true) ∧ Below W.heap.size W w' := by
  have h := sValidBulletin_c A n c B M W hr hB hn
  rw [hb] at h
  exact h
theorem mnOk_c (A : Option Addr) (n c B : Nat) (M : List Sen) (k x y z : Int) (hm : meanV M k = (x, y, z)) (W : World) (hr : Reads W B 3 A n (sens M)) (hB : B ≤ W.heap.size) (hn : n ≤ 1152921504606846976) :
    Calls Tryz.prog 10 #[.slice A n c, .int .i64 k] W fun e w' => e = .returned (.tuple #[.int .i64 x, .int .i64 y, .int .i64 z]) ∧ Below W.heap.size W w' := by
  have h := iMeaningOf_c A n c B M k W hr hB hn
  unfold MeanPost at h
  rw [hm] at h
  exact h
theorem chOk_c (a b x : Int) (h : changeOfV a b = (x, 0)) (W : World) : Calls Tryz.prog 11 #[.int .i64 a, .int .i64 b] W fun e w' => e = .returned (.tuple #[.int .i64 x, .int .i64 0]) ∧ Below W.heap.size W w' := by
  have hc := sChangeOf_c a b W
  rw [h] at hc
  exact hc.mono fun e w' ⟨h1, h2⟩ => ⟨h1, by subst h2; exact Below.refl _ _⟩
set_option maxHeartbeats 8000000 in
set_option maxRecDepth 100000 in
theorem wBulletins (w : World) (he : Env w) (A : Option Addr) (n cp : Nat) (bs : List Int) (ha : Bytes w w.heap.size A n bs) (_ : n ≤ 9223372036854775807) (D : Option Addr) (m d : Nat) (cs : List Int) (hd : Bytes w w.heap.size D m cs) (_ : m ≤ 9223372036854775807) :
    Calls Tryz.prog 3 #[.slice A n cp, .slice D m d] w fun e w' => e = .returned (.bool true) ∧ Below w.heap.size w w' := by
  have HL := Lib.hid (fun W => r8Long_c A n cp D m d W)
  by_cases h20 : 1048576 < n ∨ 1048576 < m
  · rw [decide_eq_true h20] at HL
    clear ha hd he h20
    go_enter Tryz.func3, Tryz.ntmps3
    go_wp2_with fail
    refine (HL.out _).mono ?_
    rintro e w1 ⟨rfl, rfl⟩
    go_wp2
    go_ret
    exact ⟨rfl, Below.refl _ _⟩
  · rw [decide_eq_false h20] at HL
    have hn : n ≤ 1048576 := by omega
    have HEN := Lib.hid (fun W (hW : Below w.heap.size w W) => he.below hW)
    have HD := Lib.hid hd
    have HA := Lib.hid ha
    clear ha hd he h20
    go_enter Tryz.func3, Tryz.ntmps3
    go_wp2_with fail
    refine (HL.out _).mono ?_
    rintro e w1 ⟨rfl, rfl⟩
    have T := Lib.hid (Below.refl w.heap.size w)
    go_wp2_with fail
    refine (r8At_c D m d w.heap.size cs 0 5 w (HD.out.below T.out) (by omega) (by omega)).mono ?_
    rintro e w1 ⟨v, rfl, v0, v1, _, B1⟩
    have hs1 := B1.size
    replace T := Lib.hid (T.out.trans (B1.mono T.out.size))
    clear B1
    obtain ⟨a, ha⟩ : ∃ z : Int, z = 1 + v := ⟨_, rfl⟩
    have ra : 1 ≤ a ∧ a ≤ 5 := by omega
    have hwa : IntKind.i64.wrap (1 + v) = a := by rw [← ha]; exact IntWalk.i64_in _ (by omega)
    clear ha
    clear v0 v1
    go_wp2_with fail
    refine (r8At_c D m d w.heap.size cs 1 5 w1 (HD.out.below T.out) (by omega) (by omega)).mono ?_
    rintro e w2 ⟨u, rfl, u0, u1, _, B2⟩
    have hs2 := B2.size
    replace T := Lib.hid (T.out.trans (B2.mono T.out.size))
    clear B2
    obtain ⟨b, hb⟩ : ∃ z : Int, z = 1 + u := ⟨_, rfl⟩
    have rb : 1 ≤ b ∧ b ≤ 5 := by omega
    have hwb : IntKind.i64.wrap (1 + u) = b := by rw [← hb]; exact IntWalk.i64_in _ (by omega)
    clear hb
    clear u0 u1
    go_wp2_with fail
    refine (r8Wide_c D m d w.heap.size cs 2 500 w2 (HD.out.below T.out) T.out.size (by omega) (by omega) (by omega)).mono ?_
    rintro e w3 ⟨x2, rfl, x20, x21, B3⟩
    have hs3 := B3.size
    replace T := Lib.hid (T.out.trans (B3.mono T.out.size))
    clear B3
    obtain ⟨c, hc⟩ : ∃ z : Int, z = 10 * x2 := ⟨_, rfl⟩
    have rc : 0 ≤ c ∧ c ≤ 5000 := by omega
    have hwc : IntKind.i64.wrap (10 * x2) = c := by rw [← hc]; exact IntWalk.i64_in _ (by omega)
    clear hc
    clear x20 x21
    go_wp2_with fail
    refine (r8At_c D m d w.heap.size cs 4 200 w3 (HD.out.below T.out) (by omega) (by omega)).mono ?_
    rintro e w4 ⟨g, rfl, g0, g1, _, B4⟩
    have hs4 := B4.size
    replace T := Lib.hid (T.out.trans (B4.mono T.out.size))
    clear B4
    have rg : 0 ≤ g ∧ g ≤ 500 := by omega
    clear g0 g1
    go_wp2_with fail
    refine (r8At_c D m d w.heap.size cs 5 3 w4 (HD.out.below T.out) (by omega) (by omega)).mono ?_
    rintro e w5 ⟨y, rfl, y0, y1, _, B5⟩
    have hs5 := B5.size
    replace T := Lib.hid (T.out.trans (B5.mono T.out.size))
    clear B5
    obtain ⟨h, hh⟩ : ∃ z : Int, z = y * 40 := ⟨_, rfl⟩
    have rh : 0 ≤ h ∧ h ≤ 500 := by omega
    have hwh : IntKind.i64.wrap (y * 40) = h := by rw [← hh]; exact IntWalk.i64_in _ (by omega)
    clear hh
    clear y0 y1
    obtain ⟨M, HC⟩ := comp_facts ra rb rc rg rh
    obtain ⟨hcok, hceq, hcbul, hc1, hc2, hc3, hc5, ⟨z6, hc6⟩, hcch⟩ := HC
    generalize cmpV b a = x at *
    obtain ⟨q5, hq5⟩ : ∃ z : Int, z = (if g = 0 then 3 else 0) := ⟨_, rfl⟩
    obtain ⟨q6, hq6⟩ : ∃ z : Int, z = (if h = 0 then 3 else 0) := ⟨_, rfl⟩
    rw [← hq5] at hc5
    rw [← hq6] at hc6
    have Hcok := Lib.hid hcok
    have Hceq := Lib.hid hceq
    have Hcbul := Lib.hid hcbul
    have Hc1 := Lib.hid hc1
    have Hc2 := Lib.hid hc2
    have Hc3 := Lib.hid hc3
    have Hc5 := Lib.hid hc5
    have Hc6 := Lib.hid hc6
    have Hcch := Lib.hid hcch
    have hq5b : ∃ b5 : Bool, (q5 == 0) = b5 ∧ decide (0 < g) = b5 := ⟨decide (0 < g), by rw [hq5]; split <;> simp <;> omega, rfl⟩
    have hq6b : ∃ b6 : Bool, (q6 == 0) = b6 ∧ decide (0 < h) = b6 := ⟨decide (0 < h), by rw [hq6]; split <;> simp <;> omega, rfl⟩
    obtain ⟨b5, hb5, hb5d⟩ := hq5b
    obtain ⟨b6, hb6, hb6d⟩ := hq6b
    have HB5 := Lib.hid (And.intro hb5 hb5d)
    have HB6 := Lib.hid (And.intro hb6 hb6d)
    clear hcok hceq hcbul hc1 hc2 hc3 hc5 hc6 hcch hq5 hq6 hb5 hb5d hb6 hb6d
    go_wp2_with fail
    refine (compM_c a b c g h M Hcok.out Hceq.out w5).mono ?_
    rintro e w6 ⟨A1, n1, c1, rfl, O1, hn1, B6⟩
    have hs6 := B6.size
    replace T := Lib.hid (T.out.trans (B6.mono T.out.size))
    replace O1 := Lib.hid O1
    clear B6
    have hnM := Lib.hid (show M.length = n1 from O1.out.reads.senLen)
    go_wp2_with fail
    refine (ivOk_c A1 n1 c1 _ M Hcbul.out w6 O1.out.reads (by omega) (by omega)).mono ?_
    rintro e w7 ⟨rfl, B7⟩
    have hs7 := B7.size
    replace T := Lib.hid (T.out.trans (B7.mono T.out.size))
    replace O1 := Lib.hid (O1.out.below B7 (by omega))
    clear B7
    go_wp2_with fail
    refine (svOk_c A1 n1 c1 _ M Hcbul.out w7 O1.out.reads (by omega) (by omega)).mono ?_
    rintro e w8 ⟨rfl, B8⟩
    have hs8 := B8.size
    replace T := Lib.hid (T.out.trans (B8.mono T.out.size))
    replace O1 := Lib.hid (O1.out.below B8 (by omega))
    clear B8
    go_wp2_with fail
    refine (mnOk_c A1 n1 c1 _ M 1 _ _ _ Hc1.out w8 O1.out.reads (by omega) (by omega)).mono ?_
    rintro e w9 ⟨rfl, B9⟩
    have hs9 := B9.size
    replace T := Lib.hid (T.out.trans (B9.mono T.out.size))
    replace O1 := Lib.hid (O1.out.below B9 (by omega))
    clear B9
    go_wp2_with fail
    refine (mnOk_c A1 n1 c1 _ M 2 _ _ _ Hc2.out w9 O1.out.reads (by omega) (by omega)).mono ?_
    rintro e w10 ⟨rfl, B10⟩
    have hs10 := B10.size
    replace T := Lib.hid (T.out.trans (B10.mono T.out.size))
    replace O1 := Lib.hid (O1.out.below B10 (by omega))
    clear B10
    go_wp2_with fail
    refine (mnOk_c A1 n1 c1 _ M 3 _ _ _ Hc3.out w10 O1.out.reads (by omega) (by omega)).mono ?_
    rintro e w11 ⟨rfl, B11⟩
    have hs11 := B11.size
    replace T := Lib.hid (T.out.trans (B11.mono T.out.size))
    replace O1 := Lib.hid (O1.out.below B11 (by omega))
    clear B11
    go_wp2_with fail
    refine (mnOk_c A1 n1 c1 _ M 5 _ _ _ Hc5.out w11 O1.out.reads (by omega) (by omega)).mono ?_
    rintro e w12 ⟨rfl, B12⟩
    have hs12 := B12.size
    replace T := Lib.hid (T.out.trans (B12.mono T.out.size))
    replace O1 := Lib.hid (O1.out.below B12 (by omega))
    clear B12
    go_wp2_with fail
    refine (mnOk_c A1 n1 c1 _ M 6 _ _ _ Hc6.out w12 O1.out.reads (by omega) (by omega)).mono ?_
    rintro e w13 ⟨rfl, B13⟩
    have hs13 := B13.size
    replace T := Lib.hid (T.out.trans (B13.mono T.out.size))
    replace O1 := Lib.hid (O1.out.below B13 (by omega))
    clear B13
    go_wp2_with fail
    refine (chOk_c a b x Hcch.out w13).mono ?_
    rintro e w14 ⟨rfl, B14⟩
    have hs14 := B14.size
    replace T := Lib.hid (T.out.trans (B14.mono T.out.size))
    replace O1 := Lib.hid (O1.out.below B14 (by omega))
    clear B14
    obtain ⟨hb5, hb5d⟩ := HB5.out
    obtain ⟨hb6, hb6d⟩ := HB6.out
    cases b5
    all_goals
      go_wp2_with fail
      refine ((r8Bulletin_c A n cp bs w14 ((HA.out.below T.out).more T.out.size) (by omega))).mono ?_
      rintro e w15 ⟨E, f, ss, rfl, O2, hbs, B15⟩
      have hs15 := B15.size
      replace T := Lib.hid (T.out.trans (B15.mono T.out.size))
      replace O1 := Lib.hid (O1.out.below B15 (by omega))
      replace O2 := Lib.hid O2
      clear B15
      have HBS := Lib.hid hbs
      have h7 := (bulB_all hbs).2
      clear hbs hb5 hb5d hb6 hb6d
      have HZ1 : Hid (∀ W', Below w15.heap.size w15 W' → Reads W' w15.heap.size 3 A1 n1 (sens M)) := Lib.hid (fun W' hW => (O1.out.reads.more (by omega)).below hW)
      have HZ2 : Hid (∀ W', Below w15.heap.size w15 W' → Reads W' w15.heap.size 3 E ss.length (sens ss)) := Lib.hid (fun W' hW => (O2.out.reads.more (by omega)).below hW)
      have HZE : Hid (∀ W', Below w15.heap.size w15 W' → Env W' ∧ Below w.heap.size w W') := Lib.hid (fun W' hW => ⟨HEN.out W' (T.out.trans (hW.mono T.out.size)), T.out.trans (hW.mono T.out.size)⟩)
      clear O1 O2
      generalize w15 = wz at *
      go_wp2
      go_loopw [30] (fun iv wr => ∃ F : Nat, 1 ≤ F ∧ F ≤ 5 ∧ iv = .int .i64 F ∧ Hid (Below wz.heap.size wz wr)) (fun iv _ => 5 - (intOf iv).toNat)
      case atStart => exact ⟨1, by omega, by omega, rfl, Lib.hid (Below.refl _ _)⟩
      case round =>
        obtain ⟨F, hF1, hF5, rfl, HB⟩ := hrel
        generalize wr = wo at *
        by_cases hF : F = 5
        · subst hF
          go_wp2
          go_ret
          exact ⟨rfl, (HZE.out _ HB.out).2⟩
        · have hFl := Lib.hid (show 1 ≤ F ∧ F ≤ 4 by omega)
          have hFn : (F : Int) ≤ 4 := by omega
          go_wp2_with fail
          refine (btOk_c F hFl.out ss HBS.out E f _ wo (HZ2.out _ HB.out) HB.out.size (HZE.out _ HB.out).1).mono ?_
          rintro e p1 ⟨rfl, B⟩
          have P1 := Lib.hid (HB.out.trans (B.mono HB.out.size))
          clear B
          go_wp2_with fail
          refine (rbOk_c F hFl.out ss HBS.out p1 (HZE.out _ P1.out).1).mono ?_
          rintro e p2 ⟨A3, c3, rfl, O3, B⟩
          have P2 := Lib.hid (P1.out.trans (B.mono P1.out.size))
          have R3 := Lib.hid O3.reads
          clear B O3 P1
          simp only at R3 ⊢
          go_wp2
          go_loopw [35] (fun jv wr => ∃ j q : Nat, j ≤ ss.length ∧ jv = .int .i64 j ∧ wr = p2.drewN q) (fun jv _ => ss.length - (intOf jv).toNat)
          case atStart => exact ⟨0, 0, by omega, rfl, rfl⟩
          case round =>
            obtain ⟨j, q, hj, rfl, rfl⟩ := hrel
            by_cases hjl : j < ss.length
            · obtain ⟨ad, s, had, _, hs, c0, c1, c2⟩ := R3.out.sen hjl
              obtain ⟨ad', t, had', _, ht, d0, d1, d2⟩ := (HZ2.out _ P2.out).sen hjl
              obtain rfl : s = t := by rw [hs] at ht; exact Option.some.inj ht
              subst had had'
              have hjn : (j : Int) < (ss.length : Int) := by omega
              have hj0 : (0 : Int) ≤ (j : Int) := by omega
              have heq : ∀ W' : World, (Op.equalIn 10000 38 (.agg #[.int .i64 s.k, .int .i64 s.a, .int .i64 s.b]) (.agg #[.int .i64 s.k, .int .i64 s.a, .int .i64 s.b])).run Tryz.prog W' = .ok true W' := fun W' => by rw [eqSenIn]; simp
              clear hs ht
              go_wp2
              go_quiet (fail)
              go_wp2
              go_roundw
              case rel => exact ⟨j + 1, _, by omega, by go_num, rfl⟩
              case measure => simp [intOf]; omega
            · have hjn : ¬ (j : Int) < (ss.length : Int) := by omega
              have P3 := Lib.hid (below_drewN P2.out q)
              generalize p2.drewN q = p3 at *
              clear R3 P2
              go_wp2_with fail
              refine (r8At_c D m d w.heap.size cs 6 4 p3 (HD.out.below (HZE.out _ P3.out).2) (by omega) (by omega)).mono ?_
              rintro e p4 ⟨u, rfl, u0, u1, _, B⟩
              have P4 := Lib.hid (P3.out.trans (B.mono P3.out.size))
              obtain ⟨G, hG⟩ : ∃ G : Nat, 1 + u = G := ⟨(1 + u).toNat, by omega⟩
              have hGl := Lib.hid (show 1 ≤ G ∧ G ≤ 4 by omega)
              have hwG : IntKind.i64.wrap (1 + u) = (G : Int) := by rw [hG]; exact IntWalk.i64_in _ (by omega)
              clear B P3 hG u0 u1
              go_wp2_with fail
              refine (btOk_c G hGl.out ss HBS.out E f _ p4 (HZ2.out _ P4.out) P4.out.size (HZE.out _ P4.out).1).mono ?_
              rintro e p5 ⟨rfl, B⟩
              have P5 := Lib.hid (P4.out.trans (B.mono P4.out.size))
              clear B P4
              go_wp2_with fail
              refine (btOk2_c G hGl.out M Hcbul.out A1 n1 c1 _ hnM.out p5 (HZ1.out _ P5.out) P5.out.size (HZE.out _ P5.out).1).mono ?_
              rintro e p6 ⟨rfl, B⟩
              have P6 := Lib.hid (P5.out.trans (B.mono P5.out.size))
              clear B P5 hwG
              obtain ⟨bl, hbl⟩ : ∃ bl : Bool, ((n1 : Int) == (ss.length : Int)) = bl := ⟨_, rfl⟩
              have HBL : Hid ((bl = true → n1 = ss.length) ∧ (bl = false → n1 ≠ ss.length)) := Lib.hid (by rw [← hbl]; constructor <;> intro h <;> simp at h <;> omega)
              have hle1 : n1 = M.length := hnM.out.symm
              have HS1 := Lib.hid (fun W' hW => smOk_c F G hFl.out hGl.out ss ss HBS.out HBS.out W' hW)
              have HS2 := Lib.hid (fun W' hW => smOk_c F G hFl.out hGl.out ss M HBS.out Hcbul.out W' hW)
              generalize bulS F ss = t1 at *
              generalize bulS G ss = t2 at *
              generalize bulS G M = t3 at *
              have HLE := Lib.hid hle1
              clear hle1
              go_wp2
              clear hbl
              go_loopw [41, 42] (fun sv jv wr => ∃ (j q : Nat) (b : Bool), j ≤ n1 ∧ jv = .int .i64 j ∧ sv = .bool b ∧ Hid (SameInv b n1 M ss j) ∧ wr = p6.drewN q) (fun _ jv _ => n1 - (intOf jv).toNat)
              case atStart => exact ⟨0, 0, bl, by omega, rfl, rfl, Lib.hid ⟨fun h => ⟨HBL.out.1 h, rfl⟩, fun h e => HBL.out.2 h (by rw [HLE.out, e])⟩, rfl⟩
              case round =>
                obtain ⟨j, q, b, hj, rfl, rfl, HBB, rfl⟩ := hrel
                have P7 := Lib.hid (below_drewN P6.out q)
                cases b
                · have hsm : decide (ss = M) = false := decide_eq_false (fun e => HBB.out.2 rfl e.symm)
                  rw [hsm] at HS2
                  clear hsm
                  generalize p6.drewN q = p7 at *
                  by_cases hjx : (j : Int) < (n1 : Int)
                  all_goals
                    go_wp2_with fail
                    refine (HS1.out _ (HZE.out _ P7.out).1).mono ?_
                    rintro e p8 ⟨rfl, B⟩
                    have P8 := Lib.hid (P7.out.trans (B.mono P7.out.size))
                    clear B
                    go_wp2_with fail
                    refine (HS2.out _ (HZE.out _ P8.out).1).mono ?_
                    rintro e p9 ⟨rfl, B⟩
                    have P9 := Lib.hid (P8.out.trans (B.mono P8.out.size))
                    clear B
                    go_wp2
                    go_roundw
                    case rel => exact ⟨F + 1, by omega, by omega, by go_num, P9⟩
                    case measure => simp [intOf]; omega
                · by_cases hjl : j < n1
                  · have hls := (HBB.out.1 rfl).1
                    obtain ⟨ad, s, had, _, hs, c0, c1, c2⟩ := (HZ1.out _ P6.out).sen hjl
                    obtain ⟨ad', t, had', _, ht, d0, d1, d2⟩ := (HZ2.out _ P6.out).sen (k := j) (by omega)
                    subst had had'
                    have hjn : (j : Int) < (n1 : Int) := by omega
                    have hjm : (j : Int) < (ss.length : Int) := by omega
                    have hj0 : (0 : Int) ≤ (j : Int) := by omega
                    have HEQ := Lib.hid (fun W' => eqSenIn s.k s.a s.b t.k t.a t.b W')
                    have hst : ((⟨s.k, s.a, s.b⟩ : Sen) = ⟨t.k, t.a, t.b⟩) = (s = t) := rfl
                    by_cases he : s = t
                    · have heq : ∀ W' : World, (Op.equalIn 10000 38 (.agg #[.int .i64 s.k, .int .i64 s.a, .int .i64 s.b]) (.agg #[.int .i64 t.k, .int .i64 t.a, .int .i64 t.b])).run Tryz.prog W' = .ok true W' := fun W' => by rw [HEQ.out W']; simp only [he, decide_true]
                      have HN : Hid (SameInv true n1 M ss (j + 1)) := Lib.hid ⟨fun _ => ⟨hls, by rw [List.take_add_one, List.take_add_one, hs, ht, he, (HBB.out.1 rfl).2]⟩, fun h => by cases h⟩
                      clear hs ht he hst HEQ hls
                      go_wp2
                      go_quiet (fail)
                      go_wp2
                      go_roundw
                      case rel => exact ⟨j + 1, _, true, by omega, by go_num, rfl, HN, rfl⟩
                      case measure => simp [intOf]; omega
                    · have heq : ∀ W' : World, (Op.equalIn 10000 38 (.agg #[.int .i64 s.k, .int .i64 s.a, .int .i64 s.b]) (.agg #[.int .i64 t.k, .int .i64 t.a, .int .i64 t.b])).run Tryz.prog W' = .ok false W' := fun W' => by rw [HEQ.out W']; simp only [hst, he, decide_false]
                      have HN : Hid (SameInv false n1 M ss (j + 1)) := Lib.hid ⟨fun h => (by cases h), fun _ e => he (by rw [e, ht] at hs; exact (Option.some.inj hs).symm)⟩
                      clear hs ht he hst HEQ hls
                      go_wp2
                      go_quiet (fail)
                      go_wp2
                      go_roundw
                      case rel => exact ⟨j + 1, _, false, by omega, by go_num, rfl, HN, rfl⟩
                      case measure => simp [intOf]; omega
                  · have hsm : decide (ss = M) = true := decide_eq_true (by
                      obtain ⟨g1, g2⟩ := HBB.out.1 rfl
                      have := HLE.out
                      rw [List.take_of_length_le (by omega), List.take_of_length_le (by omega)] at g2
                      exact g2.symm)
                    rw [hsm] at HS2
                    have hjn : ¬ (j : Int) < (n1 : Int) := by omega
                    clear hsm
                    generalize p6.drewN q = p7 at *
                    go_wp2_with fail
                    refine (HS1.out _ (HZE.out _ P7.out).1).mono ?_
                    rintro e p8 ⟨rfl, B⟩
                    have P8 := Lib.hid (P7.out.trans (B.mono P7.out.size))
                    clear B
                    go_wp2_with fail
                    refine (HS2.out _ (HZE.out _ P8.out).1).mono ?_
                    rintro e p9 ⟨rfl, B⟩
                    have P9 := Lib.hid (P8.out.trans (B.mono P8.out.size))
                    clear B
                    go_wp2
                    go_roundw
                    case rel => exact ⟨F + 1, by omega, by omega, by go_num, P9⟩
                    case measure => simp [intOf]; omega
end Go.Proofs.YthbnliepgjjbdaaGreatDoor
