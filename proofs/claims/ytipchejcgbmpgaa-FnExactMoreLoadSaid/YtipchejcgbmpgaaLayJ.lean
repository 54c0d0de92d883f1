/- Stability: MoreLoad by the program and by the reference; sort.Search over a closure that writes. -/
import Derived.Test.YtipchejcgbmpgaaLayH
namespace Go.Proofs.Ytipchejcgbmpgaa
open Go.ChangeShapes Go.WideShapes Go.ChangeAt Go.RowKit
set_option linter.unusedVariables false

/-! ### with more load a slab is not more stable -/
theorem ediv_anti {a b c : Int} (ha : 0 ≤ a) (hb : 0 < b) (h : b ≤ c) : a / c ≤ a / b := by
  rw [Int.le_ediv_iff_mul_le hb]
  have h1 : 0 ≤ a / c := Int.ediv_nonneg ha (by omega)
  have h2 : a / c * b ≤ a / c * c := Int.mul_le_mul_of_nonneg_left h h1
  have h3 : a / c * c ≤ a := Int.ediv_mul_le a (by omega)
  omega
theorem idxLoV_anti {lo st st' : Int} (h0 : 0 ≤ lo) (h1 : 0 ≤ st) (h : st ≤ st') : idxLoV lo st' ≤ idxLoV lo st := by
  unfold idxLoV
  by_cases e : st = 0
  · rw [if_pos e]; split <;> omega
  · rw [if_neg e, if_neg (by omega)]
    have := ediv_anti (a := 1000 * lo) (b := st) (c := st') (by omega) (by omega) h
    omega
theorem idxLo_anti {ls : List Lay} {m m' rise run d : Int} (hp : proB ls = true) (h0 : 0 ≤ m) (h : m ≤ m') (hm : m' ≤ 1000000) (r0 : 0 ≤ rise) (r1 : rise ≤ 1000) (n0 : 1 ≤ run) (n1 : run ≤ 1000) (d0 : 0 ≤ d) (d1 : d ≤ 1000) (k : Nat) : idxLo ls m' rise run d k ≤ idxLo ls m rise run d k := by
  unfold idxLo
  cases hs : ls[k]? with
  | none => exact Int.le_refl _
  | some s =>
    have hb := loadV_bd hp k
    have hlo := (Lay.lo_bd (proB_get hp hs) d0 d1).1
    exact idxLoV_anti hlo.1 (stressV_bd (by omega) (by omega) r0 r1 n0 n1).1 (stressV_mono (by omega) (by omega) r0 n0)
theorem stabV_anti {ls : List Lay} {m m' rise run d limit : Int} (hp : proB ls = true) (h0 : 0 ≤ m) (h : m ≤ m') (hm : m' ≤ 1000000) (r0 : 0 ≤ rise) (r1 : rise ≤ 1000) (n0 : 1 ≤ run) (n1 : run ≤ 1000) (d0 : 0 ≤ d) (d1 : d ≤ 1000)
    (hs : stabV ls m' rise run d limit = true) : stabV ls m rise run d limit = true := by
  unfold stabV weakV at hs ⊢
  simp only [decide_eq_true_eq] at hs ⊢
  rcases weakF_bd (idxLo ls m rise run d) 1000000 ls.length with ⟨e, h1⟩ | ⟨j, hj, h1⟩
  · rw [e] at hs ⊢; exact hs
  · rw [h1]
    have h2 := weakF_least (idxLo ls m' rise run d) 1000000 ls.length j hj
    have h3 := idxLo_anti hp h0 h hm r0 r1 n0 n1 d0 d1 j
    simp only at h2 h3 ⊢
    omega
/-- what MoreLoad answers -/
def MoreOk (ls : List Lay) (rise run d limit v c : Int) : Prop :=
  if codeV ls rise run d limit ≠ 0 then v = 0 ∧ c = codeV ls rise run d limit
  else if stabV ls 0 rise run d limit = false then v = 0 ∧ c = 6
  else if stabV ls 1000000 rise run d limit = true then v = 0 ∧ c = 3
  else c = 0 ∧ 1 ≤ v ∧ v ≤ 1000000 ∧ stabV ls v rise run d limit = false ∧ (v = 1 ∨ stabV ls (v - 1) rise run d limit = true)
theorem MoreOk.unique {ls : List Lay} {rise run d limit v c v' c' : Int} (h : MoreOk ls rise run d limit v c) (h' : MoreOk ls rise run d limit v' c') : v = v' ∧ c = c' := by
  unfold MoreOk at h h'
  by_cases h0 : codeV ls rise run d limit ≠ 0
  · rw [if_pos h0] at h h'; omega
  · rw [if_neg h0] at h h'
    have hz : codeV ls rise run d limit = 0 := by omega
    obtain ⟨hp, h1, h2, _, _⟩ := codeV_zero hz
    simp only [slopeB, doubtB, inB, Bool.and_eq_true, decide_eq_true_eq] at h1 h2
    by_cases h3 : stabV ls 0 rise run d limit = false
    · rw [if_pos h3] at h h'; omega
    · rw [if_neg h3] at h h'
      by_cases h4 : stabV ls 1000000 rise run d limit = true
      · rw [if_pos h4] at h h'; omega
      · rw [if_neg h4] at h h'
        obtain ⟨hc, a1, a2, a3, a4⟩ := h
        obtain ⟨hc', b1, b2, b3, b4⟩ := h'
        refine ⟨?_, by omega⟩
        rcases Int.lt_trichotomy v v' with hlt | heq | hgt
        · rcases b4 with rfl | b4
          · omega
          · have := stabV_anti (m := v) (m' := v' - 1) hp (by omega) (by omega) (by omega) h1.1.1 h1.1.2 h1.2.1 h1.2.2 h2.1 h2.2 b4
            rw [a3] at this; cases this
        · exact heq
        · rcases a4 with rfl | a4
          · omega
          · have := stabV_anti (m := v') (m' := v - 1) hp (by omega) (by omega) (by omega) h1.1.1 h1.1.2 h1.2.1 h1.2.2 h2.1 h2.2 a4
            rw [b3] at this; cases this
def MorePost (ls : List Lay) (rise run d limit : Int) (w : World) (e : Ending) (w' : World) : Prop :=
  ∃ v c, e = .returned (.tuple #[.int .i64 v, .int .i64 c]) ∧ MoreOk ls rise run d limit v c ∧ Below w.heap.size w w'

set_option maxHeartbeats 2000000 in
theorem sMoreLoad_c (A : Option Addr) (n c BA : Nat) (ls : List Lay) (rise run d limit : Int) (w : World) (ha : Reads w BA 7 A n (lays ls)) (hB : BA ≤ w.heap.size) (hn : n ≤ 1048576) (hnc : n ≤ c) :
    Calls Try.prog 21 #[.slice A n c, .int .i64 rise, .int .i64 run, .int .i64 d, .int .i64 limit] w (MorePost ls rise run d limit w) := by
  have HO := Lib.hid (l07Ask_c A n c BA ls rise run d w ha (by omega))
  have HC := Lib.hid (codeV_ask ls rise run d limit)
  by_cases h0 : askV ls rise run d = 0
  · obtain ⟨hp, h1, h2⟩ := askV_zero h0
    have HS := Lib.hid fun (hl : limit ≤ 1000000) W (hW : Below w.heap.size w W) (m : Int) (m0 : 0 ≤ m) (m1 : m ≤ 1000000) => l07Stable_c A n c BA ls m rise run d limit W (ha.below (hW.mono hB)) (by have := hW.size; omega) hnc hp (args_of m0 m1 h1 h2) hl
    have H0 := Lib.hid h0
    clear h0 hp h1 h2 ha
    cases hl : inB limit 0 1000000
    · have HV : Hid (MoreOk ls rise run d limit 0 2) := Lib.hid (by rw [MoreOk, HC.out, if_pos H0.out, hl]; simp)
      go_enter Try.func21, Try.ntmps21
      go_wp2_with fail
      refine HO.out.mono ?_
      rintro e w' ⟨rfl, rfl⟩
      rw [H0.out]
      go_wp2_with (go_at_call 38; refine (l07Limit_c _ _).mono ?_; rintro e w' ⟨rfl, rfl⟩)
      go_ret2
      exact ⟨0, 2, rfl, HV.out, Below.refl _ _⟩
    · have hl2 : limit ≤ 1000000 := by simp only [inB, decide_eq_true_eq] at hl; omega
      have HL := Lib.hid hl; clear hl
      have HZ : Hid (codeV ls rise run d limit = 0) := Lib.hid (by rw [HC.out, if_pos H0.out, HL.out]; rfl)
      have HS2 := Lib.hid (HS.out hl2)
      clear HS hl2
      cases hs0 : stabV ls 0 rise run d limit
      · have HV : Hid (MoreOk ls rise run d limit 0 6) := Lib.hid (by rw [MoreOk, HZ.out, hs0]; simp)
        have HS0 := Lib.hid hs0; clear hs0
        go_enter Try.func21, Try.ntmps21
        go_wp2_with fail
        refine HO.out.mono ?_
        rintro e w' ⟨rfl, rfl⟩
        rw [H0.out]
        go_wp2_with fail
        refine (l07Limit_c _ _).mono ?_
        rintro e w' ⟨rfl, rfl⟩
        rw [HL.out]
        go_wp2_with fail
        refine (HS2.out w (Below.refl _ _) 0 (by omega) (by omega)).mono ?_
        rintro e w2 ⟨rfl, hb2⟩
        rw [HS0.out]
        go_wp2
        go_ret2
        exact ⟨0, 6, rfl, HV.out, hb2⟩
      · have HS0 := Lib.hid hs0; clear hs0
        cases hs1 : stabV ls 1000000 rise run d limit
        · have HS1 := Lib.hid hs1; clear hs1
          go_enter Try.func21, Try.ntmps21
          go_wp2_with fail
          refine HO.out.mono ?_
          rintro e w' ⟨rfl, rfl⟩
          rw [H0.out]
          go_wp2_with fail
          refine (l07Limit_c _ _).mono ?_
          rintro e w' ⟨rfl, rfl⟩
          rw [HL.out]
          go_wp2_with fail
          refine (HS2.out w (Below.refl _ _) 0 (by omega) (by omega)).mono ?_
          rintro e w2 ⟨rfl, hb2⟩
          rw [HS0.out]
          have HB2 := Lib.hid hb2; clear hb2
          go_wp2_with fail
          refine (HS2.out w2 HB2.out 1000000 (by omega) (by omega)).mono ?_
          rintro e w3 ⟨rfl, hb3⟩
          rw [HS1.out]
          have HB3 := Lib.hid (HB2.out.trans (hb3.mono HB2.out.size)); clear hb3 HB2
          go_wp2
          go_loopw [13, 14] (fun a b wr => ∃ lo hi : Int, a = .int .i64 lo ∧ b = .int .i64 hi ∧ 1 ≤ lo ∧ lo ≤ hi ∧ hi ≤ 1000000 ∧ Hid (stabV ls hi rise run d limit = false) ∧ Hid (lo = 1 ∨ stabV ls (lo - 1) rise run d limit = true) ∧ Hid (Below w.heap.size w wr)) (fun a b _ => (intOf b - intOf a).toNat)
          case atStart => exact ⟨1, 1000000, rfl, rfl, by omega, by omega, by omega, HS1, Lib.hid (.inl rfl), HB3⟩
          case round =>
            obtain ⟨lo, hi, rfl, rfl, l1, l2, l3, HHI, HLO, HT⟩ := hrel
            by_cases hlt : lo < hi
            · go_wp2_with fail
              refine (HS2.out wr HT.out ((lo + hi) / 2) (by omega) (by omega)).mono ?_
              rintro e w4 ⟨rfl, hb4⟩
              have HT4 := Lib.hid (HT.out.trans (hb4.mono HT.out.size)); clear hb4
              cases hst : stabV ls ((lo + hi) / 2) rise run d limit
              · have HST := Lib.hid hst; clear hst
                go_wp2
                go_roundw
                case rel => exact ⟨lo, (lo + hi) / 2, rfl, rfl, by omega, by omega, by omega, HST, HLO, HT4⟩
                case measure => simp [intOf]; omega
              · have HST := Lib.hid hst; clear hst
                go_wp2
                go_roundw
                case rel => exact ⟨(lo + hi) / 2 + 1, hi, rfl, rfl, by omega, by omega, by omega, HHI, Lib.hid (.inr (by rw [Int.add_sub_cancel]; exact HST.out)), HT4⟩
                case measure => simp [intOf]; omega
            · obtain rfl : lo = hi := by omega
              go_wp2
              go_ret2
              exact ⟨lo, 0, rfl, by rw [MoreOk, HZ.out, HS0.out, HS1.out]; simp; exact ⟨l1, l3, HHI.out, HLO.out⟩, HT.out⟩
        · have HV : Hid (MoreOk ls rise run d limit 0 3) := Lib.hid (by rw [MoreOk, HZ.out, HS0.out, hs1]; simp)
          have HS1 := Lib.hid hs1; clear hs1
          go_enter Try.func21, Try.ntmps21
          go_wp2_with fail
          refine HO.out.mono ?_
          rintro e w' ⟨rfl, rfl⟩
          rw [H0.out]
          go_wp2_with fail
          refine (l07Limit_c _ _).mono ?_
          rintro e w' ⟨rfl, rfl⟩
          rw [HL.out]
          go_wp2_with fail
          refine (HS2.out w (Below.refl _ _) 0 (by omega) (by omega)).mono ?_
          rintro e w2 ⟨rfl, hb2⟩
          rw [HS0.out]
          have HB2 := Lib.hid hb2; clear hb2
          go_wp2_with fail
          refine (HS2.out w2 HB2.out 1000000 (by omega) (by omega)).mono ?_
          rintro e w3 ⟨rfl, hb3⟩
          rw [HS1.out]
          have HB3 := Lib.hid (HB2.out.trans (hb3.mono HB2.out.size)); clear hb3 HB2
          go_wp2
          go_ret2
          exact ⟨0, 3, rfl, HV.out, HB3.out⟩
  · have hne : (askV ls rise run d != 0) = true := by simpa using h0
    have HV : Hid (MoreOk ls rise run d limit 0 (askV ls rise run d)) := Lib.hid (by rw [MoreOk, HC.out, if_neg h0, if_pos h0]; exact ⟨rfl, rfl⟩)
    clear ha h0
    go_enter Try.func21, Try.ntmps21
    go_wp2_with fail
    refine HO.out.mono ?_
    rintro e w' ⟨rfl, rfl⟩
    go_wp2
    go_ret2
    exact ⟨0, _, rfl, HV.out, Below.refl _ _⟩
end Go.Proofs.Ytipchejcgbmpgaa
