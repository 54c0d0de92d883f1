/- MeaningOf: both functions answer the same; the exact law. -/
import Derived.Test.YthbnliepgjjbdaaBul2
namespace Go.Proofs.Ythbnliepgjjbdaa
open Go.ChangeShapes Go.WideShapes Go.ChangeAt Go.RowKit
set_option linter.unusedVariables false

def meanV (ss : List Sen) (kind : Int) : Int × Int × Int :=
  match bulB ss, inB kind 1 7, ss.find? (fun s => s.k == kind) with
  | false, _, _ => (0, 0, 1)
  | true, false, _ => (0, 0, 2)
  | true, true, none => (0, 0, 3)
  | true, true, some s => (s.a, s.b, 0)
def MeanPost (ss : List Sen) (kind : Int) (w : World) (e : Ending) (w' : World) : Prop :=
  e = .returned (.tuple #[.int .i64 (meanV ss kind).1, .int .i64 (meanV ss kind).2.1, .int .i64 (meanV ss kind).2.2]) ∧ Below w.heap.size w w'
theorem find_at {p : Sen → Bool} {ss : List Sen} {k : Nat} {s : Sen} (h : (ss.take k).find? p = none) (hs : ss[k]? = some s) (hp : p s = true) : ss.find? p = some s := by
  rw [drop_cons_get' hs, List.find?_append, h]
  simp [hp]
theorem find_next {p : Sen → Bool} {ss : List Sen} {k : Nat} {s : Sen} (h : (ss.take k).find? p = none) (hs : ss[k]? = some s) (hp : p s = false) : (ss.take (k + 1)).find? p = none := by
  rw [List.take_add_one, hs, List.find?_append, h]
  simp [hp]
set_option maxHeartbeats 1000000 in
theorem sMeaningOf_c (A : Option Addr) (n c BA : Nat) (ss : List Sen) (kind : Int) (w : World) (ha : Reads w BA 3 A n (sens ss)) (hA : BA ≤ w.heap.size) (hn : n ≤ 1152921504606846976) :
    Calls Try.prog 19 #[.slice A n c, .int .i64 kind] w (MeanPost ss kind w) := by
  have hc := l19List_c A n c BA ss w ha hA hn
  cases hb : bulB ss
  · rw [hb] at hc
    have HB := Lib.hid hb; clear hb ha
    go_enter Try.func19, Try.ntmps19
    go_wp2_with fail
    refine hc.mono ?_
    rintro e w1 ⟨rfl, B1⟩
    clear hc
    go_wp2
    go_ret3
    exact ⟨by rw [meanV, HB.out]; rfl, B1⟩
  · rw [hb] at hc
    have HB := Lib.hid hb; clear hb
    cases hr : inB kind 1 7
    · clear ha
      go_enter Try.func19, Try.ntmps19
      go_wp2_with fail
      refine hc.mono ?_
      rintro e w1 ⟨rfl, B1⟩
      clear hc
      go_wp2_with (first | (go_at_call 27; refine (l00In_c _ _ _ _).mono ?_; rintro e w' ⟨rfl, rfl⟩))
      go_ret3
      exact ⟨by rw [meanV, HB.out, hr]; rfl, B1⟩
    · have HL := Lib.hid ha.senLen
      go_enter Try.func19, Try.ntmps19
      go_wp2_with fail
      refine hc.mono ?_
      rintro e w1 ⟨rfl, B1⟩
      clear hc
      have ha1 := ha.below (B1.mono hA)
      have T1 := Lib.hid B1
      have hs1 := B1.size
      clear ha B1
      go_wp2_with (first | (go_at_call 27; refine (l00In_c _ _ _ _).mono ?_; rintro e w' ⟨rfl, rfl⟩))
      have HR := Lib.hid hr; clear hr
      go_loopw [7] (fun i wr => ∃ k : Nat, k ≤ n ∧ i = .int .i64 k ∧ Hid ((ss.take k).find? (fun s => s.k == kind) = none) ∧ Hid (Below w1.heap.size w1 wr)) (fun i _ => n - (intOf i).toNat)
      case atStart => exact ⟨0, Nat.zero_le _, rfl, Lib.hid rfl, Lib.hid (Below.refl _ _)⟩
      case round =>
        obtain ⟨k, hk, rfl, HF, HT⟩ := hrel
        by_cases hlt : k < n
        · obtain ⟨ad, s, rfl, hbl, hs, c0, c1, c2⟩ := (ha1.below (HT.out.mono (by omega))).sen hlt
          have HS := Lib.hid hs
          have hk' : (k : Int) < (n : Int) := by omega
          have hsT := HT.out.size
          clear hs ha1
          by_cases hkk : s.k = kind
          · have hkt : (s.k == kind) = true := by simp [hkk]
            have HKT := Lib.hid hkt
            clear hkk
            go_wp2
            go_quiet (fail)
            go_wp2
            go_ret3
            exact ⟨by rw [meanV, HB.out, HR.out, find_at HF.out HS.out HKT.out]; rfl, T1.out.trans ((below_drewN HT.out _).mono T1.out.size)⟩
          · have hkt : (s.k == kind) = false := by simp [hkk]
            have HKT := Lib.hid hkt
            clear hkk
            go_wp2
            go_roundw
            case rel => exact ⟨k + 1, by omega, by go_num, Lib.hid (find_next HF.out HS.out HKT.out), Lib.hid HT.out⟩
            case measure => simp [intOf]; omega
        · obtain rfl : k = n := by omega
          clear ha1
          go_wp2
          go_ret3
          exact ⟨by rw [meanV, HB.out, HR.out]; have h := HF.out; rw [List.take_of_length_le (by have := HL.out; omega)] at h; rw [h]; rfl, T1.out.trans (HT.out.mono T1.out.size)⟩
set_option maxHeartbeats 1000000 in
theorem iMeaningOf_c (A : Option Addr) (n c BA : Nat) (ss : List Sen) (kind : Int) (w : World) (ha : Reads w BA 3 A n (sens ss)) (hA : BA ≤ w.heap.size) (hn : n ≤ 1152921504606846976) :
    Calls Try.prog 20 #[.slice A n c, .int .i64 kind] w (MeanPost ss kind w) := by
  have hc := iValidBulletin_c A n c BA ss w ha hA hn
  cases hb : bulB ss
  · rw [hb] at hc
    have HB := Lib.hid hb; clear hb ha
    go_enter Try.func20, Try.ntmps20
    go_wp2_with fail
    refine hc.mono ?_
    rintro e w1 ⟨rfl, B1⟩
    clear hc
    go_wp2
    go_ret3
    exact ⟨by rw [meanV, HB.out]; rfl, B1⟩
  · rw [hb] at hc
    have HB := Lib.hid hb; clear hb
    cases hr : inB kind 1 7
    · clear ha
      go_enter Try.func20, Try.ntmps20
      go_wp2_with fail
      refine hc.mono ?_
      rintro e w1 ⟨rfl, B1⟩
      clear hc
      go_wp2_with (first | (go_at_call 23; refine (within_c _ _ _ _).mono ?_; rintro e w' ⟨rfl, rfl⟩))
      go_ret3
      exact ⟨by rw [meanV, HB.out, hr]; rfl, B1⟩
    · have HL := Lib.hid ha.senLen
      go_enter Try.func20, Try.ntmps20
      go_wp2_with fail
      refine hc.mono ?_
      rintro e w1 ⟨rfl, B1⟩
      clear hc
      have ha1 := ha.below (B1.mono hA)
      have T1 := Lib.hid B1
      have hs1 := B1.size
      clear ha B1
      go_wp2_with (first | (go_at_call 23; refine (within_c _ _ _ _).mono ?_; rintro e w' ⟨rfl, rfl⟩))
      have HR := Lib.hid hr; clear hr
      go_loopw [19] (fun i wr => ∃ k : Nat, k ≤ n ∧ i = .int .i64 k ∧ Hid ((ss.take k).find? (fun s => s.k == kind) = none) ∧ Hid (Below w1.heap.size w1 wr)) (fun i _ => n - (intOf i).toNat)
      case atStart => exact ⟨0, Nat.zero_le _, rfl, Lib.hid rfl, Lib.hid (Below.refl _ _)⟩
      case round =>
        obtain ⟨k, hk, rfl, HF, HT⟩ := hrel
        by_cases hlt : k < n
        · obtain ⟨ad, s, rfl, hbl, hs, c0, c1, c2⟩ := (ha1.below (HT.out.mono (by omega))).sen hlt
          have HS := Lib.hid hs
          have hk' : (k : Int) < (n : Int) := by omega
          have hsT := HT.out.size
          clear hs ha1
          by_cases hkk : s.k = kind
          · have hkt : (s.k == kind) = true := by simp [hkk]
            have HKT := Lib.hid hkt
            clear hkk
            go_wp2
            go_quiet (fail)
            go_wp2
            go_ret3
            exact ⟨by rw [meanV, HB.out, HR.out, find_at HF.out HS.out HKT.out]; rfl, T1.out.trans ((below_drewN (HT.out.alloc hsT _) _).mono T1.out.size)⟩
          · have hkt : (s.k == kind) = false := by simp [hkk]
            have HKT := Lib.hid hkt
            clear hkk
            go_wp2
            go_roundw
            case rel => exact ⟨k + 1, by omega, by go_num, Lib.hid (find_next HF.out HS.out HKT.out), Lib.hid (HT.out.alloc hsT _)⟩
            case measure => simp [intOf]; omega
        · obtain rfl : k = n := by omega
          clear ha1
          go_wp2
          go_ret3
          exact ⟨by rw [meanV, HB.out, HR.out]; have h := HF.out; rw [List.take_of_length_le (by have := HL.out; omega)] at h; rw [h]; rfl, T1.out.trans (HT.out.mono T1.out.size)⟩
set_option maxHeartbeats 2000000 in
theorem wMeaningOf (w : World) (x : Option Addr × Nat × Nat) (R : ∃ ss, Reads w w.heap.size 3 x.1 x.2.1 (sens ss) ∧ x.2.1 ≤ x.2.2 ∧ x.2.2 ≤ maxLen) (kind : Int) (_ : (Lit.int .i64 kind).wf = true) :
    Calls Try.prog 6 #[.slice x.1 x.2.1 x.2.2, .int .i64 kind] w fun e w' => e = .returned (.bool true) ∧ Below w.heap.size w w' := by
  obtain ⟨A, n, c⟩ := x
  obtain ⟨ss, ha, hnc, hcm⟩ := R
  simp only at ha hnc hcm ⊢
  have hm : n ≤ 9223372036854775807 := by unfold maxLen at hcm; omega
  have hsz := szSentenceS_c A n c 1048576 w (by omega) (by omega) hm
  by_cases h20 : 1048576 < n
  · rw [if_pos (by omega)] at hsz
    clear ha
    go_enter Try.func6, Try.ntmps6
    go_wp2_with fail
    refine hsz.mono ?_
    rintro e w1 ⟨rfl, rfl⟩
    clear hsz
    go_wp2
    go_ret
    exact ⟨rfl, Below.refl _ _⟩
  · rw [if_neg (by omega)] at hsz
    have hpos : ¬ (1048576 - (n : Int) < 0) := by omega
    have RA := Lib.hid ha; clear ha
    go_enter Try.func6, Try.ntmps6
    go_wp2_with fail
    refine hsz.mono ?_
    rintro e w1 ⟨rfl, rfl⟩
    clear hsz
    have T := Lib.hid (Below.refl w.heap.size w)
    go_wp2_with fail
    refine (toSentenceS_own A n c _ ss w (RA.out.below T.out) (by have := T.out.size; omega) (by omega)).mono ?_
    rintro e w1 ⟨D1, d1, rfl, O1, B1⟩
    have hs1 := B1.size
    replace T := Lib.hid (T.out.trans (B1.mono T.out.size))
    replace O1 := Lib.hid O1
    clear B1
    go_wp2_with fail
    refine (sMeaningOf_c D1 n d1 _ ss kind w1 O1.out.reads (by omega) (by omega)).mono ?_
    rintro e w2 ⟨rfl, B2⟩
    have hs2 := B2.size
    replace T := Lib.hid (T.out.trans (B2.mono T.out.size))
    replace O1 := Lib.hid (O1.out.below B2 (by omega))
    clear B2
    go_wp2_with fail
    refine (toSentenceS_own A n c _ ss w2 (RA.out.below T.out) (by have := T.out.size; omega) (by omega)).mono ?_
    rintro e w3 ⟨D3, d3, rfl, O3, B3⟩
    have hs3 := B3.size
    replace T := Lib.hid (T.out.trans (B3.mono T.out.size))
    replace O1 := Lib.hid (O1.out.below B3 (by omega))
    replace O3 := Lib.hid O3
    clear B3
    go_wp2_with fail
    refine (iMeaningOf_c D3 n d3 _ ss kind w3 O3.out.reads (by omega) (by omega)).mono ?_
    rintro e w4 ⟨rfl, B4⟩
    have hs4 := B4.size
    replace T := Lib.hid (T.out.trans (B4.mono T.out.size))
    replace O1 := Lib.hid (O1.out.below B4 (by omega))
    replace O3 := Lib.hid (O3.out.below B4 (by omega))
    clear B4
    go_wp2_with fail
    refine (toSentenceS_own A n c _ ss w4 (RA.out.below T.out) (by have := T.out.size; omega) (by omega)).mono ?_
    rintro e w5 ⟨D6, d6, rfl, O6, B5⟩
    have hs5 := B5.size
    replace T := Lib.hid (T.out.trans (B5.mono T.out.size))
    replace O1 := Lib.hid (O1.out.below B5 (by omega))
    replace O3 := Lib.hid (O3.out.below B5 (by omega))
    replace O6 := Lib.hid O6
    clear B5
    go_wp2_with fail
    refine (eqSentenceS_same D3 D6 n n d3 d6 _ _ ss w5 O3.out.reads O6.out.reads (by omega) (by omega) (by omega)).mono ?_
    rintro e w6 ⟨rfl, B6⟩
    have hs6 := B6.size
    replace T := Lib.hid (T.out.trans (B6.mono T.out.size))
    replace O1 := Lib.hid (O1.out.below B6 (by omega))
    replace O3 := Lib.hid (O3.out.below B6 (by omega))
    replace O6 := Lib.hid (O6.out.below B6 (by omega))
    clear B6
    go_wp2
    go_ret
    exact ⟨rfl, T.out⟩
namespace fnExactMeaningOf
set_option maxRecDepth 100000 in
theorem lifted (os : Os) (started : os.Started) (H : Type) (enc : TypeId × Value → H) :
    ReturnsInHanded {} Try.checked os 6 .any (Rows.fnExactMeaningOfSpec.pre6 enc Try.prog Try.f6 Rows.fnExactMeaningOfRow.domain false) (Rows.fnExactMeaningOfSpec.post enc Try.prog Try.f6 false true false false) := by
  refine returnsInHanded_of_change (C := Try.checked) ownKnobNone started (by kernel_rfl) Try.func6
    (ChangeSpec.witness6 (enc := enc) (C := Try.checked) false ⟨#[], #[wit_sens, .int .i64 0], []⟩ 8 (by kernel_rfl) (by kernel_rfl) (by kernel_rfl) (by kernel_rfl)) ?_
  intro W base args ds gs before hval0 hW hcnd _
  have hval : ∀ (j : Nat) t v, Try.f6.params[j]? = some t → args[j]? = some v → Value.okWide Try.prog W .any base t v := hval0
  have hW' := hW
  obtain ⟨p, q, hA0, hV, rfl, hfz, hnd⟩ := hW
  have hA : DataW.TrodAll enc Try.prog W 0 (fun _ => true) true Try.f6.params.toList args.toList ds p := hA0
  rw [Try.params6] at hA hval
  obtain ⟨v0, vs0, d0, ds0, p0, q0, hargs, rfl, rfl, h0, r0⟩ := trodAll_cons hA
  obtain ⟨v1, vs1, d1, ds1, p1, q1, rfl, rfl, rfl, h1, r1⟩ := trodAll_cons r0
  obtain ⟨rfl, rfl, rfl⟩ := trodAll_nil r1
  obtain rfl : args = #[v0, v1] := by cases args; simp_all
  obtain ⟨rfl, rfl⟩ := trodVars_none hV
  have k0 := h0
  have lt0 : ∀ x ∈ p0, x.block < W.heap.size := by obtain ⟨m, hm⟩ := k0; exact DataW.trod_lt m _ _ _ hm
  have k1 := h1
  have lt1 : ∀ x ∈ p1, x.block < W.heap.size := by obtain ⟨m, hm⟩ := k1; exact DataW.trod_lt m _ _ _ hm
  obtain ⟨x0, rfl, R0⟩ := open_sens (hval 0 28 v0 rfl rfl) h0
  obtain ⟨a1, rfl, -, -, wf1⟩ := open_int Try.underlying2 (hval 1 2 v1 rfl rfl) h1
  clear hA0 hval0
  refine (wMeaningOf W x0 R0 a1 wf1).mono fun e W' ⟨he, bel⟩ => ?_
  subst he
  exact ⟨_, rfl, _, _, _, [], _, [], hW', trodAll_mk1 (shut_bool Try.underlying4 _), (trodAll_cons_mk (Below.trod laidOut (by kernel_rfl) (of_decide_eq_true (by kernel_rfl)) k0 bel lt0) (trodAll_cons_mk (Below.trod laidOut (by kernel_rfl) (of_decide_eq_true (by kernel_rfl)) k1 bel lt1) trodAll_mk0)), rfl, bel.frame _, fun h => by cases h⟩
theorem over : Rows.fnExactMeaningOfRow.holds Try.pinned (OpenSpec.ofChange Rows.fnExactMeaningOfSpec) :=
  OpenClaim.holds_of_wide 6 Try.f6 rfl rfl rfl rfl rfl rfl rfl ⟨rfl, rfl, rfl, rfl, rfl⟩ rfl rfl rfl rfl rfl (by kernel_rfl) Try.func6 (by kernel_rfl)
    (of_decide_eq_true (by kernel_rfl)) (by unfold Func.isWrapper; first | (rw [if_pos (by decide +kernel)]; kernel_rfl) | (rw [if_neg (by decide +kernel)]; exact ⟨rfl, rfl⟩))
    (fun os started H enc _ => lifted os started H enc)
theorem proved : Rows.FnExactMeaningOfSaid := over
end fnExactMeaningOf

end Go.Proofs.Ythbnliepgjjbdaa
