/- FnExactBulletinText: the law's walk and its card (printed by wip/tools/laws_bt.py). -/
import Derived.Test.YthbnliepgjjbdaaDoorSnW
import Derived.Test.YthbnliepgjjbdaaDoorOpenS
import Derived.Test.YthbnliepgjjbdaaDoorCd
namespace Go.Proofs.YthbnliepgjjbdaaDoor
open Go.ChangeShapes Go.WideShapes Go.ChangeAt Go.RowKit
set_option linter.unusedVariables false
theorem ne_strX (b : ByteArray) : (!(b.toList == b.toList)) = false := by simp
set_option maxHeartbeats 2000000 in
theorem wBulletinText (w : World) (m0 : Int) (hm0 : w.cell? ⟨0, 0, none⟩ = some (.int .i64 m0)) (ht : Tab10 w) (x : Option Addr × Nat × Nat) (R : ∃ ss, Reads w w.heap.size 3 x.1 x.2.1 (sens ss) ∧ x.2.1 ≤ x.2.2 ∧ x.2.2 ≤ maxLen) (z : Int) (_ : (Lit.int .i64 z).wf = true) :
    Calls Tryd.prog 4 #[.slice x.1 x.2.1 x.2.2, .int .i64 z] w fun e w' => e = .returned (.bool true) ∧ Below w.heap.size w w' := by
  obtain ⟨A, n, c⟩ := x
  obtain ⟨ss, ha, hnc, hcm⟩ := R
  simp only at ha hnc hcm ⊢
  have hm : n ≤ 9223372036854775807 := by unfold maxLen at hcm; omega
  have hsz := szSentenceS_c A n c 1048576 w (by omega) (by omega) hm
  by_cases h20 : 1048576 < n
  · rw [if_pos (by omega)] at hsz
    clear ha hm0 ht
    go_enter Tryd.func4, Tryd.ntmps4
    go_wp2_with fail
    refine hsz.mono ?_
    rintro e w1 ⟨rfl, rfl⟩
    clear hsz
    go_wp2
    go_ret
    exact ⟨rfl, Below.refl _ _⟩
  · rw [if_neg (by omega)] at hsz
    have hpos : ¬ (1048576 - (n : Int) < 0) := by omega
    have RA := Lib.hid ha; clear ha
    have HS := Lib.hid (fun (D : Option Addr) (d B : Nat) (W : World) (hr : Reads W B 3 D n (sens ss)) (hB : B ≤ W.heap.size) => sBulletinText_c D n d B ss z W hr hB (by omega))
    have HI := Lib.hid (fun (D : Option Addr) (d B : Nat) (W : World) (hr : Reads W B 3 D n (sens ss)) (hB : B ≤ W.heap.size) (hW : Below w.heap.size w W) => iBulletinText_c D n d B ss z W hr hB (by omega) m0 ((hW.cell (World.block_lt_of_cell? _ _ hm0)).trans hm0) (ht.below hW))
    generalize btV ss z = v at *
    obtain ⟨tb, tz⟩ := v
    simp only at HS HI
    have hq := ne_strX tb
    clear hm0 ht
    go_enter Tryd.func4, Tryd.ntmps4
    go_wp2_with fail
    refine hsz.mono ?_
    rintro e w1 ⟨rfl, rfl⟩
    clear hsz
    have T := Lib.hid (Below.refl w.heap.size w)
    go_wp2_with fail
    refine (toSentenceS_own A n c _ ss w (RA.out.below T.out) (by have := T.out.size; omega) (by omega)).mono ?_
    rintro e w1 ⟨D1, d1, rfl, O1, B1⟩
    have hs1 := B1.size
    replace T := Lib.hid (T.out.trans (B1.mono T.out.size))
    replace O1 := Lib.hid O1
    clear B1
    go_wp2_with fail
    refine (HS.out D1 d1 _ w1 O1.out.reads (by omega)).mono ?_
    rintro e w2 ⟨rfl, B2⟩
    have hs2 := B2.size
    replace T := Lib.hid (T.out.trans (B2.mono T.out.size))
    replace O1 := Lib.hid (O1.out.below B2 (by omega))
    clear B2
    go_wp2_with fail
    refine (toSentenceS_own A n c _ ss w2 (RA.out.below T.out) (by have := T.out.size; omega) (by omega)).mono ?_
    rintro e w3 ⟨D3, d3, rfl, O3, B3⟩
    have hs3 := B3.size
    replace T := Lib.hid (T.out.trans (B3.mono T.out.size))
    replace O1 := Lib.hid (O1.out.below B3 (by omega))
    replace O3 := Lib.hid O3
    clear B3
    go_wp2_with fail
    refine (HI.out D3 d3 _ w3 O3.out.reads (by omega) T.out).mono ?_
    rintro e w4 ⟨rfl, B4⟩
    have hs4 := B4.size
    replace T := Lib.hid (T.out.trans (B4.mono T.out.size))
    replace O1 := Lib.hid (O1.out.below B4 (by omega))
    replace O3 := Lib.hid (O3.out.below B4 (by omega))
    clear B4
    go_wp2_with fail
    refine (toSentenceS_own A n c _ ss w4 (RA.out.below T.out) (by have := T.out.size; omega) (by omega)).mono ?_
    rintro e w5 ⟨D6, d6, rfl, O6, B5⟩
    have hs5 := B5.size
    replace T := Lib.hid (T.out.trans (B5.mono T.out.size))
    replace O1 := Lib.hid (O1.out.below B5 (by omega))
    replace O3 := Lib.hid (O3.out.below B5 (by omega))
    replace O6 := Lib.hid O6
    clear B5
    go_wp2_with fail
    refine (eqSentenceS_same D3 D6 n n d3 d6 _ _ ss w5 O3.out.reads O6.out.reads (by omega) (by omega) (by omega)).mono ?_
    rintro e w6 ⟨rfl, B6⟩
    have hs6 := B6.size
    replace T := Lib.hid (T.out.trans (B6.mono T.out.size))
    replace O1 := Lib.hid (O1.out.below B6 (by omega))
    replace O3 := Lib.hid (O3.out.below B6 (by omega))
    replace O6 := Lib.hid (O6.out.below B6 (by omega))
    clear B6
    go_wp2
    go_ret
    exact ⟨rfl, T.out⟩
namespace fnExactBulletinText
theorem own : ownKnob Tryd.prog.godebug = none := by kernel_rfl
set_option maxRecDepth 100000 in
theorem contract (H : Type) (enc : TypeId × Value → H) (W : World) (base : Nat) (args : Array Value) (ds gs : List (DataW H)) (before : List MemPlace)
    (hval : ∀ (j : Nat) t v, Tryd.f4.params[j]? = some t → args[j]? = some v → Value.okWide Tryd.prog W .any base t v)
    (hW : DataW.Whole enc Tryd.prog Tryd.f4.params.toList Rows.fnExactBulletinTextSpec.vars false W args.toList ds gs before) (hL : laidMetH Tryd.prog Rows.fnExactBulletinTextRow.laid W) (hsh : W.ShapedOpen Tryd.prog) :
    Calls Tryd.prog 4 args W fun e W' => ∃ v, e = .returned v ∧ Rows.fnExactBulletinTextSpec.post enc Tryd.prog Tryd.f4 false true false false W args v W' := by
  have hW' := hW
  obtain ⟨p, q, hA0, hV, rfl, hfz, hnd⟩ := hW
  have hA : DataW.TrodAll enc Tryd.prog W 0 (fun _ => true) true Tryd.f4.params.toList args.toList ds p := hA0
  rw [Tryd.params4] at hA hval
  obtain ⟨v0, vs0, d0, ds0, p0, q0, hargs, rfl, rfl, h0, r0⟩ := trodAll_cons hA
  obtain ⟨v1, vs1, d1, ds1, p1, q1, rfl, rfl, rfl, h1, r1⟩ := trodAll_cons r0
  obtain ⟨rfl, rfl, rfl⟩ := trodAll_nil r1
  obtain rfl : args = #[v0, v1] := by cases args; simp_all
  obtain ⟨rfl, rfl⟩ := trodVars_none hV
  have k0 := h0
  have lt0 : ∀ x ∈ p0, x.block < W.heap.size := by obtain ⟨m, hm⟩ := k0; exact DataW.trod_lt m _ _ _ hm
  have k1 := h1
  have lt1 : ∀ x ∈ p1, x.block < W.heap.size := by obtain ⟨m, hm⟩ := k1; exact DataW.trod_lt m _ _ _ hm
  obtain ⟨x0, rfl, R0⟩ := open_sens (hval 0 29 v0 rfl rfl) h0
  obtain ⟨a1, rfl, -, -, wf1⟩ := open_int Tryd.underlying2 (hval 1 2 v1 rfl rfl) h1
  clear hA0
  have hm0 := cell_m0 W hsh
  have htab : Tab10 W := tab10_of (hL.filter fun x => x.1 == "internal/strconv.uint64pow10")
  obtain ⟨m0, hm0⟩ := hm0
  refine (wBulletinText W m0 hm0 htab x0 R0 a1 wf1).mono fun e W' ⟨he, bel⟩ => ?_
  subst he
  exact ⟨_, rfl, _, _, _, [], _, [], hW', trodAll_mk1 (shut_bool Tryd.underlying4 _), (trodAll_cons_mk (Below.trod laidOut (by kernel_rfl) (of_decide_eq_true (by kernel_rfl)) k0 bel lt0) (trodAll_cons_mk (Below.trod laidOut (by kernel_rfl) (of_decide_eq_true (by kernel_rfl)) k1 bel lt1) trodAll_mk0)), rfl, bel.frame _, fun h => by cases h⟩
noncomputable def low : Nat := (World.holding Tryd.prog default ⟨#[], #[], []⟩).heap.size
noncomputable def laidWorld (os : Os) : World := { World.holding Tryd.prog os ⟨#[], #[], []⟩ with heap := ((((((World.holding Tryd.prog os ⟨#[], #[], []⟩).heap.modify 6 (layCells (flatD 8 Rows.laid_math_bits_deBruijn32tab))).modify 7 (layCells (flatD 8 Rows.laid_math_bits_deBruijn64tab))).modify 3 (layCells (flatD 8 Rows.laid_internal_strconv_uint64pow10))).modify 2 (layCells (flatD 8 Rows.laid_unicode_utf8_acceptRanges))).modify 1 (layCells (flatD 8 Rows.laid_unicode_utf8_first))) }
theorem laid_met (os : Os) : laidMet Tryd.prog Rows.fnExactBulletinTextRow.laid ((laidWorld os).forCall (fun _ _ => 0) ⟨#[], #[wit_sens, .int .i64 0], []⟩).memory :=
  laidMet_of_run3 8 (by kernel_rfl) (by kernel_rfl) (by kernel_rfl)
theorem reads (os : Os) {H : Type} (enc : TypeId × Value → H) : ∃ places, DataW.whole enc Tryd.prog ((laidWorld os).forCall (fun _ _ => 0) ⟨#[], #[wit_sens, .int .i64 0], []⟩).memory Tryd.f4.params.toList Rows.fnExactBulletinTextSpec.vars false #[wit_sens, .int .i64 0].toList 8 = some ([.nil, .lit (.int .i64 0)], [], places) :=
  ⟨[], by kernel_rfl⟩
set_option maxRecDepth 100000 in
theorem lifted (os : Os) (started : os.Started) (H : Type) (enc : TypeId × Value → H) (F : Stop.Interp) :
    ReturnsInHanded {} Tryd.checked os 4 .any ((OpenSpec.ofChange Rows.fnExactBulletinTextSpec).preRow enc Tryd.prog Tryd.f4 Rows.fnExactBulletinTextRow.domain false Rows.fnExactBulletinTextRow.laid) (((OpenSpec.ofChange Rows.fnExactBulletinTextSpec).at F).post enc Tryd.prog Tryd.f4 false true false false) := by
  obtain ⟨places, hx⟩ := reads os enc
  refine returnsInHanded_of_row (C := Tryd.checked) (s := OpenSpec.ofChange Rows.fnExactBulletinTextSpec) own started (by kernel_rfl) Tryd.func4
    (witness_row_at (enc := enc) (C := Tryd.checked) false (laidWorld os) #[wit_sens, .int .i64 0] rfl (by kernel_rfl) (by kernel_rfl) (by kernel_rfl)
      (OpenSpec.preRow_of_cond 8 hx (by kernel_rfl) (fun k hk => by cases hk) (by kernel_rfl) (laid_met os))) ?_
  intro W base args ds gs before hval hW _ _ _ hL hsh _
  exact contract H enc W base args ds gs before hval hW hL hsh
theorem said : Rows.FnExactBulletinTextSaid :=
  OpenClaim.holds_of_cond 4 Tryd.f4 rfl rfl rfl rfl rfl rfl rfl ⟨rfl, rfl, rfl, rfl, rfl⟩ rfl rfl rfl rfl rfl (by kernel_rfl) Tryd.func4 (by kernel_rfl)
    (of_decide_eq_true (by kernel_rfl)) (by unfold Func.isWrapper; first | (rw [if_pos (by decide +kernel)]; kernel_rfl) | (rw [if_neg (by decide +kernel)]; exact ⟨rfl, rfl⟩))
    (fun os started H enc _ F => by rw [OpenClaim.pre_eq_preRow]; exact lifted os started H enc F)
theorem plain (f : FuncId) (fn : Func) (hf : Tryd.pinned.checked.prog.funcNamed "loop.example/g01013/laws.FnExactBulletinText" = some f) (hfn : Tryd.pinned.checked.prog.funcs[f]? = some fn) :
    true = Tryd.pinned.checked.prog.looks [] ∧ ∀ (j : Nat) t, fn.params[j]? = some t → Tryd.pinned.checked.prog.wantsStandIn t = false := by
  obtain rfl : f = 4 := Option.some.inj ((show Tryd.prog.funcNamed "loop.example/g01013/laws.FnExactBulletinText" = some 4 by kernel_rfl).symm.trans hf) |>.symm
  obtain rfl : fn = Tryd.f4 := (Option.some.inj (Tryd.func4.symm.trans hfn)).symm
  refine ⟨by kernel_rfl, fun j t ht => ?_⟩
  rw [Tryd.params4] at ht
  have hm := Array.mem_of_getElem? ht
  simp only [List.mem_toArray, List.mem_cons, List.not_mem_nil, or_false] at hm
  rcases hm with rfl | rfl
  · exact (show Tryd.prog.wantsStandIn 29 = false by kernel_rfl)
  · exact (show Tryd.prog.wantsStandIn 2 = false by kernel_rfl)
theorem proved : Rows.FnExactBulletinTextCardSaid :=
  Claim7.holds_tied_plain_at .later [] _ _ _ _ said (fun _ h => by cases h) (by kernel_rfl) (fun _ h => by cases h) fnExactBulletinText_row_tie rfl ⟨rfl, rfl⟩ (by kernel_rfl) rfl plain (by kernel_rfl)
end fnExactBulletinText
end Go.Proofs.YthbnliepgjjbdaaDoor
