/- FnExactSentenceText: the law's walk and its card. -/
import Derived.Test.YthbnliepgjjbdaaDoorSnH
import Derived.Test.YthbnliepgjjbdaaDoorCd
namespace Go.Proofs.YthbnliepgjjbdaaDoor
open Go.ChangeShapes Go.WideShapes Go.ChangeAt Go.RowKit
open Go.ChangeMaps (open_string shut_string)
set_option linter.unusedVariables false
theorem ne_str (b : ByteArray) : (!(b.toList == b.toList)) = false := by simp
set_option maxHeartbeats 1000000 in
theorem wSentenceText (w : World) (m0 : Int) (hm0 : w.cell? ⟨0, 0, none⟩ = some (.int .i64 m0)) (ht : Tab10 w) (x : Int × Int × Int) (R : (Lit.int .i64 x.1).wf = true ∧ (Lit.int .i64 x.2.1).wf = true ∧ (Lit.int .i64 x.2.2).wf = true)
    (n : Int) (wn : (Lit.int .i64 n).wf = true) :
    Calls Tryd.prog 3 #[.agg #[.int .i64 x.1, .int .i64 x.2.1, .int .i64 x.2.2], .int .i64 n] w fun e w' => e = .returned (.bool true) ∧ Below w.heap.size w w' := by
  obtain ⟨k, a, b⟩ := x
  have HM : Hid (∀ W, Below w.heap.size w W → W.cell? ⟨0, 0, none⟩ = some (.int .i64 m0)) := Lib.hid (fun W hW => (hW.cell (World.block_lt_of_cell? _ _ hm0)).trans hm0)
  have HTB := Lib.hid (fun W (hW : Below w.heap.size w W) => ht.below hW)
  clear R wn hm0 ht
  go_enter Tryd.func3, Tryd.ntmps3
  go_wp2_with fail
  refine (toSentence_c k a b _).mono ?_
  rintro e w1 ⟨rfl, B1⟩
  have hs1 : w.heap.size + 1 ≤ w1.heap.size := by have := B1.size; simpa using this
  have K1 : Hid (Blk w1 w.heap.size 23 #[.int .i64 k, .int .i64 a, .int .i64 b]) := Lib.hid ((Blk.new w _ _).below B1 (by simp))
  have T1 := Lib.hid (((Below.refl w.heap.size w).alloc (Nat.le_refl _) _).trans (B1.mono (by simp)))
  clear B1
  go_wp2_with fail
  refine (sSentenceText_c ⟨k, a, b⟩ n _).mono ?_
  rintro e w2 ⟨rfl, B2⟩
  have hs2 : w.heap.size + 1 ≤ w2.heap.size := by have := B2.size; omega
  have K2 := Lib.hid (K1.out.below B2 (by omega))
  have T2 := Lib.hid (T1.out.trans (B2.mono (by omega)))
  clear B2 K1 T1 hs1
  have c0 : w2.cell? ⟨w.heap.size, 0, none⟩ = some (.int .i64 k) := (K2.out.cell 0).trans rfl
  have c1 : w2.cell? ⟨w.heap.size, 1, none⟩ = some (.int .i64 a) := (K2.out.cell 1).trans rfl
  have c2 : w2.cell? ⟨w.heap.size, 2, none⟩ = some (.int .i64 b) := (K2.out.cell 2).trans rfl
  go_wp2_with fail
  refine (toSentence_c k a b _).mono ?_
  rintro e w3 ⟨rfl, B3⟩
  have T3 := Lib.hid (T2.out.trans (B3.mono (by omega)))
  have hs3 := B3.size
  clear B3
  go_wp2_with fail
  refine (iSentenceText_c ⟨k, a, b⟩ n m0 _ (HM.out _ T3.out) (HTB.out _ T3.out)).mono ?_
  rintro e w4 ⟨rfl, B4⟩
  have T4 := Lib.hid (T3.out.trans (B4.mono (by omega)))
  clear B4
  generalize sentV ⟨k, a, b⟩ n = v
  obtain ⟨t, z⟩ := v
  simp only
  have hq := ne_str t
  go_wp2
  go_ret
  exact ⟨rfl, T4.out⟩
namespace fnExactSentenceText
theorem own : ownKnob Tryd.prog.godebug = none := by kernel_rfl
set_option maxRecDepth 100000 in
theorem contract (H : Type) (enc : TypeId × Value → H) (W : World) (base : Nat) (args : Array Value) (ds gs : List (DataW H)) (before : List MemPlace)
    (hval : ∀ (j : Nat) t v, Tryd.f3.params[j]? = some t → args[j]? = some v → Value.okWide Tryd.prog W .any base t v)
    (hW : DataW.Whole enc Tryd.prog Tryd.f3.params.toList Rows.fnExactSentenceTextSpec.vars false W args.toList ds gs before) (hL : laidMetH Tryd.prog Rows.fnExactSentenceTextRow.laid W) (hsh : W.ShapedOpen Tryd.prog) :
    Calls Tryd.prog 3 args W fun e W' => ∃ v, e = .returned v ∧ Rows.fnExactSentenceTextSpec.post enc Tryd.prog Tryd.f3 false true false false W args v W' := by
  have hW' := hW
  obtain ⟨p, q, hA0, hV, rfl, hfz, hnd⟩ := hW
  have hA : DataW.TrodAll enc Tryd.prog W 0 (fun _ => true) true Tryd.f3.params.toList args.toList ds p := hA0
  rw [Tryd.params3] at hA hval
  obtain ⟨v0, vs0, d0, ds0, p0, q0, hargs, rfl, rfl, h0, r0⟩ := trodAll_cons hA
  obtain ⟨v1, vs1, d1, ds1, p1, q1, rfl, rfl, rfl, h1, r1⟩ := trodAll_cons r0
  obtain ⟨rfl, rfl, rfl⟩ := trodAll_nil r1
  obtain rfl : args = #[v0, v1] := by cases args; simp_all
  obtain ⟨rfl, rfl⟩ := trodVars_none hV
  have k0 := h0
  have lt0 : ∀ x ∈ p0, x.block < W.heap.size := by obtain ⟨m, hm⟩ := k0; exact DataW.trod_lt m _ _ _ hm
  have k1 := h1
  have lt1 : ∀ x ∈ p1, x.block < W.heap.size := by obtain ⟨m, hm⟩ := k1; exact DataW.trod_lt m _ _ _ hm
  obtain ⟨x0, rfl, R0⟩ := open_sen (hval 0 23 v0 rfl rfl) h0
  obtain ⟨a1, rfl, -, -, wf1⟩ := open_int Tryd.underlying2 (hval 1 2 v1 rfl rfl) h1
  clear hA0
  have hm0 := cell_m0 W hsh
  have htab : Tab10 W := tab10_of (hL.filter fun x => x.1 == "internal/strconv.uint64pow10")
  obtain ⟨m0, hm0⟩ := hm0
  refine (wSentenceText W m0 hm0 htab x0 R0 a1 wf1).mono fun e W' ⟨he, bel⟩ => ?_
  subst he
  exact ⟨_, rfl, _, _, _, [], _, [], hW', trodAll_mk1 (shut_bool Tryd.underlying4 _), (trodAll_cons_mk (Below.trod laidOut (by kernel_rfl) (of_decide_eq_true (by kernel_rfl)) k0 bel lt0) (trodAll_cons_mk (Below.trod laidOut (by kernel_rfl) (of_decide_eq_true (by kernel_rfl)) k1 bel lt1) trodAll_mk0)), rfl, bel.frame _, fun h => by cases h⟩
noncomputable def low : Nat := (World.holding Tryd.prog default ⟨#[], #[], []⟩).heap.size
noncomputable def laidWorld (os : Os) : World := { World.holding Tryd.prog os ⟨#[], #[], []⟩ with heap := ((((((World.holding Tryd.prog os ⟨#[], #[], []⟩).heap.modify 6 (layCells (flatD 8 Rows.laid_math_bits_deBruijn32tab))).modify 7 (layCells (flatD 8 Rows.laid_math_bits_deBruijn64tab))).modify 3 (layCells (flatD 8 Rows.laid_internal_strconv_uint64pow10))).modify 2 (layCells (flatD 8 Rows.laid_unicode_utf8_acceptRanges))).modify 1 (layCells (flatD 8 Rows.laid_unicode_utf8_first))) }
theorem laid_met (os : Os) : laidMet Tryd.prog Rows.fnExactSentenceTextRow.laid ((laidWorld os).forCall (fun _ _ => 0) ⟨#[], #[wit_sen, .int .i64 0], []⟩).memory :=
  laidMet_of_run3 8 (by kernel_rfl) (by kernel_rfl) (by kernel_rfl)
theorem reads (os : Os) {H : Type} (enc : TypeId × Value → H) : ∃ places, DataW.whole enc Tryd.prog ((laidWorld os).forCall (fun _ _ => 0) ⟨#[], #[wit_sen, .int .i64 0], []⟩).memory Tryd.f3.params.toList Rows.fnExactSentenceTextSpec.vars false #[wit_sen, .int .i64 0].toList 8 = some ([.agg [.lit (.int .i64 0), .lit (.int .i64 0), .lit (.int .i64 0)], .lit (.int .i64 0)], [], places) :=
  ⟨[], by kernel_rfl⟩
set_option maxRecDepth 100000 in
theorem lifted (os : Os) (started : os.Started) (H : Type) (enc : TypeId × Value → H) (F : Stop.Interp) :
    ReturnsInHanded {} Tryd.checked os 3 .any ((OpenSpec.ofChange Rows.fnExactSentenceTextSpec).preRow enc Tryd.prog Tryd.f3 Rows.fnExactSentenceTextRow.domain false Rows.fnExactSentenceTextRow.laid) (((OpenSpec.ofChange Rows.fnExactSentenceTextSpec).at F).post enc Tryd.prog Tryd.f3 false true false false) := by
  obtain ⟨places, hx⟩ := reads os enc
  refine returnsInHanded_of_row (C := Tryd.checked) (s := OpenSpec.ofChange Rows.fnExactSentenceTextSpec) own started (by kernel_rfl) Tryd.func3
    (witness_row_at (enc := enc) (C := Tryd.checked) false (laidWorld os) #[wit_sen, .int .i64 0] rfl (by kernel_rfl) (by kernel_rfl) (by kernel_rfl)
      (OpenSpec.preRow_of_cond 8 hx (by kernel_rfl) (fun k hk => by cases hk) (by kernel_rfl) (laid_met os))) ?_
  intro W base args ds gs before hval hW _ _ _ hL hsh _
  exact contract H enc W base args ds gs before hval hW hL hsh
theorem said : Rows.FnExactSentenceTextSaid :=
  OpenClaim.holds_of_cond 3 Tryd.f3 rfl rfl rfl rfl rfl rfl rfl ⟨rfl, rfl, rfl, rfl, rfl⟩ rfl rfl rfl rfl rfl (by kernel_rfl) Tryd.func3 (by kernel_rfl)
    (of_decide_eq_true (by kernel_rfl)) (by unfold Func.isWrapper; first | (rw [if_pos (by decide +kernel)]; kernel_rfl) | (rw [if_neg (by decide +kernel)]; exact ⟨rfl, rfl⟩))
    (fun os started H enc _ F => by rw [OpenClaim.pre_eq_preRow]; exact lifted os started H enc F)
theorem plain (f : FuncId) (fn : Func) (hf : Tryd.pinned.checked.prog.funcNamed "loop.example/g01013/laws.FnExactSentenceText" = some f) (hfn : Tryd.pinned.checked.prog.funcs[f]? = some fn) :
    true = Tryd.pinned.checked.prog.looks [] ∧ ∀ (j : Nat) t, fn.params[j]? = some t → Tryd.pinned.checked.prog.wantsStandIn t = false := by
  obtain rfl : f = 3 := Option.some.inj ((show Tryd.prog.funcNamed "loop.example/g01013/laws.FnExactSentenceText" = some 3 by kernel_rfl).symm.trans hf) |>.symm
  obtain rfl : fn = Tryd.f3 := (Option.some.inj (Tryd.func3.symm.trans hfn)).symm
  refine ⟨by kernel_rfl, fun j t ht => ?_⟩
  rw [Tryd.params3] at ht
  have hm := Array.mem_of_getElem? ht
  simp only [List.mem_toArray, List.mem_cons, List.not_mem_nil, or_false] at hm
  rcases hm with rfl | rfl
  · exact (show Tryd.prog.wantsStandIn 23 = false by kernel_rfl)
  · exact (show Tryd.prog.wantsStandIn 2 = false by kernel_rfl)
theorem proved : Rows.FnExactSentenceTextCardSaid :=
  Claim7.holds_tied_plain_at .later [] _ _ _ _ said (fun _ h => by cases h) (by kernel_rfl) (fun _ h => by cases h) fnExactSentenceText_row_tie rfl ⟨rfl, rfl⟩ (by kernel_rfl) rfl plain (by kernel_rfl)
end fnExactSentenceText
end Go.Proofs.YthbnliepgjjbdaaDoor
