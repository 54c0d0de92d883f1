/- FnExactReadSentence, FnExactTranslateText: the laws' walks and their cards. -/
import Derived.Test.YthbnliepgjjbdaaDoorSnT
import Derived.Test.YthbnliepgjjbdaaDoorCd
namespace Go.Proofs.YthbnliepgjjbdaaDoor
open Go.ChangeShapes Go.WideShapes Go.ChangeAt Go.RowKit
open Go.ChangeMaps (open_string shut_string)
set_option linter.unusedVariables false
theorem ne_strU (b : ByteArray) : (!(b.toList == b.toList)) = false := by simp
set_option maxHeartbeats 1000000 in
theorem wReadSentence (w : World) (he : Env w) (s : ByteArray) (ws : s.size ≤ maxLen) (n : Int) (wn : (Lit.int .i64 n).wf = true) :
    Calls Tryd.prog 7 #[.string s, .int .i64 n] w fun e w' => e = .returned (.bool true) ∧ Below w.heap.size w w' := by
  clear ws wn
  by_cases hs : 1048576 < s.size
  · have hs' : (1048576 : Int) < (s.size : Int) := by omega
    clear he
    go_enter Tryd.func7, Tryd.ntmps7
    go_wp2
    go_ret
    exact ⟨rfl, Below.refl _ _⟩
  · have hs' : ¬ (1048576 : Int) < (s.size : Int) := by omega
    have hsz : s.size ≤ 1048576 := by omega
    have HS := Lib.hid (sReadSentence_c s n hsz w)
    have HI := Lib.hid (fun W (hW : Below w.heap.size w W) => iReadSentence_c s n hsz W (he.below hW))
    generalize rsV n s = v at *
    obtain ⟨⟨k, a, b⟩, z⟩ := v
    simp only [Sen.val] at HS HI
    clear he hs
    go_enter Tryd.func7, Tryd.ntmps7
    go_wp2_with fail
    refine HS.out.mono ?_
    rintro e w1 ⟨rfl, B⟩
    have T1 := Lib.hid B
    have hs1 := B.size
    clear B HS
    go_upto_region 4 with (fail)
    obtain ⟨w2, hw2⟩ : ∃ W, W = w1.alloc (.cells #[.int .i64 k, .int .i64 a, .int .i64 b] 26) := ⟨_, rfl⟩
    have T2 : Hid (Below w.heap.size w w2) := Lib.hid (by rw [hw2]; exact T1.out.alloc hs1 _)
    have HX2 : Hid (Blk w2 w1.heap.size 26 #[.int .i64 k, .int .i64 a, .int .i64 b]) := Lib.hid (by rw [hw2]; exact Blk.new _ _ _)
    rw [← hw2]
    clear hw2 T1
    go_wp2_with fail
    refine (HI.out _ T2.out).mono ?_
    rintro e w3 ⟨rfl, B⟩
    have T3 := Lib.hid (T2.out.trans (B.mono T2.out.size))
    have HX3 := Lib.hid (HX2.out.below B HX2.out.lt)
    have hs3 := T3.out.size
    clear B HX2 T2 HI
    go_upto_region 5 with (fail)
    obtain ⟨w4, hw4⟩ : ∃ W, W = w3.alloc (.cells #[.int .i64 k, .int .i64 a, .int .i64 b] 26) := ⟨_, rfl⟩
    have T4 : Hid (Below w.heap.size w w4) := Lib.hid (by rw [hw4]; exact T3.out.alloc hs3 _)
    have HX4 : Hid (Blk w4 w1.heap.size 26 #[.int .i64 k, .int .i64 a, .int .i64 b]) := Lib.hid (by rw [hw4]; exact HX3.out.alloc _)
    have HY4 : Hid (Blk w4 w3.heap.size 26 #[.int .i64 k, .int .i64 a, .int .i64 b]) := Lib.hid (by rw [hw4]; exact Blk.new _ _ _)
    rw [← hw4]
    clear hw4 T3 HX3
    have c0 : w4.cell? ⟨w1.heap.size, 0, none⟩ = some (.int .i64 k) := HX4.out.cell 0
    have c1 : w4.cell? ⟨w1.heap.size, 1, none⟩ = some (.int .i64 a) := HX4.out.cell 1
    have c2 : w4.cell? ⟨w1.heap.size, 2, none⟩ = some (.int .i64 b) := HX4.out.cell 2
    have d0 : w4.cell? ⟨w3.heap.size, 0, none⟩ = some (.int .i64 k) := HY4.out.cell 0
    have d1 : w4.cell? ⟨w3.heap.size, 1, none⟩ = some (.int .i64 a) := HY4.out.cell 1
    have d2 : w4.cell? ⟨w3.heap.size, 2, none⟩ = some (.int .i64 b) := HY4.out.cell 2
    have HE := Lib.hid (fun W => eqSentence_self ⟨k, a, b⟩ W)
    simp only [Sen.val] at HE
    go_wp2_with fail
    refine (HE.out _).mono ?_
    rintro e w5 ⟨rfl, B⟩
    have T5 := Lib.hid (T4.out.trans (B.mono T4.out.size))
    clear B
    go_wp2
    go_ret
    exact ⟨rfl, T5.out⟩
namespace fnExactReadSentence
theorem own : ownKnob Tryd.prog.godebug = none := by kernel_rfl
set_option maxRecDepth 100000 in
theorem contract (H : Type) (enc : TypeId × Value → H) (W : World) (base : Nat) (args : Array Value) (ds gs : List (DataW H)) (before : List MemPlace)
    (hval : ∀ (j : Nat) t v, Tryd.f7.params[j]? = some t → args[j]? = some v → Value.okWide Tryd.prog W .any base t v)
    (hW : DataW.Whole enc Tryd.prog Tryd.f7.params.toList Rows.fnExactReadSentenceSpec.vars false W args.toList ds gs before) (hL : laidMetH Tryd.prog Rows.fnExactReadSentenceRow.laid W) (hsh : W.ShapedOpen Tryd.prog) :
    Calls Tryd.prog 7 args W fun e W' => ∃ v, e = .returned v ∧ Rows.fnExactReadSentenceSpec.post enc Tryd.prog Tryd.f7 false true false false W args v W' := by
  have hW' := hW
  obtain ⟨p, q, hA0, hV, rfl, hfz, hnd⟩ := hW
  have hA : DataW.TrodAll enc Tryd.prog W 0 (fun _ => true) true Tryd.f7.params.toList args.toList ds p := hA0
  rw [Tryd.params7] at hA hval
  obtain ⟨v0, vs0, d0, ds0, p0, q0, hargs, rfl, rfl, h0, r0⟩ := trodAll_cons hA
  obtain ⟨v1, vs1, d1, ds1, p1, q1, rfl, rfl, rfl, h1, r1⟩ := trodAll_cons r0
  obtain ⟨rfl, rfl, rfl⟩ := trodAll_nil r1
  obtain rfl : args = #[v0, v1] := by cases args; simp_all
  obtain ⟨rfl, rfl⟩ := trodVars_none hV
  have k0 := h0
  have lt0 : ∀ x ∈ p0, x.block < W.heap.size := by obtain ⟨m, hm⟩ := k0; exact DataW.trod_lt m _ _ _ hm
  have k1 := h1
  have lt1 : ∀ x ∈ p1, x.block < W.heap.size := by obtain ⟨m, hm⟩ := k1; exact DataW.trod_lt m _ _ _ hm
  obtain ⟨a0, rfl, -, -, wf0⟩ := Go.ChangeMaps.open_string Tryd.underlying9 (hval 0 9 v0 rfl rfl) h0
  obtain ⟨a1, rfl, -, -, wf1⟩ := open_int Tryd.underlying2 (hval 1 2 v1 rfl rfl) h1
  clear hA0
  have hm0 := cell_m0 W hsh
  have htab : Tab10 W := tab10_of (hL.filter fun x => x.1 == "internal/strconv.uint64pow10")
  have henv : Env W := ⟨hm0, htab, errV_of gSyn gSynT (hL.filter fun x => x.1 == "strconv.ErrSyntax"), errV_of gRan gRanT (hL.filter fun x => x.1 == "strconv.ErrRange")⟩
  refine (wReadSentence W henv a0 wf0 a1 wf1).mono fun e W' ⟨he, bel⟩ => ?_
  subst he
  exact ⟨_, rfl, _, _, _, [], _, [], hW', trodAll_mk1 (shut_bool Tryd.underlying4 _), (trodAll_cons_mk (Below.trod laidOut (by kernel_rfl) (of_decide_eq_true (by kernel_rfl)) k0 bel lt0) (trodAll_cons_mk (Below.trod laidOut (by kernel_rfl) (of_decide_eq_true (by kernel_rfl)) k1 bel lt1) trodAll_mk0)), rfl, bel.frame _, fun h => by cases h⟩
noncomputable def low : Nat := (World.holding Tryd.prog default ⟨#[], #[], []⟩).heap.size
noncomputable def laidWorld (os : Os) : World := { World.holding Tryd.prog os ⟨#[.cells #[.string ⟨#[105, 110, 118, 97, 108, 105, 100, 32, 115, 121, 110, 116, 97, 120]⟩] 159, .cells #[.string ⟨#[118, 97, 108, 117, 101, 32, 111, 117, 116, 32, 111, 102, 32, 114, 97, 110, 103, 101]⟩] 159], #[], []⟩ with heap := ((((((((World.holding Tryd.prog os ⟨#[.cells #[.string ⟨#[105, 110, 118, 97, 108, 105, 100, 32, 115, 121, 110, 116, 97, 120]⟩] 159, .cells #[.string ⟨#[118, 97, 108, 117, 101, 32, 111, 117, 116, 32, 111, 102, 32, 114, 97, 110, 103, 101]⟩] 159], #[], []⟩).heap.modify 6 (layCells (flatD 8 Rows.laid_math_bits_deBruijn32tab))).modify 7 (layCells (flatD 8 Rows.laid_math_bits_deBruijn64tab))).modify 3 (layCells (flatD 8 Rows.laid_internal_strconv_uint64pow10))).modify 2 (layCells (flatD 8 Rows.laid_unicode_utf8_acceptRanges))).modify 5 (layCells [.iface 157 (.pointer (some ⟨low + 1, 0, none⟩))])).modify 4 (layCells [.iface 157 (.pointer (some ⟨low, 0, none⟩))])).modify 1 (layCells (flatD 8 Rows.laid_unicode_utf8_first))) }
theorem laid_met (os : Os) : laidMet Tryd.prog Rows.fnExactReadSentenceRow.laid ((laidWorld os).forCall (fun _ _ => 0) ⟨#[], #[.string ⟨#[]⟩, .int .i64 0], []⟩).memory :=
  laidMet_of_run3 8 (by kernel_rfl) (by kernel_rfl) (by kernel_rfl)
theorem reads (os : Os) {H : Type} (enc : TypeId × Value → H) : ∃ places, DataW.whole enc Tryd.prog ((laidWorld os).forCall (fun _ _ => 0) ⟨#[], #[.string ⟨#[]⟩, .int .i64 0], []⟩).memory Tryd.f7.params.toList Rows.fnExactReadSentenceSpec.vars false #[.string ⟨#[]⟩, .int .i64 0].toList 8 = some ([.lit (.string []), .lit (.int .i64 0)], [], places) :=
  ⟨[], by kernel_rfl⟩
set_option maxRecDepth 100000 in
theorem lifted (os : Os) (started : os.Started) (H : Type) (enc : TypeId × Value → H) (F : Stop.Interp) :
    ReturnsInHanded {} Tryd.checked os 7 .any ((OpenSpec.ofChange Rows.fnExactReadSentenceSpec).preRow enc Tryd.prog Tryd.f7 Rows.fnExactReadSentenceRow.domain false Rows.fnExactReadSentenceRow.laid) (((OpenSpec.ofChange Rows.fnExactReadSentenceSpec).at F).post enc Tryd.prog Tryd.f7 false true false false) := by
  obtain ⟨places, hx⟩ := reads os enc
  refine returnsInHanded_of_row (C := Tryd.checked) (s := OpenSpec.ofChange Rows.fnExactReadSentenceSpec) own started (by kernel_rfl) Tryd.func7
    (witness_row_at (enc := enc) (C := Tryd.checked) false (laidWorld os) #[.string ⟨#[]⟩, .int .i64 0] rfl (by kernel_rfl) (by kernel_rfl) (by kernel_rfl)
      (OpenSpec.preRow_of_cond 8 hx (by kernel_rfl) (fun k hk => by cases hk) (by kernel_rfl) (laid_met os))) ?_
  intro W base args ds gs before hval hW _ _ _ hL hsh _
  exact contract H enc W base args ds gs before hval hW hL hsh
theorem said : Rows.FnExactReadSentenceSaid :=
  OpenClaim.holds_of_cond 7 Tryd.f7 rfl rfl rfl rfl rfl rfl rfl ⟨rfl, rfl, rfl, rfl, rfl⟩ rfl rfl rfl rfl rfl (by kernel_rfl) Tryd.func7 (by kernel_rfl)
    (of_decide_eq_true (by kernel_rfl)) (by unfold Func.isWrapper; first | (rw [if_pos (by decide +kernel)]; kernel_rfl) | (rw [if_neg (by decide +kernel)]; exact ⟨rfl, rfl⟩))
    (fun os started H enc _ F => by rw [OpenClaim.pre_eq_preRow]; exact lifted os started H enc F)
theorem plain (f : FuncId) (fn : Func) (hf : Tryd.pinned.checked.prog.funcNamed "loop.example/g01013/laws.FnExactReadSentence" = some f) (hfn : Tryd.pinned.checked.prog.funcs[f]? = some fn) :
    true = Tryd.pinned.checked.prog.looks [] ∧ ∀ (j : Nat) t, fn.params[j]? = some t → Tryd.pinned.checked.prog.wantsStandIn t = false := by
  obtain rfl : f = 7 := Option.some.inj ((show Tryd.prog.funcNamed "loop.example/g01013/laws.FnExactReadSentence" = some 7 by kernel_rfl).symm.trans hf) |>.symm
  obtain rfl : fn = Tryd.f7 := (Option.some.inj (Tryd.func7.symm.trans hfn)).symm
  refine ⟨by kernel_rfl, fun j t ht => ?_⟩
  rw [Tryd.params7] at ht
  have hm := Array.mem_of_getElem? ht
  simp only [List.mem_toArray, List.mem_cons, List.not_mem_nil, or_false] at hm
  rcases hm with rfl | rfl
  · exact (show Tryd.prog.wantsStandIn 9 = false by kernel_rfl)
  · exact (show Tryd.prog.wantsStandIn 2 = false by kernel_rfl)
theorem proved : Rows.FnExactReadSentenceCardSaid :=
  Claim7.holds_tied_plain_at .later [] _ _ _ _ said (fun _ h => by cases h) (by kernel_rfl) (fun _ h => by cases h) fnExactReadSentence_row_tie rfl ⟨rfl, rfl⟩ (by kernel_rfl) rfl plain (by kernel_rfl)
end fnExactReadSentence
set_option maxHeartbeats 1000000 in
theorem wTranslateText (w : World) (he : Env w) (s : ByteArray) (ws : s.size ≤ maxLen) (n : Int) (wn : (Lit.int .i64 n).wf = true) (m : Int) (wm : (Lit.int .i64 m).wf = true) :
    Calls Tryd.prog 6 #[.string s, .int .i64 n, .int .i64 m] w fun e w' => e = .returned (.bool true) ∧ Below w.heap.size w w' := by
  clear ws wn wm
  by_cases hs : 1048576 < s.size
  · have hs' : (1048576 : Int) < (s.size : Int) := by omega
    clear he
    go_enter Tryd.func6, Tryd.ntmps6
    go_wp2
    go_ret
    exact ⟨rfl, Below.refl _ _⟩
  · have hs' : ¬ (1048576 : Int) < (s.size : Int) := by omega
    have hsz : s.size ≤ 1048576 := by omega
    have HS := Lib.hid (sTranslateText_c s n m hsz w)
    have HI := Lib.hid (fun W (hW : Below w.heap.size w W) => iTranslateText_c s n m hsz W (he.below hW))
    generalize trV n m s = v at *
    obtain ⟨t, z⟩ := v
    simp only at HS HI
    have hq := ne_strU t
    clear he hs
    go_enter Tryd.func6, Tryd.ntmps6
    go_wp2_with fail
    refine HS.out.mono ?_
    rintro e w1 ⟨rfl, B⟩
    have T1 := Lib.hid B
    clear B HS
    go_wp2_with fail
    refine (HI.out _ T1.out).mono ?_
    rintro e w3 ⟨rfl, B⟩
    have T3 := Lib.hid (T1.out.trans (B.mono T1.out.size))
    clear B T1 HI
    go_wp2
    go_ret
    exact ⟨rfl, T3.out⟩
namespace fnExactTranslateText
theorem own : ownKnob Tryd.prog.godebug = none := by kernel_rfl
set_option maxRecDepth 100000 in
theorem contract (H : Type) (enc : TypeId × Value → H) (W : World) (base : Nat) (args : Array Value) (ds gs : List (DataW H)) (before : List MemPlace)
    (hval : ∀ (j : Nat) t v, Tryd.f6.params[j]? = some t → args[j]? = some v → Value.okWide Tryd.prog W .any base t v)
    (hW : DataW.Whole enc Tryd.prog Tryd.f6.params.toList Rows.fnExactTranslateTextSpec.vars false W args.toList ds gs before) (hL : laidMetH Tryd.prog Rows.fnExactTranslateTextRow.laid W) (hsh : W.ShapedOpen Tryd.prog) :
    Calls Tryd.prog 6 args W fun e W' => ∃ v, e = .returned v ∧ Rows.fnExactTranslateTextSpec.post enc Tryd.prog Tryd.f6 false true false false W args v W' := by
  have hW' := hW
  obtain ⟨p, q, hA0, hV, rfl, hfz, hnd⟩ := hW
  have hA : DataW.TrodAll enc Tryd.prog W 0 (fun _ => true) true Tryd.f6.params.toList args.toList ds p := hA0
  rw [Tryd.params6] at hA hval
  obtain ⟨v0, vs0, d0, ds0, p0, q0, hargs, rfl, rfl, h0, r0⟩ := trodAll_cons hA
  obtain ⟨v1, vs1, d1, ds1, p1, q1, rfl, rfl, rfl, h1, r1⟩ := trodAll_cons r0
  obtain ⟨v2, vs2, d2, ds2, p2, q2, rfl, rfl, rfl, h2, r2⟩ := trodAll_cons r1
  obtain ⟨rfl, rfl, rfl⟩ := trodAll_nil r2
  obtain rfl : args = #[v0, v1, v2] := by cases args; simp_all
  obtain ⟨rfl, rfl⟩ := trodVars_none hV
  have k0 := h0
  have lt0 : ∀ x ∈ p0, x.block < W.heap.size := by obtain ⟨m, hm⟩ := k0; exact DataW.trod_lt m _ _ _ hm
  have k1 := h1
  have lt1 : ∀ x ∈ p1, x.block < W.heap.size := by obtain ⟨m, hm⟩ := k1; exact DataW.trod_lt m _ _ _ hm
  have k2 := h2
  have lt2 : ∀ x ∈ p2, x.block < W.heap.size := by obtain ⟨m, hm⟩ := k2; exact DataW.trod_lt m _ _ _ hm
  obtain ⟨a0, rfl, -, -, wf0⟩ := Go.ChangeMaps.open_string Tryd.underlying9 (hval 0 9 v0 rfl rfl) h0
  obtain ⟨a1, rfl, -, -, wf1⟩ := open_int Tryd.underlying2 (hval 1 2 v1 rfl rfl) h1
  obtain ⟨a2, rfl, -, -, wf2⟩ := open_int Tryd.underlying2 (hval 2 2 v2 rfl rfl) h2
  clear hA0
  have hm0 := cell_m0 W hsh
  have htab : Tab10 W := tab10_of (hL.filter fun x => x.1 == "internal/strconv.uint64pow10")
  have henv : Env W := ⟨hm0, htab, errV_of gSyn gSynT (hL.filter fun x => x.1 == "strconv.ErrSyntax"), errV_of gRan gRanT (hL.filter fun x => x.1 == "strconv.ErrRange")⟩
  refine (wTranslateText W henv a0 wf0 a1 wf1 a2 wf2).mono fun e W' ⟨he, bel⟩ => ?_
  subst he
  exact ⟨_, rfl, _, _, _, [], _, [], hW', trodAll_mk1 (shut_bool Tryd.underlying4 _), (trodAll_cons_mk (Below.trod laidOut (by kernel_rfl) (of_decide_eq_true (by kernel_rfl)) k0 bel lt0) (trodAll_cons_mk (Below.trod laidOut (by kernel_rfl) (of_decide_eq_true (by kernel_rfl)) k1 bel lt1) (trodAll_cons_mk (Below.trod laidOut (by kernel_rfl) (of_decide_eq_true (by kernel_rfl)) k2 bel lt2) trodAll_mk0))), rfl, bel.frame _, fun h => by cases h⟩
noncomputable def low : Nat := (World.holding Tryd.prog default ⟨#[], #[], []⟩).heap.size
noncomputable def laidWorld (os : Os) : World := { World.holding Tryd.prog os ⟨#[.cells #[.string ⟨#[105, 110, 118, 97, 108, 105, 100, 32, 115, 121, 110, 116, 97, 120]⟩] 159, .cells #[.string ⟨#[118, 97, 108, 117, 101, 32, 111, 117, 116, 32, 111, 102, 32, 114, 97, 110, 103, 101]⟩] 159], #[], []⟩ with heap := ((((((((World.holding Tryd.prog os ⟨#[.cells #[.string ⟨#[105, 110, 118, 97, 108, 105, 100, 32, 115, 121, 110, 116, 97, 120]⟩] 159, .cells #[.string ⟨#[118, 97, 108, 117, 101, 32, 111, 117, 116, 32, 111, 102, 32, 114, 97, 110, 103, 101]⟩] 159], #[], []⟩).heap.modify 6 (layCells (flatD 8 Rows.laid_math_bits_deBruijn32tab))).modify 7 (layCells (flatD 8 Rows.laid_math_bits_deBruijn64tab))).modify 3 (layCells (flatD 8 Rows.laid_internal_strconv_uint64pow10))).modify 2 (layCells (flatD 8 Rows.laid_unicode_utf8_acceptRanges))).modify 5 (layCells [.iface 157 (.pointer (some ⟨low + 1, 0, none⟩))])).modify 4 (layCells [.iface 157 (.pointer (some ⟨low, 0, none⟩))])).modify 1 (layCells (flatD 8 Rows.laid_unicode_utf8_first))) }
theorem laid_met (os : Os) : laidMet Tryd.prog Rows.fnExactTranslateTextRow.laid ((laidWorld os).forCall (fun _ _ => 0) ⟨#[], #[.string ⟨#[]⟩, .int .i64 0, .int .i64 0], []⟩).memory :=
  laidMet_of_run3 8 (by kernel_rfl) (by kernel_rfl) (by kernel_rfl)
theorem reads (os : Os) {H : Type} (enc : TypeId × Value → H) : ∃ places, DataW.whole enc Tryd.prog ((laidWorld os).forCall (fun _ _ => 0) ⟨#[], #[.string ⟨#[]⟩, .int .i64 0, .int .i64 0], []⟩).memory Tryd.f6.params.toList Rows.fnExactTranslateTextSpec.vars false #[.string ⟨#[]⟩, .int .i64 0, .int .i64 0].toList 8 = some ([.lit (.string []), .lit (.int .i64 0), .lit (.int .i64 0)], [], places) :=
  ⟨[], by kernel_rfl⟩
set_option maxRecDepth 100000 in
theorem lifted (os : Os) (started : os.Started) (H : Type) (enc : TypeId × Value → H) (F : Stop.Interp) :
    ReturnsInHanded {} Tryd.checked os 6 .any ((OpenSpec.ofChange Rows.fnExactTranslateTextSpec).preRow enc Tryd.prog Tryd.f6 Rows.fnExactTranslateTextRow.domain false Rows.fnExactTranslateTextRow.laid) (((OpenSpec.ofChange Rows.fnExactTranslateTextSpec).at F).post enc Tryd.prog Tryd.f6 false true false false) := by
  obtain ⟨places, hx⟩ := reads os enc
  refine returnsInHanded_of_row (C := Tryd.checked) (s := OpenSpec.ofChange Rows.fnExactTranslateTextSpec) own started (by kernel_rfl) Tryd.func6
    (witness_row_at (enc := enc) (C := Tryd.checked) false (laidWorld os) #[.string ⟨#[]⟩, .int .i64 0, .int .i64 0] rfl (by kernel_rfl) (by kernel_rfl) (by kernel_rfl)
      (OpenSpec.preRow_of_cond 8 hx (by kernel_rfl) (fun k hk => by cases hk) (by kernel_rfl) (laid_met os))) ?_
  intro W base args ds gs before hval hW _ _ _ hL hsh _
  exact contract H enc W base args ds gs before hval hW hL hsh
theorem said : Rows.FnExactTranslateTextSaid :=
  OpenClaim.holds_of_cond 6 Tryd.f6 rfl rfl rfl rfl rfl rfl rfl ⟨rfl, rfl, rfl, rfl, rfl⟩ rfl rfl rfl rfl rfl (by kernel_rfl) Tryd.func6 (by kernel_rfl)
    (of_decide_eq_true (by kernel_rfl)) (by unfold Func.isWrapper; first | (rw [if_pos (by decide +kernel)]; kernel_rfl) | (rw [if_neg (by decide +kernel)]; exact ⟨rfl, rfl⟩))
    (fun os started H enc _ F => by rw [OpenClaim.pre_eq_preRow]; exact lifted os started H enc F)
theorem plain (f : FuncId) (fn : Func) (hf : Tryd.pinned.checked.prog.funcNamed "loop.example/g01013/laws.FnExactTranslateText" = some f) (hfn : Tryd.pinned.checked.prog.funcs[f]? = some fn) :
    true = Tryd.pinned.checked.prog.looks [] ∧ ∀ (j : Nat) t, fn.params[j]? = some t → Tryd.pinned.checked.prog.wantsStandIn t = false := by
  obtain rfl : f = 6 := Option.some.inj ((show Tryd.prog.funcNamed "loop.example/g01013/laws.FnExactTranslateText" = some 6 by kernel_rfl).symm.trans hf) |>.symm
  obtain rfl : fn = Tryd.f6 := (Option.some.inj (Tryd.func6.symm.trans hfn)).symm
  refine ⟨by kernel_rfl, fun j t ht => ?_⟩
  rw [Tryd.params6] at ht
  have hm := Array.mem_of_getElem? ht
  simp only [List.mem_toArray, List.mem_cons, List.not_mem_nil, or_false] at hm
  rcases hm with rfl | rfl | rfl
  · exact (show Tryd.prog.wantsStandIn 9 = false by kernel_rfl)
  · exact (show Tryd.prog.wantsStandIn 2 = false by kernel_rfl)
  · exact (show Tryd.prog.wantsStandIn 2 = false by kernel_rfl)
theorem proved : Rows.FnExactTranslateTextCardSaid :=
  Claim7.holds_tied_plain_at .later [] _ _ _ _ said (fun _ h => by cases h) (by kernel_rfl) (fun _ h => by cases h) fnExactTranslateText_row_tie rfl ⟨rfl, rfl⟩ (by kernel_rfl) rfl plain (by kernel_rfl)
end fnExactTranslateText
end Go.Proofs.YthbnliepgjjbdaaDoor
