/- FnExactReadRegions: the law's walk and its card (printed by wip/tools/laws_rr.py). -/
import Derived.Test.YteklfeeamjgplaaDoorRtJ
import Derived.Test.YteklfeeamjgplaaDoorCd
namespace Go.Proofs.YteklfeeamjgplaaDoor
open Go.ChangeShapes Go.WideShapes Go.ChangeAt Go.RowKit
open Go.ChangeMaps (open_string shut_string)
set_option linter.unusedVariables false
set_option maxHeartbeats 8000000 in
set_option maxRecDepth 100000 in
theorem wReadRegions (w : World) (he : Env w) (s : ByteArray) (ws : s.size ≤ maxLen) :
    Calls Tryd.prog 4 #[.string s] w fun e w' => e = .returned (.bool true) ∧ Below w.heap.size w w' := by
  clear ws
  by_cases hs : 1048576 < s.size
  · have hs' : (1048576 : Int) < (s.size : Int) := by omega
    clear he
    go_enter Tryd.func4, Tryd.ntmps4
    go_wp2
    go_ret
    exact ⟨rfl, Below.refl _ _⟩
  · have hs' : ¬ (1048576 : Int) < (s.size : Int) := by omega
    have hsz : s.size ≤ 1048576 := by omega
    have HS := Lib.hid (sReadRegions_c s hsz w)
    have HI := Lib.hid (fun W (hW : Below w.heap.size w W) => iReadRegions_c s hsz W (he.below hW))
    generalize rrV s = v at *
    obtain ⟨L, y⟩ := v
    clear he hs
    go_enter Tryd.func4, Tryd.ntmps4
    have T := Lib.hid (Below.refl w.heap.size w)
    go_wp2_with fail
    refine (HS.out).mono ?_
    rintro e w1 ⟨Aw, nw, cw, rw, rfl, Ow, qw, lw, xw, B1⟩
    have hs1 := B1.size
    replace T := Lib.hid (T.out.trans (B1.mono T.out.size))
    replace Ow := Lib.hid Ow
    clear B1
    replace qw := Lib.hid qw
    replace xw := Lib.hid xw
    go_wp2_with fail
    refine (HI.out _ T.out).mono ?_
    rintro e w2 ⟨Ag, ng, cg, rg, rfl, Og, qg, lg, xg, B2⟩
    have hs2 := B2.size
    replace T := Lib.hid (T.out.trans (B2.mono T.out.size))
    replace Ow := Lib.hid (Ow.out.below B2 (by omega))
    replace Og := Lib.hid Og
    clear B2
    replace qg := Lib.hid qg
    replace xg := Lib.hid xg
    obtain ⟨na, nb⟩ := mrk_bd xg.out Og.out.regs.len (by omega)
    go_wp2_with fail
    refine (eqRegionS_same Ag Aw ng nw cg cw _ _ rg rw w2 Og.out.regs Ow.out.regs (qg.out.trans qw.out.symm) xg.out (by omega) (by omega) (by omega)).mono ?_
    rintro e w3 ⟨rfl, B3⟩
    have hs3 := B3.size
    replace T := Lib.hid (T.out.trans (B3.mono T.out.size))
    replace Ow := Lib.hid (Ow.out.below B3 (by omega))
    replace Og := Lib.hid (Og.out.below B3 (by omega))
    clear B3
    go_wp2_with fail
    refine (markRegionS_c Ag ng cg _ _ rg 1 w3 Og.out xg.out (by omega) (by omega) (by omega) (by omega)).mono ?_
    rintro e w4 ⟨rfl, Og', Y4⟩
    have hs4 := Y4.size
    replace T := Lib.hid (T.out.trans (Y4.below (by omega) (by omega)))
    replace Ow := Lib.hid (Ow.out.only Y4 (by omega))
    clear Og; have Og := Lib.hid Og'; clear Og' Y4
    go_wp2_with fail
    refine (heldRegionS_c Ag ng cg _ rg 1 w4 Og.out.regs xg.out (by omega) (by omega) (by omega) (by omega)).mono ?_
    rintro e w5 ⟨rfl, B5⟩
    have hs5 := B5.size
    replace T := Lib.hid (T.out.trans (B5.mono T.out.size))
    replace Ow := Lib.hid (Ow.out.below B5 (by omega))
    replace Og := Lib.hid (Og.out.below B5 (by omega))
    clear B5
    go_wp2_with fail
    refine (HI.out _ T.out).mono ?_
    rintro e w6 ⟨Ah, nh, ch, rh, rfl, Oh, qh, lh, xh, B6⟩
    have hs6 := B6.size
    replace T := Lib.hid (T.out.trans (B6.mono T.out.size))
    replace Ow := Lib.hid (Ow.out.below B6 (by omega))
    replace Og := Lib.hid (Og.out.below B6 (by omega))
    replace Oh := Lib.hid Oh
    clear B6
    replace qh := Lib.hid qh
    replace xh := Lib.hid xh
    go_wp2_with fail
    refine (eqRegionS_same Ah Aw nh nw ch cw _ _ rh rw w6 Oh.out.regs Ow.out.regs (qh.out.trans qw.out.symm) xh.out (by omega) (by omega) (by omega)).mono ?_
    rintro e w7 ⟨rfl, B7⟩
    have hs7 := B7.size
    replace T := Lib.hid (T.out.trans (B7.mono T.out.size))
    replace Ow := Lib.hid (Ow.out.below B7 (by omega))
    replace Og := Lib.hid (Og.out.below B7 (by omega))
    replace Oh := Lib.hid (Oh.out.below B7 (by omega))
    clear B7
    go_wp2_with fail
    refine (heldRegionS_c Ag ng cg _ rg 1 w7 Og.out.regs xg.out (by omega) (by omega) (by omega) (by omega)).mono ?_
    rintro e w8 ⟨rfl, B8⟩
    have hs8 := B8.size
    replace T := Lib.hid (T.out.trans (B8.mono T.out.size))
    replace Ow := Lib.hid (Ow.out.below B8 (by omega))
    replace Og := Lib.hid (Og.out.below B8 (by omega))
    replace Oh := Lib.hid (Oh.out.below B8 (by omega))
    clear B8
    go_wp2
    go_ret
    exact ⟨rfl, T.out⟩
namespace fnExactReadRegions
theorem own : ownKnob Tryd.prog.godebug = none := by kernel_rfl
set_option maxRecDepth 100000 in
theorem contract (H : Type) (enc : TypeId × Value → H) (W : World) (base : Nat) (args : Array Value) (ds gs : List (DataW H)) (before : List MemPlace)
    (hval : ∀ (j : Nat) t v, Tryd.f4.params[j]? = some t → args[j]? = some v → Value.okWide Tryd.prog W .any base t v)
    (hW : DataW.Whole enc Tryd.prog Tryd.f4.params.toList Rows.fnExactReadRegionsSpec.vars false W args.toList ds gs before) (hL : laidMetH Tryd.prog Rows.fnExactReadRegionsRow.laid W) (hsh : W.ShapedOpen Tryd.prog) :
    Calls Tryd.prog 4 args W fun e W' => ∃ v, e = .returned v ∧ Rows.fnExactReadRegionsSpec.post enc Tryd.prog Tryd.f4 false true false false W args v W' := by
  have hW' := hW
  obtain ⟨p, q, hA0, hV, rfl, hfz, hnd⟩ := hW
  have hA : DataW.TrodAll enc Tryd.prog W 0 (fun _ => true) true Tryd.f4.params.toList args.toList ds p := hA0
  rw [Tryd.params4] at hA hval
  obtain ⟨v0, vs0, d0, ds0, p0, q0, hargs, rfl, rfl, h0, r0⟩ := trodAll_cons hA
  obtain ⟨rfl, rfl, rfl⟩ := trodAll_nil r0
  obtain rfl : args = #[v0] := by cases args; simp_all
  obtain ⟨rfl, rfl⟩ := trodVars_none hV
  have k0 := h0
  have lt0 : ∀ x ∈ p0, x.block < W.heap.size := by obtain ⟨m, hm⟩ := k0; exact DataW.trod_lt m _ _ _ hm
  obtain ⟨a0, rfl, -, -, wf0⟩ := Go.ChangeMaps.open_string Tryd.underlying9 (hval 0 9 v0 rfl rfl) h0
  clear hA0
  have hm0 := cell_m0 W hsh
  have htab : Tab10 W := tab10_of (hL.filter fun x => x.1 == "internal/strconv.uint64pow10")
  have henv : Env W := ⟨hm0, htab, errV_of gSyn gSynT (hL.filter fun x => x.1 == "strconv.ErrSyntax"), errV_of gRan gRanT (hL.filter fun x => x.1 == "strconv.ErrRange")⟩
  refine (wReadRegions W henv a0 wf0).mono fun e W' ⟨he, bel⟩ => ?_
  subst he
  exact ⟨_, rfl, _, _, _, [], _, [], hW', trodAll_mk1 (shut_bool Tryd.underlying4 _), (trodAll_cons_mk (Below.trod laidOut (by kernel_rfl) (of_decide_eq_true (by kernel_rfl)) k0 bel lt0) trodAll_mk0), rfl, bel.frame _, fun h => by cases h⟩
noncomputable def low : Nat := (World.holding Tryd.prog default ⟨#[], #[], []⟩).heap.size
noncomputable def laidWorld (os : Os) : World := { World.holding Tryd.prog os ⟨#[.cells #[.string ⟨#[105, 110, 118, 97, 108, 105, 100, 32, 115, 121, 110, 116, 97, 120]⟩] 124, .cells #[.string ⟨#[118, 97, 108, 117, 101, 32, 111, 117, 116, 32, 111, 102, 32, 114, 97, 110, 103, 101]⟩] 124], #[], []⟩ with heap := ((((((((World.holding Tryd.prog os ⟨#[.cells #[.string ⟨#[105, 110, 118, 97, 108, 105, 100, 32, 115, 121, 110, 116, 97, 120]⟩] 124, .cells #[.string ⟨#[118, 97, 108, 117, 101, 32, 111, 117, 116, 32, 111, 102, 32, 114, 97, 110, 103, 101]⟩] 124], #[], []⟩).heap.modify 6 (layCells (flatD 8 Rows.laid_math_bits_deBruijn32tab))).modify 7 (layCells (flatD 8 Rows.laid_math_bits_deBruijn64tab))).modify 1 (layCells (flatD 8 Rows.laid_internal_strconv_uint64pow10))).modify 5 (layCells (flatD 8 Rows.laid_unicode_utf8_acceptRanges))).modify 3 (layCells [.iface 122 (.pointer (some ⟨low + 1, 0, none⟩))])).modify 2 (layCells [.iface 122 (.pointer (some ⟨low, 0, none⟩))])).modify 4 (layCells (flatD 8 Rows.laid_unicode_utf8_first))) }
theorem laid_met (os : Os) (args : Array Value) : laidMet Tryd.prog Rows.fnExactReadRegionsRow.laid ((laidWorld os).forCall (fun _ _ => 0) ⟨#[], args, []⟩).memory :=
  laidMet_of_run3 8 (by kernel_rfl) (by kernel_rfl) (by kernel_rfl)
theorem reads (os : Os) {H : Type} (enc : TypeId × Value → H) : ∃ places, DataW.whole enc Tryd.prog ((laidWorld os).forCall (fun _ _ => 0) ⟨#[], #[.string ⟨#[]⟩], []⟩).memory Tryd.f4.params.toList Rows.fnExactReadRegionsSpec.vars false #[.string ⟨#[]⟩].toList 8 = some ([.lit (.string [])], [], places) :=
  ⟨[], by kernel_rfl⟩
set_option maxRecDepth 100000 in
theorem lifted (os : Os) (started : os.Started) (H : Type) (enc : TypeId × Value → H) (F : Stop.Interp) :
    ReturnsInHanded {} Tryd.checked os 4 .any ((OpenSpec.ofChange Rows.fnExactReadRegionsSpec).preRow enc Tryd.prog Tryd.f4 Rows.fnExactReadRegionsRow.domain false Rows.fnExactReadRegionsRow.laid) (((OpenSpec.ofChange Rows.fnExactReadRegionsSpec).at F).post enc Tryd.prog Tryd.f4 false true false false) := by
  obtain ⟨places, hx⟩ := reads os enc
  refine returnsInHanded_of_row (C := Tryd.checked) (s := OpenSpec.ofChange Rows.fnExactReadRegionsSpec) own started (by kernel_rfl) Tryd.func4
    (witness_row_at (enc := enc) (C := Tryd.checked) false (laidWorld os) #[.string ⟨#[]⟩] rfl (by kernel_rfl) (by kernel_rfl) (by kernel_rfl)
      (OpenSpec.preRow_of_cond 8 hx (by kernel_rfl) (fun k hk => by cases hk) (by kernel_rfl) (laid_met os _))) ?_
  intro W base args ds gs before hval hW _ _ _ hL hsh _
  exact contract H enc W base args ds gs before hval hW hL hsh
theorem said : Rows.FnExactReadRegionsSaid :=
  OpenClaim.holds_of_cond 4 Tryd.f4 rfl rfl rfl rfl rfl rfl rfl ⟨rfl, rfl, rfl, rfl, rfl⟩ rfl rfl rfl rfl rfl (by kernel_rfl) Tryd.func4 (by kernel_rfl)
    (of_decide_eq_true (by kernel_rfl)) (by unfold Func.isWrapper; first | (rw [if_pos (by decide +kernel)]; kernel_rfl) | (rw [if_neg (by decide +kernel)]; exact ⟨rfl, rfl⟩))
    (fun os started H enc _ F => by rw [OpenClaim.pre_eq_preRow]; exact lifted os started H enc F)
theorem plain (f : FuncId) (fn : Func) (hf : Tryd.pinned.checked.prog.funcNamed "loop.example/g01013/laws.FnExactReadRegions" = some f) (hfn : Tryd.pinned.checked.prog.funcs[f]? = some fn) :
    true = Tryd.pinned.checked.prog.looks [] ∧ ∀ (j : Nat) t, fn.params[j]? = some t → Tryd.pinned.checked.prog.wantsStandIn t = false := by
  obtain rfl : f = 4 := Option.some.inj ((show Tryd.prog.funcNamed "loop.example/g01013/laws.FnExactReadRegions" = some 4 by kernel_rfl).symm.trans hf) |>.symm
  obtain rfl : fn = Tryd.f4 := (Option.some.inj (Tryd.func4.symm.trans hfn)).symm
  refine ⟨by kernel_rfl, fun j t ht => ?_⟩
  rw [Tryd.params4] at ht
  have hm := Array.mem_of_getElem? ht
  simp only [List.mem_toArray, List.mem_cons, List.not_mem_nil, or_false] at hm
  subst hm
  exact (show Tryd.prog.wantsStandIn 9 = false by kernel_rfl)
theorem proved : Rows.FnExactReadRegionsCardSaid :=
  Claim7.holds_tied_plain_at .later [] _ _ _ _ said (fun _ h => by cases h) (by kernel_rfl) (fun _ h => by cases h) fnExactReadRegions_row_tie rfl ⟨rfl, rfl⟩ (by kernel_rfl) rfl plain (by kernel_rfl)
end fnExactReadRegions
end Go.Proofs.YteklfeeamjgplaaDoor
