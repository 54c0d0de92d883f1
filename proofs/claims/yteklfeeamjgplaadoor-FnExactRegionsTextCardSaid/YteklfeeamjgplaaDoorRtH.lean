/- FnExactRegionsText: the law's walk and its card (printed by wip/tools/laws_rt.py). -/
import Derived.Test.YteklfeeamjgplaaDoorRtF
import Derived.Test.YteklfeeamjgplaaDoorRtE
import Derived.Test.YteklfeeamjgplaaDoorCd
namespace Go.Proofs.YteklfeeamjgplaaDoor
open Go.ChangeShapes Go.WideShapes Go.ChangeAt Go.RowKit
open Go.ChangeMaps (open_string shut_string)
set_option linter.unusedVariables false
theorem ne_str (b : ByteArray) : (!(b.toList == b.toList)) = false := by simp
set_option maxHeartbeats 8000000 in
theorem wRegionsText (w : World) (ht : Tab10 w) (x0 : Option Addr × Nat × Nat) (R0 : ∃ rs, Regs w w.heap.size x0.1 x0.2.1 rs ∧ (∀ y ∈ rs, RgFit y) ∧ x0.2.1 ≤ x0.2.2 ∧ x0.2.2 ≤ maxLen) :
    Calls Tryd.prog 3 #[.slice x0.1 x0.2.1 x0.2.2] w fun e w' => e = .returned (.bool true) ∧ Below w.heap.size w w' := by
  obtain ⟨A0, n0, c0⟩ := x0
  obtain ⟨rs0, hR0, hF0, hnc0, hmx0⟩ := R0
  simp only [maxLen] at hR0 hnc0 hmx0
  have R0 := Lib.hid hR0
  have ft0 := Lib.hid hF0
  have HTB := Lib.hid (fun W (hW : Below w.heap.size w W) => ht.below hW)
  clear hR0 hF0 ht
  go_enter Tryd.func3, Tryd.ntmps3
  have T := Lib.hid (Below.refl w.heap.size w)
  go_wp2_with fail
  refine (szRegionS_c A0 n0 c0 _ rs0 1048576 w (R0.out.below T.out) (by have := T.out.size; omega) ft0.out (by omega) (by omega) (by omega)).mono ?_
  rintro e w1 ⟨v0, rfl, hv0, B1⟩
  have hs1 := B1.size
  replace T := Lib.hid (T.out.trans (B1.mono T.out.size))
  clear B1
  rcases hv0 with rfl | ⟨hz0, hs0⟩
  · go_wp2
    go_ret
    exact ⟨rfl, T.out⟩
  have hp0 : ¬ (v0 < 0) := by omega
  have hx0 := Lib.hid (fun y (hy : y ∈ rs0) => (show y.n ≤ 1048576 by have := sumN_mem hy; omega))
  go_wp2_with fail
  refine (toRegionS_own A0 n0 c0 _ rs0 w1 (R0.out.below T.out) hx0.out (by have := T.out.size; omega) (by omega)).mono ?_
  rintro e w2 ⟨Da, da, pa, rfl, Oa, ea, B2⟩
  have hs2 := B2.size
  replace T := Lib.hid (T.out.trans (B2.mono T.out.size))
  replace Oa := Lib.hid Oa
  clear B2
  have hxa := Lib.hid (own_fit Oa.out R0.out ea hx0.out)
  replace ea := Lib.hid ea
  go_wp2_with fail
  refine (sRegionsText_c Da n0 da _ pa w2 Oa.out.regs (by omega) hxa.out (by omega)).mono ?_
  rintro e w3 ⟨rfl, B3⟩
  have hs3 := B3.size
  replace T := Lib.hid (T.out.trans (B3.mono T.out.size))
  replace Oa := Lib.hid (Oa.out.below B3 (by omega))
  clear B3
  go_wp2_with fail
  refine (toRegionS_own A0 n0 c0 _ rs0 w3 (R0.out.below T.out) hx0.out (by have := T.out.size; omega) (by omega)).mono ?_
  rintro e w4 ⟨Db, db, pb, rfl, Ob, eb, B4⟩
  have hs4 := B4.size
  replace T := Lib.hid (T.out.trans (B4.mono T.out.size))
  replace Oa := Lib.hid (Oa.out.below B4 (by omega))
  replace Ob := Lib.hid Ob
  clear B4
  have hxb := Lib.hid (own_fit Ob.out R0.out eb hx0.out)
  replace eb := Lib.hid eb
  go_wp2_with fail
  refine (iRegionsText_c Db n0 db _ pb w4 Ob.out.regs (by omega) hxb.out (by omega) (HTB.out _ T.out)).mono ?_
  rintro e w5 ⟨rfl, B5⟩
  have hs5 := B5.size
  replace T := Lib.hid (T.out.trans (B5.mono T.out.size))
  replace Oa := Lib.hid (Oa.out.below B5 (by omega))
  replace Ob := Lib.hid (Ob.out.below B5 (by omega))
  clear B5
  have HVE : Hid (rtV (pb.map Rg.dat) = rtV (pa.map Rg.dat)) := Lib.hid (by rw [ea.out, eb.out])
  rw [HVE.out]
  generalize rtV (pa.map Rg.dat) = tx at *
  have hq := ne_str tx
  go_wp2_with fail
  refine (toRegionS_own A0 n0 c0 _ rs0 w5 (R0.out.below T.out) hx0.out (by have := T.out.size; omega) (by omega)).mono ?_
  rintro e w6 ⟨Dc, dc, pc, rfl, Oc, ec, B6⟩
  have hs6 := B6.size
  replace T := Lib.hid (T.out.trans (B6.mono T.out.size))
  replace Oa := Lib.hid (Oa.out.below B6 (by omega))
  replace Ob := Lib.hid (Ob.out.below B6 (by omega))
  replace Oc := Lib.hid Oc
  clear B6
  have hxc := Lib.hid (own_fit Oc.out R0.out ec hx0.out)
  replace ec := Lib.hid ec
  go_wp2_with fail
  refine (eqRegionS_same Db Dc n0 n0 db dc _ _ pb pc w6 Ob.out.regs Oc.out.regs (eb.out.trans ec.out.symm) hxb.out (by omega) (by omega) (by omega)).mono ?_
  rintro e w7 ⟨rfl, B7⟩
  have hs7 := B7.size
  replace T := Lib.hid (T.out.trans (B7.mono T.out.size))
  replace Oa := Lib.hid (Oa.out.below B7 (by omega))
  replace Ob := Lib.hid (Ob.out.below B7 (by omega))
  replace Oc := Lib.hid (Oc.out.below B7 (by omega))
  clear B7
  go_wp2
  go_ret
  exact ⟨rfl, T.out⟩
namespace fnExactRegionsText
theorem own : ownKnob Tryd.prog.godebug = none := by kernel_rfl
set_option maxRecDepth 100000 in
theorem contract (H : Type) (enc : TypeId × Value → H) (W : World) (base : Nat) (args : Array Value) (ds gs : List (DataW H)) (before : List MemPlace)
    (hval : ∀ (j : Nat) t v, Tryd.f3.params[j]? = some t → args[j]? = some v → Value.okWide Tryd.prog W .any base t v)
    (hW : DataW.Whole enc Tryd.prog Tryd.f3.params.toList Rows.fnExactRegionsTextSpec.vars false W args.toList ds gs before) (hL : laidMetH Tryd.prog Rows.fnExactRegionsTextRow.laid W) (hsh : W.ShapedOpen Tryd.prog) :
    Calls Tryd.prog 3 args W fun e W' => ∃ v, e = .returned v ∧ Rows.fnExactRegionsTextSpec.post enc Tryd.prog Tryd.f3 false true false false W args v W' := by
  have hW' := hW
  obtain ⟨p, q, hA0, hV, rfl, hfz, hnd⟩ := hW
  have hA : DataW.TrodAll enc Tryd.prog W 0 (fun _ => true) true Tryd.f3.params.toList args.toList ds p := hA0
  rw [Tryd.params3] at hA hval
  obtain ⟨v0, vs0, d0, ds0, p0, q0, hargs, rfl, rfl, h0, r0⟩ := trodAll_cons hA
  obtain ⟨rfl, rfl, rfl⟩ := trodAll_nil r0
  obtain rfl : args = #[v0] := by cases args; simp_all
  obtain ⟨rfl, rfl⟩ := trodVars_none hV
  have k0 := h0
  have lt0 : ∀ x ∈ p0, x.block < W.heap.size := by obtain ⟨m, hm⟩ := k0; exact DataW.trod_lt m _ _ _ hm
  obtain ⟨x0, rfl, R0⟩ := open_rgs (hval 0 22 v0 rfl rfl) h0
  clear hA0
  have htab : Tab10 W := tab10_of (hL.filter fun x => x.1 == "internal/strconv.uint64pow10")
  refine (wRegionsText W htab x0 R0).mono fun e W' ⟨he, bel⟩ => ?_
  subst he
  exact ⟨_, rfl, _, _, _, [], _, [], hW', trodAll_mk1 (shut_bool Tryd.underlying4 _), (trodAll_cons_mk (Below.trod laidOut (by kernel_rfl) (of_decide_eq_true (by kernel_rfl)) k0 bel lt0) trodAll_mk0), rfl, bel.frame _, fun h => by cases h⟩
noncomputable def low : Nat := (World.holding Tryd.prog default ⟨#[], #[], []⟩).heap.size
noncomputable def laidWorld (os : Os) : World := { World.holding Tryd.prog os ⟨#[], #[], []⟩ with heap := ((((World.holding Tryd.prog os ⟨#[], #[], []⟩).heap.modify 6 (layCells (flatD 8 Rows.laid_math_bits_deBruijn32tab))).modify 7 (layCells (flatD 8 Rows.laid_math_bits_deBruijn64tab))).modify 1 (layCells (flatD 8 Rows.laid_internal_strconv_uint64pow10))) }
theorem laid_met (os : Os) (args : Array Value) : laidMet Tryd.prog Rows.fnExactRegionsTextRow.laid ((laidWorld os).forCall (fun _ _ => 0) ⟨#[], args, []⟩).memory :=
  laidMet_of_run3 8 (by kernel_rfl) (by kernel_rfl) (by kernel_rfl)
theorem reads (os : Os) {H : Type} (enc : TypeId × Value → H) : ∃ places, DataW.whole enc Tryd.prog ((laidWorld os).forCall (fun _ _ => 0) ⟨#[], #[wit_rgs], []⟩).memory Tryd.f3.params.toList Rows.fnExactRegionsTextSpec.vars false #[wit_rgs].toList 8 = some ([.nil], [], places) :=
  ⟨[], by kernel_rfl⟩
set_option maxRecDepth 100000 in
theorem lifted (os : Os) (started : os.Started) (H : Type) (enc : TypeId × Value → H) (F : Stop.Interp) :
    ReturnsInHanded {} Tryd.checked os 3 .any ((OpenSpec.ofChange Rows.fnExactRegionsTextSpec).preRow enc Tryd.prog Tryd.f3 Rows.fnExactRegionsTextRow.domain false Rows.fnExactRegionsTextRow.laid) (((OpenSpec.ofChange Rows.fnExactRegionsTextSpec).at F).post enc Tryd.prog Tryd.f3 false true false false) := by
  obtain ⟨places, hx⟩ := reads os enc
  refine returnsInHanded_of_row (C := Tryd.checked) (s := OpenSpec.ofChange Rows.fnExactRegionsTextSpec) own started (by kernel_rfl) Tryd.func3
    (witness_row_at (enc := enc) (C := Tryd.checked) false (laidWorld os) #[wit_rgs] rfl (by kernel_rfl) (by kernel_rfl) (by kernel_rfl)
      (OpenSpec.preRow_of_cond 8 hx (by kernel_rfl) (fun k hk => by cases hk) (by kernel_rfl) (laid_met os _))) ?_
  intro W base args ds gs before hval hW _ _ _ hL hsh _
  exact contract H enc W base args ds gs before hval hW hL hsh
theorem said : Rows.FnExactRegionsTextSaid :=
  OpenClaim.holds_of_cond 3 Tryd.f3 rfl rfl rfl rfl rfl rfl rfl ⟨rfl, rfl, rfl, rfl, rfl⟩ rfl rfl rfl rfl rfl (by kernel_rfl) Tryd.func3 (by kernel_rfl)
    (of_decide_eq_true (by kernel_rfl)) (by unfold Func.isWrapper; first | (rw [if_pos (by decide +kernel)]; kernel_rfl) | (rw [if_neg (by decide +kernel)]; exact ⟨rfl, rfl⟩))
    (fun os started H enc _ F => by rw [OpenClaim.pre_eq_preRow]; exact lifted os started H enc F)
theorem plain (f : FuncId) (fn : Func) (hf : Tryd.pinned.checked.prog.funcNamed "loop.example/g01013/laws.FnExactRegionsText" = some f) (hfn : Tryd.pinned.checked.prog.funcs[f]? = some fn) :
    true = Tryd.pinned.checked.prog.looks [] ∧ ∀ (j : Nat) t, fn.params[j]? = some t → Tryd.pinned.checked.prog.wantsStandIn t = false := by
  obtain rfl : f = 3 := Option.some.inj ((show Tryd.prog.funcNamed "loop.example/g01013/laws.FnExactRegionsText" = some 3 by kernel_rfl).symm.trans hf) |>.symm
  obtain rfl : fn = Tryd.f3 := (Option.some.inj (Tryd.func3.symm.trans hfn)).symm
  refine ⟨by kernel_rfl, fun j t ht => ?_⟩
  rw [Tryd.params3] at ht
  have hm := Array.mem_of_getElem? ht
  simp only [List.mem_toArray, List.mem_cons, List.not_mem_nil, or_false] at hm
  subst hm
  exact (show Tryd.prog.wantsStandIn 22 = false by kernel_rfl)
theorem proved : Rows.FnExactRegionsTextCardSaid :=
  Claim7.holds_tied_plain_at .later [] _ _ _ _ said (fun _ h => by cases h) (by kernel_rfl) (fun _ h => by cases h) fnExactRegionsText_row_tie rfl ⟨rfl, rfl⟩ (by kernel_rfl) rfl plain (by kernel_rfl)
end fnExactRegionsText
end Go.Proofs.YteklfeeamjgplaaDoor
