/- FnExactReadZones: the law's walk, and its card (the row's list of two library tables, tied by the given tie; nothing on the law's road reads them). -/
import Derived.Test.YtihjlmlhipngmaaDoorZnC
import Derived.Test.YtihjlmlhipngmaaDoorCards
import Derived.Test.YtihjlmlhipngmaaDoorTie
import Derived.OpenShut
import Derived.Deep.DeepHandedRow
import Derived.Deep.DeepLaidRun
import Derived.Lib.LaidTab
namespace Go.Proofs.YtihjlmlhipngmaaDoor
open Go.ChangeShapes Go.WideShapes Go.ChangeAt Go.RowKit
open Go.ChangeMaps (open_string shut_string)
set_option linter.unusedVariables false
set_option maxHeartbeats 8000000 in
set_option maxRecDepth 100000 in
theorem wReadZones (s : ByteArray) (m0 : Int) (w : World) (hm0 : w.cell? ⟨0, 0, none⟩ = some (.int .i64 m0)) :
    Calls Tryd.prog 3 #[.string s] w fun e w' => e = .returned (.bool true) ∧ Below w.heap.size w w' := by
  by_cases hs : 1048576 < s.size
  · clear hm0
    have hs' : (1048576 : Int) < (s.size : Int) := by omega
    go_enter Tryd.func3, Tryd.ntmps3
    go_wp2
    go_ret
    exact ⟨rfl, Below.refl _ _⟩
  · have hs' : ¬ (1048576 : Int) < (s.size : Int) := by omega
    have HM : Hid (∀ W, Below w.heap.size w W → W.cell? ⟨0, 0, none⟩ = some (.int .i64 m0)) := Lib.hid (fun W hW => (hW.cell (World.block_lt_of_cell? _ _ hm0)).trans hm0)
    have hsz : s.size ≤ 1048576 := by omega
    have HSV : Hid (∀ W, Below w.heap.size w W → Calls Tryd.prog 6 #[.string s] W (RZPost (specZ s) W)) := Lib.hid (fun W hW => iReadZones_c s m0 W hsz (HM.out W hW))
    clear hm0 hs
    go_enter Tryd.func3, Tryd.ntmps3
    go_wp2_with fail
    refine (sReadZones_c s w hsz).mono ?_
    rintro e w1 ⟨A1, c1, rfl, O1, hn, B1⟩
    have T1 := Lib.hid B1
    have HO1 := Lib.hid O1
    have hs1 := B1.size
    clear O1 B1
    go_wp2_with fail
    refine (iReadZones_c s m0 w1 hsz (HM.out w1 T1.out)).mono ?_
    rintro e w2 ⟨A2, c2, rfl, O2, _, B2⟩
    have T2 := Lib.hid (T1.out.trans (B2.mono hs1))
    have hs2 := B2.size
    have HO1b := Lib.hid (HO1.out.below B2 (Nat.le_refl _))
    have HO2 := Lib.hid O2
    clear O2 B2 HO1 T1
    generalize specZ s = v at *
    obtain ⟨zs, ok⟩ := v
    simp only at hn HO1b HO2 ⊢
    go_wp2_with fail
    refine (eqInt64S_same A2 A1 zs.length zs.length c2 c1 _ _ zs w2 HO2.out.reads HO1b.out.reads (by omega)).mono ?_
    rintro e w3 ⟨rfl, B3⟩
    have T3 := Lib.hid (T2.out.trans (B3.mono T2.out.size))
    have hs3 := B3.size
    have HO1c := Lib.hid (HO1b.out.below B3 (by omega))
    have HO2c := Lib.hid (HO2.out.below B3 (Nat.le_refl _))
    have hbb : (ok != ok) = false := by cases ok <;> rfl
    clear B3 HO1b HO2 T2
    go_wp2_with fail
    refine (markInt64S_c A2 zs.length c2 w1.heap.size w2.heap.size _ 1 w3 HO2c.out (by omega) (by omega) (by omega)).mono ?_
    rintro e w4 ⟨rfl, O4, Y4⟩
    have T4 := Lib.hid (T3.out.trans (Y4.below (by omega) (by have := T3.out.size; omega)))
    have hs4 := Y4.size
    have HO1d := Lib.hid (HO1c.out.only Y4 (by omega))
    have HO2d := Lib.hid O4
    clear Y4 O4 HO1c HO2c T3
    go_wp2_with fail
    refine (heldInt64S_c A2 zs.length c2 _ 1 w4 HO2d.out.reads (by omega) (by omega) (by omega)).mono ?_
    rintro e w5 ⟨rfl, B5⟩
    have T5 := Lib.hid (T4.out.trans (B5.mono T4.out.size))
    have hs5 := B5.size
    have HO1e := Lib.hid (HO1d.out.below B5 (by omega))
    have HO2e := Lib.hid (HO2d.out.below B5 (by omega))
    have hlt0 : ¬ (1 + (zs.length : Int) < 0) := by omega
    clear B5 HO1d HO2d T4
    go_wp2_with fail
    refine (HSV.out w5 T5.out).mono ?_
    rintro e w6 ⟨A6, c6, rfl, O6, _, B6⟩
    simp only at O6 ⊢
    have T6 := Lib.hid (T5.out.trans (B6.mono T5.out.size))
    have hs6 := B6.size
    have HO1f := Lib.hid (HO1e.out.below B6 (by omega))
    have HO2f := Lib.hid (HO2e.out.below B6 (by omega))
    have HO6 := Lib.hid O6
    clear B6 O6 HO1e HO2e T5
    go_wp2_with fail
    refine (eqInt64S_same A6 A1 zs.length zs.length c6 c1 _ _ zs w6 HO6.out.reads HO1f.out.reads (by omega)).mono ?_
    rintro e w7 ⟨rfl, B7⟩
    have T7 := Lib.hid (T6.out.trans (B7.mono T6.out.size))
    have hs7 := B7.size
    have HO2g := Lib.hid (HO2f.out.below B7 (by omega))
    clear B7 HO1f HO2f HO6 T6
    go_wp2_with fail
    refine (heldInt64S_c A2 zs.length c2 _ 1 w7 HO2g.out.reads (by omega) (by omega) (by omega)).mono ?_
    rintro e w8 ⟨rfl, B8⟩
    have T8 := Lib.hid (T7.out.trans (B8.mono T7.out.size))
    clear B8 HO2g T7
    go_wp2
    go_ret
    exact ⟨rfl, T8.out⟩
/-- the cells of plain data of numbers -/
def flatD : Nat → DataW Unit → List Value
  | f + 1, .lit (.int k n) => [.int k n]
  | f + 1, .agg ps => (ps.map (flatD f)).flatten
  | _, _ => []
def layCells (vs : List Value) : Obj → Obj
  | .cells _ t frozen => .cells vs.toArray t frozen
  | o => o
namespace fnExactReadZones
theorem own : ownKnob Tryd.prog.godebug = none := by kernel_rfl
theorem contract (H : Type) (enc : TypeId × Value → H) (W : World) (base : Nat) (args : Array Value) (ds gs : List (DataW H)) (before : List MemPlace)
    (hval : ∀ (j : Nat) t v, Tryd.f3.params[j]? = some t → args[j]? = some v → Value.okWide Tryd.prog W .any base t v)
    (hW : DataW.Whole enc Tryd.prog Tryd.f3.params.toList Rows.fnExactReadZonesSpec.vars false W args.toList ds gs before) (hsh : W.ShapedOpen Tryd.prog) :
    Calls Tryd.prog 3 args W fun e W' => ∃ v, e = .returned v ∧ Rows.fnExactReadZonesSpec.post enc Tryd.prog Tryd.f3 false true false false W args v W' := by
  have hW' := hW
  obtain ⟨p, q, hA0, hV, rfl, hfz, hnd⟩ := hW
  have hA : DataW.TrodAll enc Tryd.prog W 0 (fun _ => true) true Tryd.f3.params.toList args.toList ds p := hA0
  rw [Tryd.params3] at hA hval
  obtain ⟨v0, vs0, d0, ds0, p0, q0, hargs, rfl, rfl, h0, r0⟩ := trodAll_cons hA
  obtain ⟨rfl, rfl, rfl⟩ := trodAll_nil r0
  obtain rfl : args = #[v0] := by cases args; simp_all
  obtain ⟨rfl, rfl⟩ := trodVars_none hV
  obtain ⟨s, rfl, rfl, rfl, ws⟩ := open_string Tryd.underlying9 (hval 0 9 v0 rfl rfl) h0
  obtain ⟨m0, hm0⟩ := Tryd.laysM147.s1_3 W hsh
  clear hA0
  simp only [List.append_nil] at hW'
  refine (wReadZones s m0 W hm0).mono fun e W' ⟨he, bel⟩ => ?_
  subst he
  exact ⟨_, rfl, _, _, _, [], _, [], hW', trodAll_mk1 (shut_bool Tryd.underlying4 _), trodAll_cons_mk (shut_string Tryd.underlying9 ws) trodAll_mk0, rfl, bel.frame _, fun h => by cases h⟩
/-- a world for the witness: the settled one, the two listed tables holding what the row lists -/
noncomputable def laidWorld (os : Os) : World :=
  { World.holding Tryd.prog os ⟨#[], #[], []⟩ with heap := ((World.holding Tryd.prog os ⟨#[], #[], []⟩).heap.modify 2 (layCells (flatD 8 Rows.laid_unicode_utf8_acceptRanges))).modify 1 (layCells (flatD 8 Rows.laid_unicode_utf8_first)) }
theorem laid_met (os : Os) : laidMet Tryd.prog Rows.fnExactReadZonesRow.laid ((laidWorld os).forCall (fun _ _ => 0) ⟨#[], #[.string ⟨#[]⟩], []⟩).memory :=
  laidMet_of_run3 8 (by kernel_rfl) (by kernel_rfl) (by kernel_rfl)
theorem reads (os : Os) {H : Type} (enc : TypeId × Value → H) : ∃ places, DataW.whole enc Tryd.prog ((laidWorld os).forCall (fun _ _ => 0) ⟨#[], #[.string ⟨#[]⟩], []⟩).memory Tryd.f3.params.toList Rows.fnExactReadZonesSpec.vars false #[Value.string ⟨#[]⟩].toList 8 = some ([.lit (.string [])], [], places) :=
  ⟨[], by kernel_rfl⟩
set_option maxRecDepth 100000 in
theorem lifted (os : Os) (started : os.Started) (H : Type) (enc : TypeId × Value → H) (F : Stop.Interp) :
    ReturnsInHanded {} Tryd.checked os 3 .any ((OpenSpec.ofChange Rows.fnExactReadZonesSpec).preRow enc Tryd.prog Tryd.f3 Rows.fnExactReadZonesRow.domain false Rows.fnExactReadZonesRow.laid) (((OpenSpec.ofChange Rows.fnExactReadZonesSpec).at F).post enc Tryd.prog Tryd.f3 false true false false) := by
  obtain ⟨places, hx⟩ := reads os enc
  refine returnsInHanded_of_row (C := Tryd.checked) (s := OpenSpec.ofChange Rows.fnExactReadZonesSpec) own started (by kernel_rfl) Tryd.func3
    (witness_row_at (enc := enc) (C := Tryd.checked) false (laidWorld os) #[.string ⟨#[]⟩] rfl (by kernel_rfl) (by kernel_rfl) (by kernel_rfl)
      (OpenSpec.preRow_of_cond 8 hx (by kernel_rfl) (fun k hk => by cases hk) (by kernel_rfl) (laid_met os))) ?_
  intro W base args ds gs before hval hW _ _ _ _ hsh _
  exact contract H enc W base args ds gs before hval hW hsh
theorem said : Rows.FnExactReadZonesSaid :=
  OpenClaim.holds_of_cond 3 Tryd.f3 rfl rfl rfl rfl rfl rfl rfl ⟨rfl, rfl, rfl, rfl, rfl⟩ rfl rfl rfl rfl rfl (by kernel_rfl) Tryd.func3 (by kernel_rfl)
    (of_decide_eq_true (by kernel_rfl)) (by unfold Func.isWrapper; first | (rw [if_pos (by decide +kernel)]; kernel_rfl) | (rw [if_neg (by decide +kernel)]; exact ⟨rfl, rfl⟩))
    (fun os started H enc _ F => by rw [OpenClaim.pre_eq_preRow]; exact lifted os started H enc F)
theorem plain (f : FuncId) (fn : Func) (hf : Tryd.pinned.checked.prog.funcNamed "loop.example/g01013/laws.FnExactReadZones" = some f) (hfn : Tryd.pinned.checked.prog.funcs[f]? = some fn) :
    false = Tryd.pinned.checked.prog.looks [] ∧ ∀ (j : Nat) t, fn.params[j]? = some t → Tryd.pinned.checked.prog.wantsStandIn t = false := by
  obtain rfl : f = 3 := Option.some.inj ((show Tryd.prog.funcNamed "loop.example/g01013/laws.FnExactReadZones" = some 3 by kernel_rfl).symm.trans hf) |>.symm
  obtain rfl : fn = Tryd.f3 := (Option.some.inj (Tryd.func3.symm.trans hfn)).symm
  refine ⟨by kernel_rfl, fun j t ht => ?_⟩
  rw [Tryd.params3] at ht
  obtain rfl : t = 9 := by simpa using Array.mem_of_getElem? ht
  exact (show Tryd.prog.wantsStandIn 9 = false by kernel_rfl)
theorem proved : Rows.FnExactReadZonesCardSaid :=
  Claim7.holds_tied_plain_at .later [] _ _ _ _ said (fun _ h => by cases h) (by kernel_rfl) (fun _ h => by cases h) fnExactReadZones_row_tie rfl ⟨rfl, rfl⟩ (by kernel_rfl) rfl plain (by kernel_rfl)
end fnExactReadZones
end Go.Proofs.YtihjlmlhipngmaaDoor
