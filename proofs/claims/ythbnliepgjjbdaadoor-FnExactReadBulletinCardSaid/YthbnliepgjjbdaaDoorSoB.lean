/- FnExactReadBulletin, FnExactSameMeaning: the laws' walks and their cards (printed by wip/tools/laws_rb.py). -/
import Derived.Test.YthbnliepgjjbdaaDoorSoA
import Derived.Test.YthbnliepgjjbdaaDoorCdE
namespace Go.Proofs.YthbnliepgjjbdaaDoor
open Go.ChangeShapes Go.WideShapes Go.ChangeAt Go.RowKit
open Go.ChangeMaps (open_string shut_string)
set_option linter.unusedVariables false
theorem sReadBulletin_c (s : ByteArray) (z : Int) (hs : s.size ≤ 1048576) (w : World) : Calls Tryd.prog 30 #[.string s, .int .i64 z] w (RBPost (rbV z s) w) := by
  have H1 := Lib.hid (l19Back_c s z hs w)
  generalize rbV z s = v at *
  obtain ⟨L, y⟩ := v
  go_enter Tryd.func30, Tryd.ntmps30
  go_wp2_with fail
  refine H1.out.mono ?_
  rintro e w1 ⟨A1, c1, rfl, O1, B⟩
  have HO1 := Lib.hid O1
  have T1 := Lib.hid B
  clear O1 B H1
  go_wp2
  go_ret2
  exact ⟨A1, c1, rfl, HO1.out, T1.out⟩
set_option maxHeartbeats 2000000 in
theorem wReadBulletin (w : World) (he : Env w) (s : ByteArray) (ws : s.size ≤ maxLen) (z : Int) (wz : (Lit.int .i64 z).wf = true) :
    Calls Tryd.prog 9 #[.string s, .int .i64 z] w fun e w' => e = .returned (.bool true) ∧ Below w.heap.size w w' := by
  clear ws wz
  by_cases hs : 1048576 < s.size
  · have hs' : (1048576 : Int) < (s.size : Int) := by omega
    clear he
    go_enter Tryd.func9, Tryd.ntmps9
    go_wp2
    go_ret
    exact ⟨rfl, Below.refl _ _⟩
  · have hs' : ¬ (1048576 : Int) < (s.size : Int) := by omega
    have hsz : s.size ≤ 1048576 := by omega
    have HS := Lib.hid (sReadBulletin_c s z hsz w)
    have HI := Lib.hid (fun W (hW : Below w.heap.size w W) => iReadBulletin_c s z hsz W (he.below hW))
    have hl7 := rbV_len z s
    generalize rbV z s = v at *
    obtain ⟨L, y⟩ := v
    simp only at hl7
    have hlt0 : ¬ (1 + ((L.length * 3 : Nat) : Int) < 0) := by omega
    clear he hs
    go_enter Tryd.func9, Tryd.ntmps9
    have T := Lib.hid (Below.refl w.heap.size w)
    go_wp2_with fail
    refine (HS.out).mono ?_
    rintro e w1 ⟨A1, c1, rfl, O1, B1⟩
    have hs1 := B1.size
    replace T := Lib.hid (T.out.trans (B1.mono T.out.size))
    replace O1 := Lib.hid O1
    clear B1
    go_wp2_with fail
    refine (HI.out _ T.out).mono ?_
    rintro e w2 ⟨A2, c2, rfl, O2, B2⟩
    have hs2 := B2.size
    replace T := Lib.hid (T.out.trans (B2.mono T.out.size))
    replace O1 := Lib.hid (O1.out.below B2 (by omega))
    replace O2 := Lib.hid O2
    clear B2
    go_wp2_with fail
    refine (eqSentenceS_same A2 A1 L.length L.length c2 c1 _ _ L w2 O2.out.reads O1.out.reads (by omega) (by omega) (by omega)).mono ?_
    rintro e w3 ⟨rfl, B3⟩
    have hs3 := B3.size
    replace T := Lib.hid (T.out.trans (B3.mono T.out.size))
    replace O1 := Lib.hid (O1.out.below B3 (by omega))
    replace O2 := Lib.hid (O2.out.below B3 (by omega))
    clear B3
    go_wp2_with fail
    refine (markSentenceS_c A2 L.length c2 _ _ _ 1 w3 O2.out (by omega) (by omega) (by omega)).mono ?_
    rintro e w4 ⟨rfl, O2', Y4⟩
    have hs4 := Y4.size
    replace T := Lib.hid (T.out.trans (Y4.below (by omega) (by omega)))
    replace O1 := Lib.hid (O1.out.only Y4 (by omega))
    clear O2; have O2 := Lib.hid O2'; clear O2' Y4
    go_wp2_with fail
    refine (heldSentenceS_c A2 L.length c2 _ 1 w4 O2.out.reads (by omega) (by omega) (by omega)).mono ?_
    rintro e w5 ⟨rfl, B5⟩
    have hs5 := B5.size
    replace T := Lib.hid (T.out.trans (B5.mono T.out.size))
    replace O1 := Lib.hid (O1.out.below B5 (by omega))
    replace O2 := Lib.hid (O2.out.below B5 (by omega))
    clear B5
    go_wp2_with fail
    refine (HI.out _ T.out).mono ?_
    rintro e w6 ⟨A3, c3, rfl, O3, B6⟩
    have hs6 := B6.size
    replace T := Lib.hid (T.out.trans (B6.mono T.out.size))
    replace O1 := Lib.hid (O1.out.below B6 (by omega))
    replace O2 := Lib.hid (O2.out.below B6 (by omega))
    replace O3 := Lib.hid O3
    clear B6
    go_wp2_with fail
    refine (eqSentenceS_same A3 A1 L.length L.length c3 c1 _ _ L w6 O3.out.reads O1.out.reads (by omega) (by omega) (by omega)).mono ?_
    rintro e w7 ⟨rfl, B7⟩
    have hs7 := B7.size
    replace T := Lib.hid (T.out.trans (B7.mono T.out.size))
    replace O1 := Lib.hid (O1.out.below B7 (by omega))
    replace O2 := Lib.hid (O2.out.below B7 (by omega))
    replace O3 := Lib.hid (O3.out.below B7 (by omega))
    clear B7
    go_wp2_with fail
    refine (heldSentenceS_c A2 L.length c2 _ 1 w7 O2.out.reads (by omega) (by omega) (by omega)).mono ?_
    rintro e w8 ⟨rfl, B8⟩
    have hs8 := B8.size
    replace T := Lib.hid (T.out.trans (B8.mono T.out.size))
    replace O1 := Lib.hid (O1.out.below B8 (by omega))
    replace O2 := Lib.hid (O2.out.below B8 (by omega))
    replace O3 := Lib.hid (O3.out.below B8 (by omega))
    clear B8
    go_wp2
    go_ret
    exact ⟨rfl, T.out⟩
namespace fnExactReadBulletin
theorem own : ownKnob Tryd.prog.godebug = none := by kernel_rfl
set_option maxRecDepth 100000 in
theorem contract (H : Type) (enc : TypeId × Value → H) (W : World) (base : Nat) (args : Array Value) (ds gs : List (DataW H)) (before : List MemPlace)
    (hval : ∀ (j : Nat) t v, Tryd.f9.params[j]? = some t → args[j]? = some v → Value.okWide Tryd.prog W .any base t v)
    (hW : DataW.Whole enc Tryd.prog Tryd.f9.params.toList Rows.fnExactReadBulletinSpec.vars false W args.toList ds gs before) (hL : laidMetH Tryd.prog Rows.fnExactReadBulletinRow.laid W) (hsh : W.ShapedOpen Tryd.prog) :
    Calls Tryd.prog 9 args W fun e W' => ∃ v, e = .returned v ∧ Rows.fnExactReadBulletinSpec.post enc Tryd.prog Tryd.f9 false true false false W args v W' := by
  have hW' := hW
  obtain ⟨p, q, hA0, hV, rfl, hfz, hnd⟩ := hW
  have hA : DataW.TrodAll enc Tryd.prog W 0 (fun _ => true) true Tryd.f9.params.toList args.toList ds p := hA0
  rw [Tryd.params9] at hA hval
  obtain ⟨v0, vs0, d0, ds0, p0, q0, hargs, rfl, rfl, h0, r0⟩ := trodAll_cons hA
  obtain ⟨v1, vs1, d1, ds1, p1, q1, rfl, rfl, rfl, h1, r1⟩ := trodAll_cons r0
  obtain ⟨rfl, rfl, rfl⟩ := trodAll_nil r1
  obtain rfl : args = #[v0, v1] := by cases args; simp_all
  obtain ⟨rfl, rfl⟩ := trodVars_none hV
  have k0 := h0
  have lt0 : ∀ x ∈ p0, x.block < W.heap.size := by obtain ⟨m, hm⟩ := k0; exact DataW.trod_lt m _ _ _ hm
  have k1 := h1
  have lt1 : ∀ x ∈ p1, x.block < W.heap.size := by obtain ⟨m, hm⟩ := k1; exact DataW.trod_lt m _ _ _ hm
  obtain ⟨a0, rfl, -, -, wf0⟩ := Go.ChangeMaps.open_string Tryd.underlying9 (hval 0 9 v0 rfl rfl) h0
  obtain ⟨a1, rfl, -, -, wf1⟩ := open_int Tryd.underlying2 (hval 1 2 v1 rfl rfl) h1
  clear hA0
  have hm0 := cell_m0 W hsh
  have htab : Tab10 W := tab10_of (hL.filter fun x => x.1 == "internal/strconv.uint64pow10")
  have henv : Env W := ⟨hm0, htab, errV_of gSyn gSynT (hL.filter fun x => x.1 == "strconv.ErrSyntax"), errV_of gRan gRanT (hL.filter fun x => x.1 == "strconv.ErrRange")⟩
  refine (wReadBulletin W henv a0 wf0 a1 wf1).mono fun e W' ⟨he, bel⟩ => ?_
  subst he
  exact ⟨_, rfl, _, _, _, [], _, [], hW', trodAll_mk1 (shut_bool Tryd.underlying4 _), (trodAll_cons_mk (Below.trod laidOut (by kernel_rfl) (of_decide_eq_true (by kernel_rfl)) k0 bel lt0) (trodAll_cons_mk (Below.trod laidOut (by kernel_rfl) (of_decide_eq_true (by kernel_rfl)) k1 bel lt1) trodAll_mk0)), rfl, bel.frame _, fun h => by cases h⟩
theorem reads (os : Os) {H : Type} (enc : TypeId × Value → H) : ∃ places, DataW.whole enc Tryd.prog ((cwE.laidWorld os).forCall (fun _ _ => 0) ⟨#[], #[.string ⟨#[]⟩, .int .i64 0], []⟩).memory Tryd.f9.params.toList Rows.fnExactReadBulletinSpec.vars false #[.string ⟨#[]⟩, .int .i64 0].toList 8 = some ([.lit (.string []), .lit (.int .i64 0)], [], places) :=
  ⟨[], by kernel_rfl⟩
set_option maxRecDepth 100000 in
theorem lifted (os : Os) (started : os.Started) (H : Type) (enc : TypeId × Value → H) (F : Stop.Interp) :
    ReturnsInHanded {} Tryd.checked os 9 .any ((OpenSpec.ofChange Rows.fnExactReadBulletinSpec).preRow enc Tryd.prog Tryd.f9 Rows.fnExactReadBulletinRow.domain false Rows.fnExactReadBulletinRow.laid) (((OpenSpec.ofChange Rows.fnExactReadBulletinSpec).at F).post enc Tryd.prog Tryd.f9 false true false false) := by
  obtain ⟨places, hx⟩ := reads os enc
  refine returnsInHanded_of_row (C := Tryd.checked) (s := OpenSpec.ofChange Rows.fnExactReadBulletinSpec) own started (by kernel_rfl) Tryd.func9
    (witness_row_at (enc := enc) (C := Tryd.checked) false (cwE.laidWorld os) #[.string ⟨#[]⟩, .int .i64 0] rfl (by kernel_rfl) (by kernel_rfl) (by kernel_rfl)
      (OpenSpec.preRow_of_cond 8 hx (by kernel_rfl) (fun k hk => by cases hk) (by kernel_rfl) (cwE.laid_met os _))) ?_
  intro W base args ds gs before hval hW _ _ _ hL hsh _
  exact contract H enc W base args ds gs before hval hW hL hsh
theorem said : Rows.FnExactReadBulletinSaid :=
  OpenClaim.holds_of_cond 9 Tryd.f9 rfl rfl rfl rfl rfl rfl rfl ⟨rfl, rfl, rfl, rfl, rfl⟩ rfl rfl rfl rfl rfl (by kernel_rfl) Tryd.func9 (by kernel_rfl)
    (of_decide_eq_true (by kernel_rfl)) (by unfold Func.isWrapper; first | (rw [if_pos (by decide +kernel)]; kernel_rfl) | (rw [if_neg (by decide +kernel)]; exact ⟨rfl, rfl⟩))
    (fun os started H enc _ F => by rw [OpenClaim.pre_eq_preRow]; exact lifted os started H enc F)
theorem plain (f : FuncId) (fn : Func) (hf : Tryd.pinned.checked.prog.funcNamed "loop.example/g01013/laws.FnExactReadBulletin" = some f) (hfn : Tryd.pinned.checked.prog.funcs[f]? = some fn) :
    true = Tryd.pinned.checked.prog.looks [] ∧ ∀ (j : Nat) t, fn.params[j]? = some t → Tryd.pinned.checked.prog.wantsStandIn t = false := by
  obtain rfl : f = 9 := Option.some.inj ((show Tryd.prog.funcNamed "loop.example/g01013/laws.FnExactReadBulletin" = some 9 by kernel_rfl).symm.trans hf) |>.symm
  obtain rfl : fn = Tryd.f9 := (Option.some.inj (Tryd.func9.symm.trans hfn)).symm
  refine ⟨by kernel_rfl, fun j t ht => ?_⟩
  rw [Tryd.params9] at ht
  have hm := Array.mem_of_getElem? ht
  simp only [List.mem_toArray, List.mem_cons, List.not_mem_nil, or_false] at hm
  rcases hm with rfl | rfl
  · exact (show Tryd.prog.wantsStandIn 9 = false by kernel_rfl)
  · exact (show Tryd.prog.wantsStandIn 2 = false by kernel_rfl)
theorem proved : Rows.FnExactReadBulletinCardSaid :=
  Claim7.holds_tied_plain_at .later [] _ _ _ _ said (fun _ h => by cases h) (by kernel_rfl) (fun _ h => by cases h) fnExactReadBulletin_row_tie rfl ⟨rfl, rfl⟩ (by kernel_rfl) rfl plain (by kernel_rfl)
end fnExactReadBulletin
set_option maxHeartbeats 1000000 in
theorem wSameMeaning (w : World) (he : Env w) (a : ByteArray) (wa : a.size ≤ maxLen) (n : Int) (wn : (Lit.int .i64 n).wf = true) (b : ByteArray) (wb : b.size ≤ maxLen) (m : Int) (wm : (Lit.int .i64 m).wf = true) :
    Calls Tryd.prog 8 #[.string a, .int .i64 n, .string b, .int .i64 m] w fun e w' => e = .returned (.bool true) ∧ Below w.heap.size w w' := by
  clear wa wn wb wm
  by_cases ha : 1048576 < a.size
  · have ha' : (1048576 : Int) < (a.size : Int) := by omega
    clear he
    go_enter Tryd.func8, Tryd.ntmps8
    go_wp2
    go_ret
    exact ⟨rfl, Below.refl _ _⟩
  · have ha' : ¬ (1048576 : Int) < (a.size : Int) := by omega
    by_cases hb : 1048576 < b.size
    · have hb' : (1048576 : Int) < (b.size : Int) := by omega
      clear he
      go_enter Tryd.func8, Tryd.ntmps8
      go_wp2
      go_ret
      exact ⟨rfl, Below.refl _ _⟩
    · have hb' : ¬ (1048576 : Int) < (b.size : Int) := by omega
      have HS := Lib.hid (sSameMeaning_c a n b m (by omega) (by omega) w)
      have HI := Lib.hid (fun W (hW : Below w.heap.size w W) => iSameMeaning_c a n b m (by omega) (by omega) W (he.below hW))
      generalize smV a n b m = v at *
      clear he ha hb
      cases v
      all_goals
        go_enter Tryd.func8, Tryd.ntmps8
        go_wp2_with fail
        refine HS.out.mono ?_
        rintro e w1 ⟨rfl, B⟩
        have T1 := Lib.hid B
        clear B HS
        go_wp2_with fail
        refine (HI.out _ T1.out).mono ?_
        rintro e w3 ⟨rfl, B⟩
        have T3 := Lib.hid (T1.out.trans (B.mono T1.out.size))
        clear B T1 HI
        go_wp2
        go_ret
        exact ⟨rfl, T3.out⟩
namespace fnExactSameMeaning
theorem own : ownKnob Tryd.prog.godebug = none := by kernel_rfl
set_option maxRecDepth 100000 in
theorem contract (H : Type) (enc : TypeId × Value → H) (W : World) (base : Nat) (args : Array Value) (ds gs : List (DataW H)) (before : List MemPlace)
    (hval : ∀ (j : Nat) t v, Tryd.f8.params[j]? = some t → args[j]? = some v → Value.okWide Tryd.prog W .any base t v)
    (hW : DataW.Whole enc Tryd.prog Tryd.f8.params.toList Rows.fnExactSameMeaningSpec.vars false W args.toList ds gs before) (hL : laidMetH Tryd.prog Rows.fnExactSameMeaningRow.laid W) (hsh : W.ShapedOpen Tryd.prog) :
    Calls Tryd.prog 8 args W fun e W' => ∃ v, e = .returned v ∧ Rows.fnExactSameMeaningSpec.post enc Tryd.prog Tryd.f8 false true false false W args v W' := by
  have hW' := hW
  obtain ⟨p, q, hA0, hV, rfl, hfz, hnd⟩ := hW
  have hA : DataW.TrodAll enc Tryd.prog W 0 (fun _ => true) true Tryd.f8.params.toList args.toList ds p := hA0
  rw [Tryd.params8] at hA hval
  obtain ⟨v0, vs0, d0, ds0, p0, q0, hargs, rfl, rfl, h0, r0⟩ := trodAll_cons hA
  obtain ⟨v1, vs1, d1, ds1, p1, q1, rfl, rfl, rfl, h1, r1⟩ := trodAll_cons r0
  obtain ⟨v2, vs2, d2, ds2, p2, q2, rfl, rfl, rfl, h2, r2⟩ := trodAll_cons r1
  obtain ⟨v3, vs3, d3, ds3, p3, q3, rfl, rfl, rfl, h3, r3⟩ := trodAll_cons r2
  obtain ⟨rfl, rfl, rfl⟩ := trodAll_nil r3
  obtain rfl : args = #[v0, v1, v2, v3] := by cases args; simp_all
  obtain ⟨rfl, rfl⟩ := trodVars_none hV
  have k0 := h0
  have lt0 : ∀ x ∈ p0, x.block < W.heap.size := by obtain ⟨m, hm⟩ := k0; exact DataW.trod_lt m _ _ _ hm
  have k1 := h1
  have lt1 : ∀ x ∈ p1, x.block < W.heap.size := by obtain ⟨m, hm⟩ := k1; exact DataW.trod_lt m _ _ _ hm
  have k2 := h2
  have lt2 : ∀ x ∈ p2, x.block < W.heap.size := by obtain ⟨m, hm⟩ := k2; exact DataW.trod_lt m _ _ _ hm
  have k3 := h3
  have lt3 : ∀ x ∈ p3, x.block < W.heap.size := by obtain ⟨m, hm⟩ := k3; exact DataW.trod_lt m _ _ _ hm
  obtain ⟨a0, rfl, -, -, wf0⟩ := Go.ChangeMaps.open_string Tryd.underlying9 (hval 0 9 v0 rfl rfl) h0
  obtain ⟨a1, rfl, -, -, wf1⟩ := open_int Tryd.underlying2 (hval 1 2 v1 rfl rfl) h1
  obtain ⟨a2, rfl, -, -, wf2⟩ := Go.ChangeMaps.open_string Tryd.underlying9 (hval 2 9 v2 rfl rfl) h2
  obtain ⟨a3, rfl, -, -, wf3⟩ := open_int Tryd.underlying2 (hval 3 2 v3 rfl rfl) h3
  clear hA0
  have hm0 := cell_m0 W hsh
  have htab : Tab10 W := tab10_of (hL.filter fun x => x.1 == "internal/strconv.uint64pow10")
  have henv : Env W := ⟨hm0, htab, errV_of gSyn gSynT (hL.filter fun x => x.1 == "strconv.ErrSyntax"), errV_of gRan gRanT (hL.filter fun x => x.1 == "strconv.ErrRange")⟩
  refine (wSameMeaning W henv a0 wf0 a1 wf1 a2 wf2 a3 wf3).mono fun e W' ⟨he, bel⟩ => ?_
  subst he
  exact ⟨_, rfl, _, _, _, [], _, [], hW', trodAll_mk1 (shut_bool Tryd.underlying4 _), (trodAll_cons_mk (Below.trod laidOut (by kernel_rfl) (of_decide_eq_true (by kernel_rfl)) k0 bel lt0) (trodAll_cons_mk (Below.trod laidOut (by kernel_rfl) (of_decide_eq_true (by kernel_rfl)) k1 bel lt1) (trodAll_cons_mk (Below.trod laidOut (by kernel_rfl) (of_decide_eq_true (by kernel_rfl)) k2 bel lt2) (trodAll_cons_mk (Below.trod laidOut (by kernel_rfl) (of_decide_eq_true (by kernel_rfl)) k3 bel lt3) trodAll_mk0)))), rfl, bel.frame _, fun h => by cases h⟩
theorem reads (os : Os) {H : Type} (enc : TypeId × Value → H) : ∃ places, DataW.whole enc Tryd.prog ((cwE.laidWorld os).forCall (fun _ _ => 0) ⟨#[], #[.string ⟨#[]⟩, .int .i64 0, .string ⟨#[]⟩, .int .i64 0], []⟩).memory Tryd.f8.params.toList Rows.fnExactSameMeaningSpec.vars false #[.string ⟨#[]⟩, .int .i64 0, .string ⟨#[]⟩, .int .i64 0].toList 8 = some ([.lit (.string []), .lit (.int .i64 0), .lit (.string []), .lit (.int .i64 0)], [], places) :=
  ⟨[], by kernel_rfl⟩
set_option maxRecDepth 100000 in
theorem lifted (os : Os) (started : os.Started) (H : Type) (enc : TypeId × Value → H) (F : Stop.Interp) :
    ReturnsInHanded {} Tryd.checked os 8 .any ((OpenSpec.ofChange Rows.fnExactSameMeaningSpec).preRow enc Tryd.prog Tryd.f8 Rows.fnExactSameMeaningRow.domain false Rows.fnExactSameMeaningRow.laid) (((OpenSpec.ofChange Rows.fnExactSameMeaningSpec).at F).post enc Tryd.prog Tryd.f8 false true false false) := by
  obtain ⟨places, hx⟩ := reads os enc
  refine returnsInHanded_of_row (C := Tryd.checked) (s := OpenSpec.ofChange Rows.fnExactSameMeaningSpec) own started (by kernel_rfl) Tryd.func8
    (witness_row_at (enc := enc) (C := Tryd.checked) false (cwE.laidWorld os) #[.string ⟨#[]⟩, .int .i64 0, .string ⟨#[]⟩, .int .i64 0] rfl (by kernel_rfl) (by kernel_rfl) (by kernel_rfl)
      (OpenSpec.preRow_of_cond 8 hx (by kernel_rfl) (fun k hk => by cases hk) (by kernel_rfl) (cwE.laid_met os _))) ?_
  intro W base args ds gs before hval hW _ _ _ hL hsh _
  exact contract H enc W base args ds gs before hval hW hL hsh
theorem said : Rows.FnExactSameMeaningSaid :=
  OpenClaim.holds_of_cond 8 Tryd.f8 rfl rfl rfl rfl rfl rfl rfl ⟨rfl, rfl, rfl, rfl, rfl⟩ rfl rfl rfl rfl rfl (by kernel_rfl) Tryd.func8 (by kernel_rfl)
    (of_decide_eq_true (by kernel_rfl)) (by unfold Func.isWrapper; first | (rw [if_pos (by decide +kernel)]; kernel_rfl) | (rw [if_neg (by decide +kernel)]; exact ⟨rfl, rfl⟩))
    (fun os started H enc _ F => by rw [OpenClaim.pre_eq_preRow]; exact lifted os started H enc F)
theorem plain (f : FuncId) (fn : Func) (hf : Tryd.pinned.checked.prog.funcNamed "loop.example/g01013/laws.FnExactSameMeaning" = some f) (hfn : Tryd.pinned.checked.prog.funcs[f]? = some fn) :
    true = Tryd.pinned.checked.prog.looks [] ∧ ∀ (j : Nat) t, fn.params[j]? = some t → Tryd.pinned.checked.prog.wantsStandIn t = false := by
  obtain rfl : f = 8 := Option.some.inj ((show Tryd.prog.funcNamed "loop.example/g01013/laws.FnExactSameMeaning" = some 8 by kernel_rfl).symm.trans hf) |>.symm
  obtain rfl : fn = Tryd.f8 := (Option.some.inj (Tryd.func8.symm.trans hfn)).symm
  refine ⟨by kernel_rfl, fun j t ht => ?_⟩
  rw [Tryd.params8] at ht
  have hm := Array.mem_of_getElem? ht
  simp only [List.mem_toArray, List.mem_cons, List.not_mem_nil, or_false] at hm
  rcases hm with rfl | rfl | rfl | rfl
  · exact (show Tryd.prog.wantsStandIn 9 = false by kernel_rfl)
  · exact (show Tryd.prog.wantsStandIn 2 = false by kernel_rfl)
  · exact (show Tryd.prog.wantsStandIn 9 = false by kernel_rfl)
  · exact (show Tryd.prog.wantsStandIn 2 = false by kernel_rfl)
theorem proved : Rows.FnExactSameMeaningCardSaid :=
  Claim7.holds_tied_plain_at .later [] _ _ _ _ said (fun _ h => by cases h) (by kernel_rfl) (fun _ h => by cases h) fnExactSameMeaning_row_tie rfl ⟨rfl, rfl⟩ (by kernel_rfl) rfl plain (by kernel_rfl)
end fnExactSameMeaning
end Go.Proofs.YthbnliepgjjbdaaDoor
