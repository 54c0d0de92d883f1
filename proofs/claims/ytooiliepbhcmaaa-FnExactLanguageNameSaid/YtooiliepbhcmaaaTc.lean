/- ChangeOf, LevelName, LanguageName. -/
import Derived.Test.YtooiliepbhcmaaaTb
namespace Go.Proofs.Ytooiliepbhcmaaa
open Go.ChangeShapes Go.WideShapes Go.ChangeAt Go.RowKit

def cmpV (a b : Int) : Int := if a < b then -1 else if a > b then 1 else 0
def changeOfV (a b : Int) : Int × Int := if inB a 1 5 && inB b 1 5 then (cmpV b a, 0) else (0, 2)
theorem isNaN64_c (a : Int) (w : World) :
    Calls Try.prog 41 #[.int .i64 a] w fun e w' => e = .returned (.bool false) ∧ w = w' := by
  go_enter Try.func41, Try.ntmps41
  go_wp2
  all_goals (go_ret; exact ⟨by simp, rfl⟩)
theorem cmp64_c (a b : Int) (w : World) :
    Calls Try.prog 40 #[.int .i64 a, .int .i64 b] w fun e w' => e = .returned (.int .i64 (cmpV a b)) ∧ w = w' := by
  go_enter Try.func40, Try.ntmps40
  go_wp2_with (first | (go_at_call 41; refine (isNaN64_c _ _).mono ?_; rintro e w' ⟨rfl, rfl⟩))
  all_goals (go_ret; exact ⟨ret_int (by unfold cmpV; repeat' split <;> omega), rfl⟩)

theorem iChangeOf_c (a b : Int) (w : World) :
    Calls Try.prog 23 #[.int .i64 a, .int .i64 b] w fun e w' => e = .returned (.tuple #[.int .i64 (changeOfV a b).1, .int .i64 (changeOfV a b).2]) ∧ w = w' := by
  cases hb0 : inB a 1 5
  all_goals cases hb1 : inB b 1 5
  all_goals
    have hv : -1 ≤ cmpV b a ∧ cmpV b a ≤ 1 := by unfold cmpV; repeat' split <;> omega
    obtain ⟨hv1, hv2⟩ := hv
    go_enter Try.func23, Try.ntmps23
    go_wp2_with (first | (go_at_call 27; refine (levelOk_c _ _).mono ?_; rintro e w' ⟨rfl, rfl⟩) | (go_at_call 40; refine (cmp64_c _ _ _).mono ?_; rintro e w' ⟨rfl, rfl⟩))
    all_goals (go_ret2; exact ⟨by simp [changeOfV, hb0, hb1], rfl⟩)
theorem sChangeOf_c (a b : Int) (w : World) :
    Calls Try.prog 22 #[.int .i64 a, .int .i64 b] w fun e w' => e = .returned (.tuple #[.int .i64 (changeOfV a b).1, .int .i64 (changeOfV a b).2]) ∧ w = w' := by
  cases hb0 : inB a 1 5
  all_goals cases hb1 : inB b 1 5
  all_goals
    go_enter Try.func22, Try.ntmps22
    go_wp2_with (first | (go_at_call 26; refine (l17Is_c _ _).mono ?_; rintro e w' ⟨rfl, rfl⟩))
    all_goals (go_ret2; refine ⟨ret2 (show _ = (changeOfV a b).1 from ?_) (by simp [changeOfV, hb0, hb1]), rfl⟩)
    all_goals simp [changeOfV, hb0, hb1, cmpV]
    all_goals (repeat' split <;> omega)
theorem wChangeOf (a : Int) (_ : (Lit.int .i64 a).wf = true) (b : Int) (_ : (Lit.int .i64 b).wf = true) (w : World) :
    Calls Try.prog 9 #[.int .i64 a, .int .i64 b] w fun e w' => e = .returned (.bool true) ∧ Below w.heap.size w w' := by
  go_enter Try.func9, Try.ntmps9
  go_wp2_with (first | (go_at_call 23; refine (iChangeOf_c _ _ _).mono ?_; rintro e w' ⟨rfl, rfl⟩) | (go_at_call 22; refine (sChangeOf_c _ _ _).mono ?_; rintro e w' ⟨rfl, rfl⟩))
  all_goals (go_ret; exact ⟨rfl, by go_grown⟩)
namespace fnExactChangeOf
theorem own : ownKnob Try.prog.godebug = none := by kernel_rfl
set_option maxRecDepth 100000 in
theorem lifted (os : Os) (started : os.Started) (H : Type) (enc : TypeId × Value → H) :
    ReturnsInHanded {} Try.checked os 9 .any (Rows.fnExactChangeOfSpec.pre6 enc Try.prog Try.f9 Rows.fnExactChangeOfRow.domain false) (Rows.fnExactChangeOfSpec.post enc Try.prog Try.f9 false true false false) := by
  refine returnsInHanded_of_change (C := Try.checked) own started (by kernel_rfl) Try.func9
    (ChangeSpec.witness6 (enc := enc) (C := Try.checked) false ⟨#[], #[.int .i64 0, .int .i64 0], []⟩ 8 (by kernel_rfl) (by kernel_rfl) (by kernel_rfl) (by kernel_rfl)) ?_
  intro W base args ds gs before hval0 hW hcnd _
  have hval : ∀ (j : Nat) t v, Try.f9.params[j]? = some t → args[j]? = some v → Value.okWide Try.prog W .any base t v := hval0
  have hW' := hW
  obtain ⟨p, q, hA0, hV, rfl, hfz, hnd⟩ := hW
  have hA : DataW.TrodAll enc Try.prog W 0 (fun _ => true) true Try.f9.params.toList args.toList ds p := hA0
  rw [Try.params9] at hA hval
  obtain ⟨v0, vs0, d0, ds0, p0, q0, hargs, rfl, rfl, h0, r0⟩ := trodAll_cons hA
  obtain ⟨v1, vs1, d1, ds1, p1, q1, rfl, rfl, rfl, h1, r1⟩ := trodAll_cons r0
  obtain ⟨rfl, rfl, rfl⟩ := trodAll_nil r1
  obtain rfl : args = #[v0, v1] := by cases args; simp_all
  obtain ⟨rfl, rfl⟩ := trodVars_none hV
  obtain ⟨a, rfl, rfl, rfl, w0⟩ := open_int Try.underlying2 (hval 0 2 v0 rfl rfl) h0
  obtain ⟨b, rfl, rfl, rfl, w1⟩ := open_int Try.underlying2 (hval 1 2 v1 rfl rfl) h1
  clear hA0 hval0
  simp only [List.append_nil] at hW'
  refine (wChangeOf a w0 b w1 W).mono fun e W' ⟨he, hg⟩ => ?_
  subst he
  exact ⟨_, rfl, post_of_below (pa := []) (pv := []) hW' (fun _ _ _ => (trodAll_cons_mk (shut_bool Try.underlying4 _) trodAll_mk0)) (fun sp _ => (trodAll_cons_mk (shut_int Try.underlying2 w0) (trodAll_cons_mk (shut_int Try.underlying2 w1) trodAll_mk0))) (fun _ _ => rfl) rfl
    hg (ok_one (by kernel_rfl) rfl (okWide_bool_mk Try.underlying4 _))⟩
theorem over : Rows.fnExactChangeOfRow.holds Try.pinned (OpenSpec.ofChange Rows.fnExactChangeOfSpec) :=
  OpenClaim.holds_of_wide 9 Try.f9 rfl rfl rfl rfl rfl rfl rfl ⟨rfl, rfl, rfl, rfl, rfl⟩ rfl rfl rfl rfl rfl (by kernel_rfl) Try.func9 (by kernel_rfl)
    (of_decide_eq_true (by kernel_rfl)) (by unfold Func.isWrapper; first | (rw [if_pos (by decide +kernel)]; kernel_rfl) | (rw [if_neg (by decide +kernel)]; exact ⟨rfl, rfl⟩))
    (fun os started H enc _ => lifted os started H enc)
theorem proved : Rows.FnExactChangeOfSaid := over
end fnExactChangeOf

theorem languageOk_c (n : Int) (w : World) :
    Calls Try.prog 25 #[.int .i64 n] w fun e w' => e = .returned (.bool (inB n 1 4)) ∧ w = w' := by
  go_enter Try.func25, Try.ntmps25
  go_wp2_with (go_at_call 30; refine (within_c _ _ _ _).mono ?_; rintro e w' ⟨rfl, rfl⟩)
  go_ret
  exact ⟨rfl, rfl⟩
theorem l19Language_c (n : Int) (w : World) :
    Calls Try.prog 24 #[.int .i64 n] w fun e w' => e = .returned (.bool (inB n 1 4)) ∧ w = w' := by
  go_enter Try.func24, Try.ntmps24
  go_wp2_with (go_at_call 32; refine (l00In_c _ _ _ _).mono ?_; rintro e w' ⟨rfl, rfl⟩)
  go_ret
  exact ⟨rfl, rfl⟩
def langV (n : Int) : ByteArray := if n = 1 then ⟨#[69, 110, 103, 108, 105, 115, 104]⟩ else if n = 2 then ⟨#[71, 101, 114, 109, 97, 110]⟩ else if n = 3 then ⟨#[70, 114, 101, 110, 99, 104]⟩ else if n = 4 then ⟨#[73, 116, 97, 108, 105, 97, 110]⟩ else ⟨#[]⟩
def levelNameV (n : Int) : ByteArray := if n = 1 then ⟨#[108, 111, 119]⟩ else if n = 2 then ⟨#[109, 111, 100, 101, 114, 97, 116, 101]⟩ else if n = 3 then ⟨#[99, 111, 110, 115, 105, 100, 101, 114, 97, 98, 108, 101]⟩ else if n = 4 then ⟨#[104, 105, 103, 104]⟩ else if n = 5 then ⟨#[118, 101, 114, 121, 45, 104, 105, 103, 104]⟩ else ⟨#[]⟩
theorem inB_nb {n low high : Int} (h : inB n low high = false) : n < low ∨ high < n := by simp [inB] at h; omega
theorem sLanguageName_c (n : Int) (w : World) :
    Calls Try.prog 10 #[.int .i64 n] w fun e w' => e = .returned (.string (langV n)) ∧ Below w.heap.size w w' := by
  cases hb : inB n 1 4
  · have hv : langV n = ⟨#[]⟩ := by
      have := inB_nb hb; unfold langV; rw [if_neg (by omega), if_neg (by omega), if_neg (by omega), if_neg (by omega)]
    rw [hv]
    clear hv
    go_enter Try.func10, Try.ntmps10
    go_wp2_with (first | (go_at_call 24; refine (l19Language_c _ _).mono ?_; rintro e w' ⟨rfl, rfl⟩))
    go_ret
    exact ⟨rfl, Below.refl _ _⟩
  · have h : n = 1 ∨ n = 2 ∨ n = 3 ∨ n = 4 := by have := inB_b hb; omega
    rcases h with rfl | rfl | rfl | rfl
    all_goals
      go_enter Try.func10, Try.ntmps10
      go_wp2_with (first | (go_at_call 24; refine (l19Language_c _ _).mono ?_; rintro e w' ⟨rfl, rfl⟩))
      go_ret
      exact ⟨rfl, by go_grown⟩
theorem iLanguageName_c (n : Int) (w : World) :
    Calls Try.prog 11 #[.int .i64 n] w fun e w' => e = .returned (.string (langV n)) ∧ Below w.heap.size w w' := by
  cases hb : inB n 1 4
  · have hv : langV n = ⟨#[]⟩ := by
      have := inB_nb hb; unfold langV; rw [if_neg (by omega), if_neg (by omega), if_neg (by omega), if_neg (by omega)]
    rw [hv]
    clear hv
    go_enter Try.func11, Try.ntmps11
    go_wp2_with (first | (go_at_call 25; refine (languageOk_c _ _).mono ?_; rintro e w' ⟨rfl, rfl⟩))
    go_ret
    exact ⟨rfl, Below.refl _ _⟩
  · have h : n = 1 ∨ n = 2 ∨ n = 3 ∨ n = 4 := by have := inB_b hb; omega
    have i1 : ∀ w : World, (Instr.index 31 (.agg #[.string ⟨#[]⟩, .string ⟨#[69, 110, 103, 108, 105, 115, 104]⟩, .string ⟨#[71, 101, 114, 109, 97, 110]⟩, .string ⟨#[70, 114, 101, 110, 99, 104]⟩, .string ⟨#[73, 116, 97, 108, 105, 97, 110]⟩]) (.int .i64 1)).run Try.prog w = .ok (.string ⟨#[69, 110, 103, 108, 105, 115, 104]⟩) w := fun _ => by kernel_rfl
    have i2 : ∀ w : World, (Instr.index 31 (.agg #[.string ⟨#[]⟩, .string ⟨#[69, 110, 103, 108, 105, 115, 104]⟩, .string ⟨#[71, 101, 114, 109, 97, 110]⟩, .string ⟨#[70, 114, 101, 110, 99, 104]⟩, .string ⟨#[73, 116, 97, 108, 105, 97, 110]⟩]) (.int .i64 2)).run Try.prog w = .ok (.string ⟨#[71, 101, 114, 109, 97, 110]⟩) w := fun _ => by kernel_rfl
    have i3 : ∀ w : World, (Instr.index 31 (.agg #[.string ⟨#[]⟩, .string ⟨#[69, 110, 103, 108, 105, 115, 104]⟩, .string ⟨#[71, 101, 114, 109, 97, 110]⟩, .string ⟨#[70, 114, 101, 110, 99, 104]⟩, .string ⟨#[73, 116, 97, 108, 105, 97, 110]⟩]) (.int .i64 3)).run Try.prog w = .ok (.string ⟨#[70, 114, 101, 110, 99, 104]⟩) w := fun _ => by kernel_rfl
    have i4 : ∀ w : World, (Instr.index 31 (.agg #[.string ⟨#[]⟩, .string ⟨#[69, 110, 103, 108, 105, 115, 104]⟩, .string ⟨#[71, 101, 114, 109, 97, 110]⟩, .string ⟨#[70, 114, 101, 110, 99, 104]⟩, .string ⟨#[73, 116, 97, 108, 105, 97, 110]⟩]) (.int .i64 4)).run Try.prog w = .ok (.string ⟨#[73, 116, 97, 108, 105, 97, 110]⟩) w := fun _ => by kernel_rfl
    rcases h with rfl | rfl | rfl | rfl
    all_goals
      go_enter Try.func11, Try.ntmps11
      go_wp2_with (first | (go_at_call 25; refine (languageOk_c _ _).mono ?_; rintro e w' ⟨rfl, rfl⟩))
      go_ret
      exact ⟨rfl, by go_grown⟩
theorem wLanguageName (a : Int) (_ : (Lit.int .i64 a).wf = true) (w : World) :
    Calls Try.prog 3 #[.int .i64 a] w fun e w' => e = .returned (.bool true) ∧ Below w.heap.size w w' := by
  go_enter Try.func3, Try.ntmps3
  go_wp2_with fail
  refine (sLanguageName_c _ _).mono ?_
  rintro e w1 ⟨rfl, hb1⟩
  go_wp2_with fail
  refine (iLanguageName_c _ _).mono ?_
  rintro e w2 ⟨rfl, hb2⟩
  go_wp2
  all_goals (go_ret; exact ⟨rfl, hb1.trans (hb2.mono hb1.size)⟩)
namespace fnExactLanguageName
theorem own : ownKnob Try.prog.godebug = none := by kernel_rfl
set_option maxRecDepth 100000 in
theorem lifted (os : Os) (started : os.Started) (H : Type) (enc : TypeId × Value → H) :
    ReturnsInHanded {} Try.checked os 3 .any (Rows.fnExactLanguageNameSpec.pre6 enc Try.prog Try.f3 Rows.fnExactLanguageNameRow.domain false) (Rows.fnExactLanguageNameSpec.post enc Try.prog Try.f3 false true false false) := by
  refine returnsInHanded_of_change (C := Try.checked) own started (by kernel_rfl) Try.func3
    (ChangeSpec.witness6 (enc := enc) (C := Try.checked) false ⟨#[], #[.int .i64 0], []⟩ 8 (by kernel_rfl) (by kernel_rfl) (by kernel_rfl) (by kernel_rfl)) ?_
  intro W base args ds gs before hval0 hW hcnd _
  have hval : ∀ (j : Nat) t v, Try.f3.params[j]? = some t → args[j]? = some v → Value.okWide Try.prog W .any base t v := hval0
  have hW' := hW
  obtain ⟨p, q, hA0, hV, rfl, hfz, hnd⟩ := hW
  have hA : DataW.TrodAll enc Try.prog W 0 (fun _ => true) true Try.f3.params.toList args.toList ds p := hA0
  rw [Try.params3] at hA hval
  obtain ⟨v0, vs0, d0, ds0, p0, q0, hargs, rfl, rfl, h0, r0⟩ := trodAll_cons hA
  obtain ⟨rfl, rfl, rfl⟩ := trodAll_nil r0
  obtain rfl : args = #[v0] := by cases args; simp_all
  obtain ⟨rfl, rfl⟩ := trodVars_none hV
  obtain ⟨a, rfl, rfl, rfl, w0⟩ := open_int Try.underlying2 (hval 0 2 v0 rfl rfl) h0
  clear hA0 hval0
  simp only [List.append_nil] at hW'
  refine (wLanguageName a w0 W).mono fun e W' ⟨he, hg⟩ => ?_
  subst he
  exact ⟨_, rfl, post_of_below (pa := []) (pv := []) hW' (fun _ _ _ => (trodAll_cons_mk (shut_bool Try.underlying4 _) trodAll_mk0)) (fun sp _ => (trodAll_cons_mk (shut_int Try.underlying2 w0) trodAll_mk0)) (fun _ _ => rfl) rfl
    hg (ok_one (by kernel_rfl) rfl (okWide_bool_mk Try.underlying4 _))⟩
theorem over : Rows.fnExactLanguageNameRow.holds Try.pinned (OpenSpec.ofChange Rows.fnExactLanguageNameSpec) :=
  OpenClaim.holds_of_wide 3 Try.f3 rfl rfl rfl rfl rfl rfl rfl ⟨rfl, rfl, rfl, rfl, rfl⟩ rfl rfl rfl rfl rfl (by kernel_rfl) Try.func3 (by kernel_rfl)
    (of_decide_eq_true (by kernel_rfl)) (by unfold Func.isWrapper; first | (rw [if_pos (by decide +kernel)]; kernel_rfl) | (rw [if_neg (by decide +kernel)]; exact ⟨rfl, rfl⟩))
    (fun os started H enc _ => lifted os started H enc)
theorem proved : Rows.FnExactLanguageNameSaid := over
end fnExactLanguageName
theorem sLevelName_c (n : Int) (w : World) :
    Calls Try.prog 12 #[.int .i64 n] w fun e w' => e = .returned (.string (levelNameV n)) ∧ Below w.heap.size w w' := by
  cases hb : inB n 1 5
  · have hv : levelNameV n = ⟨#[]⟩ := by
      have := inB_nb hb; unfold levelNameV; rw [if_neg (by omega), if_neg (by omega), if_neg (by omega), if_neg (by omega), if_neg (by omega)]
    rw [hv]
    clear hv
    go_enter Try.func12, Try.ntmps12
    go_wp2_with (first | (go_at_call 26; refine (l17Is_c _ _).mono ?_; rintro e w' ⟨rfl, rfl⟩))
    go_ret
    exact ⟨rfl, Below.refl _ _⟩
  · have h : n = 1 ∨ n = 2 ∨ n = 3 ∨ n = 4 ∨ n = 5 := by have := inB_b hb; omega
    rcases h with rfl | rfl | rfl | rfl | rfl
    all_goals
      go_enter Try.func12, Try.ntmps12
      go_wp2_with (first | (go_at_call 26; refine (l17Is_c _ _).mono ?_; rintro e w' ⟨rfl, rfl⟩))
      go_ret
      exact ⟨rfl, by go_grown⟩
theorem iLevelName_c (n : Int) (w : World) :
    Calls Try.prog 13 #[.int .i64 n] w fun e w' => e = .returned (.string (levelNameV n)) ∧ Below w.heap.size w w' := by
  cases hb : inB n 1 5
  · have hv : levelNameV n = ⟨#[]⟩ := by
      have := inB_nb hb; unfold levelNameV; rw [if_neg (by omega), if_neg (by omega), if_neg (by omega), if_neg (by omega), if_neg (by omega)]
    rw [hv]
    clear hv
    go_enter Try.func13, Try.ntmps13
    go_wp2_with (first | (go_at_call 27; refine (levelOk_c _ _).mono ?_; rintro e w' ⟨rfl, rfl⟩))
    go_ret
    exact ⟨rfl, Below.refl _ _⟩
  · have h : n = 1 ∨ n = 2 ∨ n = 3 ∨ n = 4 ∨ n = 5 := by have := inB_b hb; omega
    have i1 : ∀ w : World, (Instr.index 32 (.agg #[.string ⟨#[]⟩, .string ⟨#[108, 111, 119]⟩, .string ⟨#[109, 111, 100, 101, 114, 97, 116, 101]⟩, .string ⟨#[99, 111, 110, 115, 105, 100, 101, 114, 97, 98, 108, 101]⟩, .string ⟨#[104, 105, 103, 104]⟩, .string ⟨#[118, 101, 114, 121, 45, 104, 105, 103, 104]⟩]) (.int .i64 1)).run Try.prog w = .ok (.string ⟨#[108, 111, 119]⟩) w := fun _ => by kernel_rfl
    have i2 : ∀ w : World, (Instr.index 32 (.agg #[.string ⟨#[]⟩, .string ⟨#[108, 111, 119]⟩, .string ⟨#[109, 111, 100, 101, 114, 97, 116, 101]⟩, .string ⟨#[99, 111, 110, 115, 105, 100, 101, 114, 97, 98, 108, 101]⟩, .string ⟨#[104, 105, 103, 104]⟩, .string ⟨#[118, 101, 114, 121, 45, 104, 105, 103, 104]⟩]) (.int .i64 2)).run Try.prog w = .ok (.string ⟨#[109, 111, 100, 101, 114, 97, 116, 101]⟩) w := fun _ => by kernel_rfl
    have i3 : ∀ w : World, (Instr.index 32 (.agg #[.string ⟨#[]⟩, .string ⟨#[108, 111, 119]⟩, .string ⟨#[109, 111, 100, 101, 114, 97, 116, 101]⟩, .string ⟨#[99, 111, 110, 115, 105, 100, 101, 114, 97, 98, 108, 101]⟩, .string ⟨#[104, 105, 103, 104]⟩, .string ⟨#[118, 101, 114, 121, 45, 104, 105, 103, 104]⟩]) (.int .i64 3)).run Try.prog w = .ok (.string ⟨#[99, 111, 110, 115, 105, 100, 101, 114, 97, 98, 108, 101]⟩) w := fun _ => by kernel_rfl
    have i4 : ∀ w : World, (Instr.index 32 (.agg #[.string ⟨#[]⟩, .string ⟨#[108, 111, 119]⟩, .string ⟨#[109, 111, 100, 101, 114, 97, 116, 101]⟩, .string ⟨#[99, 111, 110, 115, 105, 100, 101, 114, 97, 98, 108, 101]⟩, .string ⟨#[104, 105, 103, 104]⟩, .string ⟨#[118, 101, 114, 121, 45, 104, 105, 103, 104]⟩]) (.int .i64 4)).run Try.prog w = .ok (.string ⟨#[104, 105, 103, 104]⟩) w := fun _ => by kernel_rfl
    have i5 : ∀ w : World, (Instr.index 32 (.agg #[.string ⟨#[]⟩, .string ⟨#[108, 111, 119]⟩, .string ⟨#[109, 111, 100, 101, 114, 97, 116, 101]⟩, .string ⟨#[99, 111, 110, 115, 105, 100, 101, 114, 97, 98, 108, 101]⟩, .string ⟨#[104, 105, 103, 104]⟩, .string ⟨#[118, 101, 114, 121, 45, 104, 105, 103, 104]⟩]) (.int .i64 5)).run Try.prog w = .ok (.string ⟨#[118, 101, 114, 121, 45, 104, 105, 103, 104]⟩) w := fun _ => by kernel_rfl
    rcases h with rfl | rfl | rfl | rfl | rfl
    all_goals
      go_enter Try.func13, Try.ntmps13
      go_wp2_with (first | (go_at_call 27; refine (levelOk_c _ _).mono ?_; rintro e w' ⟨rfl, rfl⟩))
      go_ret
      exact ⟨rfl, by go_grown⟩
theorem wLevelName (a : Int) (_ : (Lit.int .i64 a).wf = true) (w : World) :
    Calls Try.prog 4 #[.int .i64 a] w fun e w' => e = .returned (.bool true) ∧ Below w.heap.size w w' := by
  go_enter Try.func4, Try.ntmps4
  go_wp2_with fail
  refine (sLevelName_c _ _).mono ?_
  rintro e w1 ⟨rfl, hb1⟩
  go_wp2_with fail
  refine (iLevelName_c _ _).mono ?_
  rintro e w2 ⟨rfl, hb2⟩
  go_wp2
  all_goals (go_ret; exact ⟨rfl, hb1.trans (hb2.mono hb1.size)⟩)
namespace fnExactLevelName
theorem own : ownKnob Try.prog.godebug = none := by kernel_rfl
set_option maxRecDepth 100000 in
theorem lifted (os : Os) (started : os.Started) (H : Type) (enc : TypeId × Value → H) :
    ReturnsInHanded {} Try.checked os 4 .any (Rows.fnExactLevelNameSpec.pre6 enc Try.prog Try.f4 Rows.fnExactLevelNameRow.domain false) (Rows.fnExactLevelNameSpec.post enc Try.prog Try.f4 false true false false) := by
  refine returnsInHanded_of_change (C := Try.checked) own started (by kernel_rfl) Try.func4
    (ChangeSpec.witness6 (enc := enc) (C := Try.checked) false ⟨#[], #[.int .i64 0], []⟩ 8 (by kernel_rfl) (by kernel_rfl) (by kernel_rfl) (by kernel_rfl)) ?_
  intro W base args ds gs before hval0 hW hcnd _
  have hval : ∀ (j : Nat) t v, Try.f4.params[j]? = some t → args[j]? = some v → Value.okWide Try.prog W .any base t v := hval0
  have hW' := hW
  obtain ⟨p, q, hA0, hV, rfl, hfz, hnd⟩ := hW
  have hA : DataW.TrodAll enc Try.prog W 0 (fun _ => true) true Try.f4.params.toList args.toList ds p := hA0
  rw [Try.params4] at hA hval
  obtain ⟨v0, vs0, d0, ds0, p0, q0, hargs, rfl, rfl, h0, r0⟩ := trodAll_cons hA
  obtain ⟨rfl, rfl, rfl⟩ := trodAll_nil r0
  obtain rfl : args = #[v0] := by cases args; simp_all
  obtain ⟨rfl, rfl⟩ := trodVars_none hV
  obtain ⟨a, rfl, rfl, rfl, w0⟩ := open_int Try.underlying2 (hval 0 2 v0 rfl rfl) h0
  clear hA0 hval0
  simp only [List.append_nil] at hW'
  refine (wLevelName a w0 W).mono fun e W' ⟨he, hg⟩ => ?_
  subst he
  exact ⟨_, rfl, post_of_below (pa := []) (pv := []) hW' (fun _ _ _ => (trodAll_cons_mk (shut_bool Try.underlying4 _) trodAll_mk0)) (fun sp _ => (trodAll_cons_mk (shut_int Try.underlying2 w0) trodAll_mk0)) (fun _ _ => rfl) rfl
    hg (ok_one (by kernel_rfl) rfl (okWide_bool_mk Try.underlying4 _))⟩
theorem over : Rows.fnExactLevelNameRow.holds Try.pinned (OpenSpec.ofChange Rows.fnExactLevelNameSpec) :=
  OpenClaim.holds_of_wide 4 Try.f4 rfl rfl rfl rfl rfl rfl rfl ⟨rfl, rfl, rfl, rfl, rfl⟩ rfl rfl rfl rfl rfl (by kernel_rfl) Try.func4 (by kernel_rfl)
    (of_decide_eq_true (by kernel_rfl)) (by unfold Func.isWrapper; first | (rw [if_pos (by decide +kernel)]; kernel_rfl) | (rw [if_neg (by decide +kernel)]; exact ⟨rfl, rfl⟩))
    (fun os started H enc _ => lifted os started H enc)
theorem proved : Rows.FnExactLevelNameSaid := over
end fnExactLevelName
end Go.Proofs.Ytooiliepbhcmaaa
