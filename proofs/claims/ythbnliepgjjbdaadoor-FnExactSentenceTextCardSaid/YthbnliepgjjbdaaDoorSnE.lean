/- Sentences: the text of one, by the program. -/
import Derived.Test.YthbnliepgjjbdaaDoorSnF
import Derived.Test.YthbnliepgjjbdaaDoorSh
import Derived.Test.YthbnliepgjjbdaaDoorSen
import Derived.Lib.SplitLaws
namespace Go.Proofs.YthbnliepgjjbdaaDoor
open Go.ChangeShapes Go.WideShapes Go.ChangeAt Go.RowKit
set_option linter.unusedVariables false
theorem pat_facts {k l : Nat} (hk : 1 ≤ k ∧ k ≤ 7) (hl : 1 ≤ l ∧ l ≤ 4) : (patT k l).length ≤ 120 ∧ (60 : UInt8) ∉ (partT k l).1 ∧ (60 : UInt8) ∉ (partT k l).2.1 ∧ ∀ x ∈ wordT k l, x.length ≤ 20 ∧ (60 : UInt8) ∉ x := by
  have hk7 : k = 1 ∨ k = 2 ∨ k = 3 ∨ k = 4 ∨ k = 5 ∨ k = 6 ∨ k = 7 := by omega
  have hl4 : l = 1 ∨ l = 2 ∨ l = 3 ∨ l = 4 := by omega
  rcases hk7 with rfl | rfl | rfl | rfl | rfl | rfl | rfl <;> rcases hl4 with rfl | rfl | rfl | rfl <;> decide
def restT (k l : Nat) : List UInt8 := if k = 4 then (partT k l).2.1 ++ [60, 66, 62] ++ (partT k l).2.2 else (partT k l).2.1
def midT (k l : Nat) (a : Int) : List UInt8 := (partT k l).1 ++ numT k l a ++ restT k l
theorem patT_rest (k l : Nat) : patT k l = (partT k l).1 ++ [60, 65, 62] ++ restT k l := by unfold patT restT; split <;> rfl
theorem midT_text {k l : Nat} (h : k ≠ 4) (a b : Int) : midT k l a = textT k l a b := by unfold midT textT restT; rw [if_neg h, if_neg h]
theorem num_facts {k l : Nat} (hk : 1 ≤ k ∧ k ≤ 7) (hl : 1 ≤ l ∧ l ≤ 4) {n : Int} (hn : numOk k n) : (numT k l n).length ≤ 20 ∧ (60 : UInt8) ∉ numT k l n := by
  obtain ⟨_, _, _, hw⟩ := pat_facts hk hl
  have hg : ∀ j : Nat, (((wordT k l)[j]?).getD []).length ≤ 20 ∧ (60 : UInt8) ∉ ((wordT k l)[j]?).getD [] := fun j => by
    cases hq : (wordT k l)[j]? with
    | none => simp
    | some x => exact hw x (List.mem_of_getElem? hq)
  unfold numT
  split
  · exact hg _
  · split
    · exact hg _
    · have h2 : ∀ f m, m < 10 ^ f → (60 : UInt8) ∉ dg m := fun f => by
        induction f with
        | zero => intro m hm; rw [show m = 0 by omega]; simp [dg]
        | succ f ih =>
          intro m hm
          by_cases h0 : m = 0
          · subst h0; simp [dg]
          · rw [dg_step (by omega)]
            intro hq
            rcases List.mem_append.1 hq with hq | hq
            · exact ih (m / 10) (by rw [Nat.pow_succ] at hm; omega) hq
            · have e := List.mem_singleton.1 hq
              have e2 := congrArg UInt8.toNat e
              have h10 : (48 + m % 10) % 256 = 48 + m % 10 := Nat.mod_eq_of_lt (by omega)
              simp [UInt8.toNat_ofNat', h10] at e2
              omega
      have hb := hn.2.2 (by omega) (by omega) (by omega)
      by_cases h0 : n.toNat = 0
      · rw [h0, Lib.decDigits]; decide
      · have e : Lib.decDigits n.toNat = dg n.toNat := by rw [dg, if_neg h0]
        rw [e]
        exact ⟨Nat.le_trans (dg_len 19 _ (by omega)) (by omega), h2 19 _ (by omega)⟩
theorem wordB_ne {k l : Nat} (hk : 1 ≤ k ∧ k ≤ 7) (hl : 1 ≤ l ∧ l ≤ 4) : (k = 2 ∨ k = 4 ∨ k = 7) ↔ wordB k l ≠ [] := by
  have hk7 : k = 1 ∨ k = 2 ∨ k = 3 ∨ k = 4 ∨ k = 5 ∨ k = 6 ∨ k = 7 := by omega
  have hl4 : l = 1 ∨ l = 2 ∨ l = 3 ∨ l = 4 := by omega
  rcases hk7 with rfl | rfl | rfl | rfl | rfl | rfl | rfl <;> rcases hl4 with rfl | rfl | rfl | rfl <;> simp [wordB, wordT]
theorem okS_num {k a b : Int} (h : okS k a b = true) : ∃ kn : Nat, k = kn ∧ 1 ≤ kn ∧ kn ≤ 7 ∧ numOk kn a ∧ (kn = 4 → numOk 4 b) ∧ (kn ≠ 4 → b = 0) := by
  unfold okS inB at h
  have hk : 1 ≤ k ∧ k ≤ 7 := by
    apply Classical.byContradiction
    intro hq
    split at h
    · cases h
    · rw [if_neg (by omega), if_neg (by omega), if_neg (by omega), if_neg (by omega), if_neg (by omega), if_neg (by omega)] at h
      cases h
  obtain ⟨kn, rfl⟩ : ∃ kn : Nat, k = kn := ⟨k.toNat, by omega⟩
  refine ⟨kn, rfl, by omega, by omega, ?_, ?_, ?_⟩
  all_goals (try unfold numOk); all_goals (have hk7 : kn = 1 ∨ kn = 2 ∨ kn = 3 ∨ kn = 4 ∨ kn = 5 ∨ kn = 6 ∨ kn = 7 := by omega)
  all_goals (rcases hk7 with rfl | rfl | rfl | rfl | rfl | rfl | rfl <;> simp at h ⊢ <;> try omega)
/-- strings.Replace at a place of a text -/
theorem repl_c (x y z : UInt8) (q r v : List UInt8) (m0 : Int) (w : World) (hm0 : w.cell? ⟨0, 0, none⟩ = some (.int .i64 m0)) (hq : x ∉ q) (hl : (q ++ [x, y, z] ++ r).length ≤ 1000) (hv : v.length ≤ 1000) :
    Calls Tryd.prog 61 #[.string ⟨(q ++ [x, y, z] ++ r).toArray⟩, .string ⟨#[x, y, z]⟩, .string ⟨v.toArray⟩, .int .i64 1] w fun e w' => e = .returned (.string ⟨(q ++ v ++ r).toArray⟩) ∧ Below w.heap.size w w' := by
  have hs : (⟨(q ++ [x, y, z] ++ r).toArray⟩ : ByteArray).size = (q ++ [x, y, z] ++ r).length := rfl
  have hv2 : (⟨v.toArray⟩ : ByteArray).size = v.length := rfl
  have h := Tryd.strings_Replace ⟨(q ++ [x, y, z] ++ r).toArray⟩ ⟨#[x, y, z]⟩ ⟨v.toArray⟩ 1 m0 w (by rw [hs]; omega) hm0 (by show 1 ≤ 3; omega) (by
    have h1 := Lib.countB_le ⟨#[x, y, z]⟩ (by show 1 ≤ 3; omega) 1000 ⟨(q ++ [x, y, z] ++ r).toArray⟩ (by rw [hs]; omega)
    rw [hs] at h1 ⊢
    rw [hv2]
    have h2 := Nat.mul_le_mul (Nat.le_trans h1 hl) hv
    omega)
  have e := repl_place x y z q r v hq
  simp only at h
  rw [e] at h
  exact h
set_option maxHeartbeats 4000000 in
set_option maxRecDepth 100000 in
theorem iText_c (k l : Nat) (a b m0 : Int) (hk : 1 ≤ k ∧ k ≤ 7) (hl : 1 ≤ l ∧ l ≤ 4) (ha : numOk k a) (hb : k = 4 → numOk 4 b) (w : World) (hm0 : w.cell? ⟨0, 0, none⟩ = some (.int .i64 m0)) (ht : Tab10 w) :
    Calls Tryd.prog 39 #[.agg #[.int .i64 k, .int .i64 a, .int .i64 b], .int .i64 l] w fun e w' => e = .returned (.string ⟨(textT k l a b).toArray⟩) ∧ Below w.heap.size w w' := by
  have HM : Hid (∀ W, Below w.heap.size w W → W.cell? ⟨0, 0, none⟩ = some (.int .i64 m0)) := Lib.hid (fun W hW => (hW.cell (World.block_lt_of_cell? _ _ hm0)).trans hm0)
  have HT := Lib.hid (fun W (hW : Below w.heap.size w W) => ht.below hW)
  have HPF := Lib.hid (pat_facts hk hl)
  have HNA := Lib.hid ha
  have HNB := Lib.hid hb
  clear hm0 ht ha hb
  go_enter Tryd.func39, Tryd.ntmps39
  go_wp2_with fail
  refine (sentenceWords_c k l hk hl _).mono ?_
  rintro e w1 ⟨A, c, rfl, hr, he, hne, hB⟩
  have HR := Lib.hid hr
  have HE := Lib.hid he
  have HNE := Lib.hid hne
  have HB := Lib.hid hB
  clear hr he hne hB
  generalize hwl : (wordB k l).length = wl at *
  go_upto_region 3 with (fail)
  obtain ⟨W2, hW2⟩ : ∃ W2, W2 = (w1.alloc (.cells #[.int .i64 (leastT k)] 2)).alloc (.cells #[.slice A wl c] 60) := ⟨_, rfl⟩
  have B12 : Below w1.heap.size w1 W2 := by rw [hW2]; exact ((Below.refl _ _).alloc (Nat.le_refl _) _).alloc (by simp) _
  have K1 : Blk W2 w1.heap.size 2 #[.int .i64 (leastT k)] := by rw [hW2]; exact (Blk.new _ _ _).alloc _
  have K2 : Blk W2 (w1.heap.size + 1) 60 #[.slice A wl c] := by rw [hW2]; have := Blk.new (w1.alloc (.cells #[.int .i64 (leastT k)] 2)) 60 #[.slice A wl c]; simpa using this
  have hs01 := HB.out.size
  have B01 : Below w.heap.size w w1 := ((Below.refl w.heap.size w).alloc (Nat.le_refl _) _).trans (HB.out.mono (by simp))
  have KX : Blk W2 w.heap.size 26 #[.int .i64 k, .int .i64 a, .int .i64 b] := ((Blk.new w _ _).below HB.out (by simp)).below B12 (by simp at hs01; omega)
  have T2 := Lib.hid (B01.trans (B12.mono B01.size))
  rw [← hW2]
  clear hW2
  have HKX := Lib.hid KX
  have HCL : Hid (∀ n, numOk k n → ∀ W, Below W2.heap.size W2 W → Calls Tryd.prog 59 #[.int .i64 n, .pointer (some ⟨w1.heap.size + 1, 0, none⟩), .pointer (some ⟨w1.heap.size, 0, none⟩)] W fun e w' => e = .returned (.string (numB k l n)) ∧ Below W.heap.size W w') := Lib.hid (by
    intro n hn W hW
    have h1 : W.cell? ⟨w1.heap.size + 1, 0, none⟩ = some (.slice A wl c) := ((K2.below hW K2.lt).cell 0).trans rfl
    have h2 : W.cell? ⟨w1.heap.size, 0, none⟩ = some (.int .i64 (leastT k)) := ((K1.below hW K1.lt).cell 0).trans rfl
    subst hwl
    refine textWord_c k l hl n hn _ _ A c W h1 h2 ?_ HE.out (fun q => by obtain ⟨g, hg⟩ := HNE.out q; rw [hg]; simp) ?_ (HT.out W (T2.out.trans (hW.mono T2.out.size)))
    · have hx := HR.out.below B12
      exact (hx.more B12.size).below hW |>.more hW.size
    · exact wordB_ne hk hl)
  have HR1 : Hid (∀ W, Below W2.heap.size W2 W → Calls Tryd.prog 61 #[.string ⟨(patT k l).toArray⟩, .string ⟨#[60, 65, 62]⟩, .string (numB k l a), .int .i64 1] W fun e w' => e = .returned (.string ⟨(midT k l a).toArray⟩) ∧ Below W.heap.size W w') := Lib.hid (by
    intro W hW
    have hn := num_facts hk hl HNA.out
    have h1 := HPF.out.1
    rw [patT_rest] at h1 ⊢
    exact repl_c 60 65 62 (partT k l).1 (restT k l) (numT k l a) m0 W (HM.out W (T2.out.trans (hW.mono T2.out.size))) HPF.out.2.1 (by omega) (by omega))
  clear K1 K2 KX B12 hs01 B01
  have d0 : W2.cell? ⟨w.heap.size, 0, none⟩ = some (.int .i64 k) := HKX.out.cell 0
  have d1 : W2.cell? ⟨w.heap.size, 1, none⟩ = some (.int .i64 a) := HKX.out.cell 1
  have he : Enters Tryd.prog 59 := enters_of Tryd.func59 (by kernel_rfl) rfl
  have HEN := Lib.hid he
  unfold Enters at he
  have qd0 := cell_regrown d0
  have qd1 := cell_regrown d1
  refine wp_region_quiet_below (by kernel_rfl) (by kernel_rfl) ?_
  repeat (first | go_big_quiet_step ((first | (go_at_call 62; exact Calls.regrown_of (sentencePattern_c k l hk hl _)) | (go_at_call 59; exact Calls.regrown_of (HCL.out a HNA.out _ (below_regrown _ _ _))) | (go_at_call 61; exact Calls.regrown_of (HR1.out _ (below_regrown _ _ _))))) | quiet_step ((first | (go_at_call 62; exact Calls.regrown_of (sentencePattern_c k l hk hl _)) | (go_at_call 59; exact Calls.regrown_of (HCL.out a HNA.out _ (below_regrown _ _ _))) | (go_at_call 61; exact Calls.regrown_of (HR1.out _ (below_regrown _ _ _))))))
  refine wpQuiet_nil ?_
  intro W3 B3
  replace B3 := Lib.hid (show Below (W2).heap.size (W2) W3 from by obtain ⟨pq, rfl⟩ := B3; exact below_regrown _ _ _)
  clear qd0 qd1
  clear he d0 d1
  have T3 := Lib.hid (T2.out.trans (B3.out.mono T2.out.size))
  have HKX3 := Lib.hid (HKX.out.below B3.out HKX.out.lt)
  have hs3 := B3.out.size
  have HCL3 : Hid (∀ n, numOk k n → ∀ W, Below W3.heap.size W3 W → Calls Tryd.prog 59 #[.int .i64 n, .pointer (some ⟨w1.heap.size + 1, 0, none⟩), .pointer (some ⟨w1.heap.size, 0, none⟩)] W fun e w' => e = .returned (.string (numB k l n)) ∧ Below W.heap.size W w') := Lib.hid (fun n hn W hW => HCL.out n hn W (B3.out.trans (hW.mono B3.out.size)))
  have d0 : W3.cell? ⟨w.heap.size, 0, none⟩ = some (.int .i64 k) := HKX3.out.cell 0
  clear HR1 HCL HKX
  by_cases hk4 : k = 4
  · subst hk4
    have HNB4 := Lib.hid (HNB.out rfl)
    have HR2 : Hid (∀ W, Below W3.heap.size W3 W → Calls Tryd.prog 61 #[.string ⟨(midT 4 l a).toArray⟩, .string ⟨#[60, 66, 62]⟩, .string (numB 4 l b), .int .i64 1] W fun e w' => e = .returned (.string ⟨(textT 4 l a b).toArray⟩) ∧ Below W.heap.size W w') := Lib.hid (by
      intro W hW
      have hn := num_facts hk hl HNA.out
      have hm := num_facts hk hl HNB4.out
      have h1 := HPF.out.1
      have e1 : midT 4 l a = ((partT 4 l).1 ++ numT 4 l a ++ (partT 4 l).2.1) ++ [60, 66, 62] ++ (partT 4 l).2.2 := by unfold midT restT; rw [if_pos rfl]; simp
      have e2 : textT 4 l a b = ((partT 4 l).1 ++ numT 4 l a ++ (partT 4 l).2.1) ++ numT 4 l b ++ (partT 4 l).2.2 := by unfold textT; rw [if_pos rfl]; simp
      rw [e1, e2]
      refine repl_c 60 66 62 _ _ (numT 4 l b) m0 W (HM.out W (T3.out.trans (hW.mono T3.out.size))) ?_ ?_ (by omega)
      · intro hq
        rcases List.mem_append.1 hq with hq | hq
        · rcases List.mem_append.1 hq with hq | hq
          · exact HPF.out.2.1 hq
          · exact hn.2 hq
        · exact HPF.out.2.2.1 hq
      · unfold patT at h1
        rw [if_pos rfl] at h1
        simp only [List.length_append] at h1 ⊢
        omega)
    have d2 : W3.cell? ⟨w.heap.size, 2, none⟩ = some (.int .i64 b) := HKX3.out.cell 2
    have he := HEN.out
    unfold Enters at he
    go_wp2_with fail
    clear he
    refine (HCL3.out b HNB4.out _ (Below.refl _ _)).mono ?_
    rintro e w4 ⟨rfl, B4⟩
    have HB4 := Lib.hid B4
    clear B4 d0 d2
    go_wp2_with fail
    refine (HR2.out _ HB4.out).mono ?_
    rintro e w5 ⟨rfl, B5⟩
    go_wp2
    go_ret
    exact ⟨rfl, T3.out.trans ((HB4.out.trans (B5.mono HB4.out.size)).mono T3.out.size)⟩
  · have hk4' : ¬ ((k : Int) = 4) := by omega
    go_wp2
    go_ret
    exact ⟨by rw [midT_text hk4 a b]; rfl, T3.out⟩
end Go.Proofs.YthbnliepgjjbdaaDoor
