/- Sentences: the number of a word, by the program. -/
import Derived.Test.YthbnliepgjjbdaaDoorSnN
namespace Go.Proofs.YthbnliepgjjbdaaDoor
open Go.ChangeShapes Go.WideShapes Go.ChangeAt Go.RowKit
set_option linter.unusedVariables false
theorem idx_range (zs : List ByteArray) (x : ByteArray) : -1 ≤ Lib.idxOfS zs x ∧ Lib.idxOfS zs x < zs.length := by
  have gen : ∀ (zs : List ByteArray) (i : Nat), Lib.idxFromS zs x i = -1 ∨ ((i : Int) ≤ Lib.idxFromS zs x i ∧ Lib.idxFromS zs x i < i + zs.length) := by
    intro zs
    induction zs with
    | nil => intro i; exact .inl rfl
    | cons z zs ih =>
      intro i
      unfold Lib.idxFromS
      by_cases hz : z = x
      · rw [if_pos hz]; refine .inr ⟨Int.le_refl _, ?_⟩; rw [List.length_cons]; omega
      · rw [if_neg hz]
        rcases ih (i + 1) with h | ⟨h1, h2⟩
        · exact .inl h
        · refine .inr ⟨by omega, ?_⟩; rw [List.length_cons]; omega
  have := gen zs 0
  unfold Lib.idxOfS
  omega
theorem idx_nodup {zs : List ByteArray} {x : ByteArray} {i : Nat} (hn : zs.Nodup) (h : zs[i]? = some x) : Lib.idxOfS zs x = i := by
  have hi := (List.getElem?_eq_some_iff.1 h).1
  have h1 := Lib.idxOfS_hit zs zs.length i x hi (Nat.le_refl _) (by simp [List.getD, h]) (fun j hj e => by
    have hj2 : zs[j]? = some x := by
      have hg := List.getElem?_eq_getElem (show j < zs.length by omega)
      simp [List.getD, hg] at e
      rw [hg, e]
    have := (List.getElem?_inj (by omega) hn).1 (hj2.trans h.symm)
    omega)
  rwa [List.take_length] at h1
theorem wordB_nodup {k l : Nat} (hk : k = 2 ∨ k = 4 ∨ k = 7) (hl : 1 ≤ l ∧ l ≤ 4) : (wordB k l).Nodup := by
  unfold wordB
  have h := (word_nodup hk hl).1
  unfold List.Nodup at h ⊢
  rw [List.pairwise_map]
  refine h.imp ?_
  intro a b hab e
  have := congrArg (fun b : ByteArray => b.data.toList) e
  exact hab (by simpa using this)
theorem dec_num {k l : Nat} (hk : ¬ (k = 2 ∨ k = 4 ∨ k = 7)) {n : Int} (hn : numOk k n) : rdV (numB k l n) = (n, true) := by
  have h0 := hn.2.2 (fun q => hk (.inl q)) (fun q => hk (.inr (.inl q))) (fun q => hk (.inr (.inr q)))
  have e : numB k l n = decB n.toNat := by
    unfold numB numT decB
    rw [if_neg (fun q => hk (.inl q)), if_neg (fun q => hk (.inr q))]
  rw [e, rd_dec (by omega)]
  congr 1
  omega
def NumPost (k l : Nat) (s : ByteArray) (w : World) (e : Ending) (w' : World) : Prop :=
  ∃ n : Int, e = .returned (.int .i64 n) ∧ (∀ m, numOk k m → s = numB k l m → n = m) ∧ Below w.heap.size w w'
set_option maxHeartbeats 1000000 in
theorem iNumberOfWord_c (k l : Nat) (hk : 1 ≤ k ∧ k ≤ 7) (hl : 1 ≤ l ∧ l ≤ 4) (s : ByteArray) (hs : s.size ≤ 1048576) (w : World) (he : Env w) :
    Calls Tryd.prog 71 #[.string s, .int .i64 k, .int .i64 l] w (NumPost k l s w) := by
  have hkw := wordB_ne hk hl
  by_cases hw : wordB k l = []
  · have hk' : ¬ (k = 2 ∨ k = 4 ∨ k = 7) := fun q => hkw.1 q hw
    have HRD := Lib.hid (fun W (hW : Below w.heap.size w W) => iReadDecimal_c s hs W (he.below hW))
    have HF : Hid (∀ m, numOk k m → s = numB k l m → rdV s = (m, true)) := Lib.hid (fun m h1 h2 => by rw [h2]; exact dec_num hk' h1)
    have HSW := Lib.hid (sentenceWords_c k l hk hl w)
    have hq0 : ∀ W : World, (binOp BinOp.eql 60 (.slice none 0 0) (.slice none 0 0)).run Tryd.prog W = .ok (.bool true) W := fun _ => by kernel_rfl
    clear hkw he
    go_enter Tryd.func71, Tryd.ntmps71
    go_wp2_with fail
    refine HSW.out.mono ?_
    rintro e w1 ⟨A, c, rfl, hr, hA, hne, hB⟩
    obtain ⟨rfl, rfl⟩ := hA hw
    have T1 := Lib.hid hB
    simp only [hw, List.length_nil]
    clear hr hA hne hB hw hk' HSW
    go_wp2_with fail
    refine (HRD.out _ T1.out).mono ?_
    rintro e w2 ⟨rfl, B2⟩
    have T2 := Lib.hid (T1.out.trans (B2.mono T1.out.size))
    generalize rdV s = v at *
    obtain ⟨z, ok⟩ := v
    clear B2 HRD
    simp only
    cases ok
    · go_wp2
      go_ret
      exact ⟨_, rfl, fun m h1 h2 => (by have := HF.out m h1 h2; cases this), T2.out⟩
    · go_wp2
      go_ret
      exact ⟨z, rfl, fun m h1 h2 => (by have := HF.out m h1 h2; injection this), T2.out⟩
  · have hk' := hkw.2 hw
    have HSW := Lib.hid (sentenceWords_c k l hk hl w)
    have hr2 := idx_range (wordB k l) s
    have HF : Hid (∀ m, numOk k m → s = numB k l m → 0 ≤ Lib.idxOfS (wordB k l) s ∧ leastT k + Lib.idxOfS (wordB k l) s = m) := Lib.hid (fun m h1 h2 => by
      obtain ⟨i, g1, g2⟩ := word_some hk' hl h1
      have g3 : (wordB k l)[i]? = some s := by unfold wordB; rw [List.getElem?_map, g1, h2]; rfl
      rw [idx_nodup (wordB_nodup hk' hl) g3]
      exact ⟨by omega, by omega⟩)
    have h38 : (wordB k l).length ≤ 8 := by
      have hlen := wordB_len (k := k) hl
      rcases hk' with hk2 | hk2
      · have := hlen.1 hk2; omega
      · have := hlen.2.1 hk2; omega
    have hlt : leastT k = 0 ∨ leastT k = -1 := by unfold leastT; split <;> omega
    clear hkw he
    go_enter Tryd.func71, Tryd.ntmps71
    go_wp2_with fail
    refine HSW.out.mono ?_
    rintro e w1 ⟨A, c, rfl, hr, hA, hne, hB⟩
    obtain ⟨g, rfl⟩ := hne hw
    have T1 := Lib.hid hB
    have HIX := Lib.hid (Tryd.slices_Index_string g 0 (wordB k l).length c (wordB k l) s w1 (Nat.le_refl _) (by omega) (fun j hj => by
      obtain ⟨ad, b, e1, _, hb, cb⟩ := hr.str (k := j) hj
      injection e1 with e1
      subst e1
      have e2 : (⟨g, 0 + j, none⟩ : Addr) = (⟨g, 0, none⟩ : Addr).add j := by unfold Addr.add; split <;> simp_all
      rw [e2, cb]
      congr 2
      simp [List.getD, hb]))
    rw [List.take_length] at HIX
    have hq1 : ∀ (n : Nat) (W : World), (binOp BinOp.eql 60 (.slice (some ⟨g, 0, none⟩) n c) (.slice none 0 0)).run Tryd.prog W = .ok (.bool false) W := fun _ _ => by kernel_rfl
    clear hr hA hne hB hw hk' HSW
    generalize Lib.idxOfS (wordB k l) s = ix at *
    generalize (wordB k l).length = wl at *
    generalize leastT k = lt at *
    go_wp2_with fail
    refine HIX.out.mono ?_
    rintro e w2 ⟨rfl, rfl⟩
    by_cases h0 : ix < 0
    · clear hq1
      have hix : ix = -1 := by omega
      go_wp2
      go_ret
      refine ⟨_, rfl, fun m h1 h2 => ?_, T1.out⟩
      exfalso
      have := (HF.out m h1 h2).1
      omega
    · have hwr : IntKind.i64.wrap (lt + ix) = lt + ix := IntWalk.i64_in _ (by omega)
      clear hq1 hr2 h38 hlt
      go_wp2
      go_ret
      exact ⟨lt + ix, rfl, fun m h1 h2 => (HF.out m h1 h2).2, T1.out⟩
end Go.Proofs.YthbnliepgjjbdaaDoor
