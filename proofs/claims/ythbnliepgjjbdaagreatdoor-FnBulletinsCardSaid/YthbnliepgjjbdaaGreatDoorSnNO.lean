/- XSnN, XSnO: merged texts. -/
import Derived.Test.YthbnliepgjjbdaaGreatDoorSnRP
import Derived.Test.YthbnliepgjjbdaaGreatDoorEnv
import Derived.Shelf.Strconv.ParseIntPublic10
/- Sentences: numbers read from words, by the program. -/
namespace Go.Proofs.YthbnliepgjjbdaaGreatDoor
open Go.ChangeShapes Go.WideShapes Go.ChangeAt Go.RowKit
set_option linter.unusedVariables false
theorem parseInt_c (s : ByteArray) (hs : s.size ≤ 1048576) (w : World) (he : Env w) :
    Calls Tryz.prog 72 #[.string s, .int .i64 10, .int .i64 64] w fun e w' => Below w.heap.size w w' ∧
      ((∃ v, Lib.parseIntB 64 s.data.toList = .ok v ∧ e = .returned (.tuple #[.int .i64 v, .nilIface])) ∨
       ((∀ v, Lib.parseIntB 64 s.data.toList ≠ .ok v) ∧ ∃ z p, e = .returned (.tuple #[.int .i64 z, .iface 126 (.pointer (some p))]))) := by
  have hcell : ∀ {name : String} {g : Nat}, Tryz.prog.globalNamed name = some g → ErrV w name → ∃ ev, w.cell? ⟨g, 0, none⟩ = some ev ∧ (ev = .nilIface ∨ ∃ te pe, ev = .iface te pe) := by
    intro name g hg ⟨tp, p, h⟩
    exact ⟨_, by simpa using World.var?_cell hg h 0, .inr ⟨tp, p, rfl⟩⟩
  cases hq : Lib.parseIntB 64 s.data.toList
  · rename_i v
    refine (Any.strconv_ParseInt_10_at64_ok Tryz.laysC174 s (by omega) v hq w).mono ?_
    rintro e w' ⟨rfl, hw⟩
    refine ⟨?_, .inl ⟨v, rfl, rfl⟩⟩
    rcases hw with rfl | ⟨t, rfl⟩
    · exact Below.refl _ _
    · exact Lib.bytesWorld_below _ _ _
  · obtain ⟨ev, h1, h2⟩ := hcell gSyn he.syn
    refine (Any.strconv_ParseInt_10_at64_syntax Tryz.laysC174 s (by omega) hq ev w h1 h2).mono ?_
    rintro e w' ⟨N, rfl, _, _, hb⟩
    exact ⟨hb, .inr ⟨fun v hv => (by cases hv), _, _, rfl⟩⟩
  · obtain ⟨ev, h1, h2⟩ := hcell gRan he.ran
    refine (Any.strconv_ParseInt_10_at64_range Tryz.laysC174 s (by omega) hq ev w h1 h2).mono ?_
    rintro e w' ⟨N, rfl, _, _, hb⟩
    exact ⟨hb, .inr ⟨fun v hv => (by cases hv), _, _, rfl⟩⟩
theorem iDecimalZ_c (z : Int) (w : World) (h1 : -9223372036854775808 ≤ z) (h2 : z ≤ 9223372036854775807) (ht : Tab10 w) : Calls Tryz.prog 37 #[.int .i64 z] w fun e w' => e = .returned (.string ⟨(Lib.itoa z).toArray⟩) ∧ Below w.heap.size w w' := by
  have HF := Lib.hid (Tryz.strconv_FormatInt_10 z h1 h2 w ht)
  clear ht
  go_enter Tryz.func37, Tryz.ntmps37
  go_wp2_with fail
  refine HF.out.mono ?_
  rintro e w' ⟨rfl, k, os, rfl⟩
  go_wp2
  go_ret
  exact ⟨rfl, Lib.below_grow _ _ (Nat.le_refl _) _ _⟩
theorem eqL (a b : List UInt8) : ((⟨a.toArray⟩ : ByteArray).toList == (⟨b.toArray⟩ : ByteArray).toList) = decide (a = b) := by
  rw [eqT, Bool.eq_iff_iff, decide_eq_true_iff, decide_eq_true_iff]
  constructor
  · intro h
    have := congrArg (fun b : ByteArray => b.data.toList) h
    simpa using this
  · rintro rfl; rfl
theorem rdV_ok {s : ByteArray} {v : Int} (h : Lib.parseIntB 64 s.data.toList = .ok v) : rdV s = if (Lib.trimPrefix s.data.toList [45]).length ≤ 18 ∧ Lib.itoa v = s.data.toList then (v, true) else (0, false) := by unfold rdV; rw [h]
theorem rdV_no {s : ByteArray} (h : ∀ v, Lib.parseIntB 64 s.data.toList ≠ .ok v) : rdV s = (0, false) := by
  unfold rdV
  split
  · rename_i v hv; exact absurd hv (h v)
  · rfl
set_option maxHeartbeats 1000000 in
theorem iReadDecimal_c (s : ByteArray) (hs : s.size ≤ 1048576) (w : World) (he : Env w) :
    Calls Tryz.prog 60 #[.string s] w fun e w' => e = .returned (.tuple #[.int .i64 (rdV s).1, .bool (rdV s).2]) ∧ Below w.heap.size w w' := by
  have HP := Lib.hid (parseInt_c s hs w he)
  have HT := Lib.hid (fun W (hW : Below w.heap.size w W) => (he.below hW).tab)
  clear he
  go_enter Tryz.func60, Tryz.ntmps60
  go_wp2_with fail
  refine HP.out.mono ?_
  rintro e w1 ⟨B1, ⟨v, hv, rfl⟩ | ⟨hn, z, p, rfl⟩⟩
  · have T1 := Lib.hid B1
    have hvb := Lib.parseIntB_bounds hv
    have e63 : ((2 ^ (64 - 1) : Nat) : Int) = 9223372036854775808 := by decide
    rw [e63] at hvb
    have HV := Lib.hid (rdV_ok hv)
    have HTP := Lib.hid (fun W => Tryz.strings_TrimPrefix s ⟨#[45]⟩ W)
    obtain ⟨tb, htb⟩ : ∃ b : ByteArray, b = ⟨(Lib.trimPrefix s.data.toList [45]).toArray⟩ := ⟨_, rfl⟩
    have hsz : (Lib.trimPrefix s.data.toList [45]).length = tb.size := by rw [htb]; rfl
    have e45 : (⟨#[45]⟩ : ByteArray).data.toList = [45] := rfl
    rw [e45, ← htb] at HTP
    rw [hsz] at HV
    clear B1 hv e63 htb hsz e45 HP
    by_cases h18 : tb.size ≤ 18
    · have h18' : ¬ (18 : Int) < (tb.size : Int) := by omega
      have HD := Lib.hid (iDecimalZ_c v w1 (by omega) (by omega) (HT.out w1 T1.out))
      have HE := Lib.hid (eqL (Lib.itoa v) s.data.toList)
      have hmk : (⟨s.data.toList.toArray⟩ : ByteArray) = s := by cases s; rfl
      rw [hmk] at HE
      clear hmk
      by_cases hi : Lib.itoa v = s.data.toList
      · have hq : ((⟨(Lib.itoa v).toArray⟩ : ByteArray).toList == s.toList) = true := by rw [HE.out]; simpa using hi
        have HVV : Hid (rdV s = (v, true)) := Lib.hid (by rw [HV.out, if_pos ⟨h18, hi⟩])
        obtain ⟨db, hdb⟩ : ∃ b : ByteArray, b = ⟨(Lib.itoa v).toArray⟩ := ⟨_, rfl⟩
        rw [← hdb] at hq HD
        clear h18 hi HE hdb HV hvb
        go_wp2_with fail
        refine (HTP.out _).mono ?_
        rintro e w2 ⟨rfl, rfl⟩
        go_wp2_with fail
        refine HD.out.mono ?_
        rintro e w3 ⟨rfl, B3⟩
        go_wp2
        go_ret2
        exact ⟨by rw [HVV.out]; rfl, T1.out.trans (B3.mono T1.out.size)⟩
      · have hq : ((⟨(Lib.itoa v).toArray⟩ : ByteArray).toList == s.toList) = false := by rw [HE.out]; simpa using hi
        have HVV : Hid (rdV s = (0, false)) := Lib.hid (by rw [HV.out, if_neg (fun h => hi h.2)])
        obtain ⟨db, hdb⟩ : ∃ b : ByteArray, b = ⟨(Lib.itoa v).toArray⟩ := ⟨_, rfl⟩
        rw [← hdb] at hq HD
        clear h18 hi HE hdb HV hvb
        go_wp2_with fail
        refine (HTP.out _).mono ?_
        rintro e w2 ⟨rfl, rfl⟩
        go_wp2_with fail
        refine HD.out.mono ?_
        rintro e w3 ⟨rfl, B3⟩
        go_wp2
        go_ret2
        exact ⟨by rw [HVV.out]; rfl, T1.out.trans (B3.mono T1.out.size)⟩
    · have h18' : (18 : Int) < (tb.size : Int) := by omega
      have HVV : Hid (rdV s = (0, false)) := Lib.hid (by rw [HV.out, if_neg (fun h => h18 h.1)])
      clear h18 HV hvb
      go_wp2_with fail
      refine (HTP.out _).mono ?_
      rintro e w2 ⟨rfl, rfl⟩
      go_wp2
      go_ret2
      exact ⟨by rw [HVV.out]; rfl, T1.out⟩
  · have T1 := Lib.hid B1
    have HVV := Lib.hid (rdV_no hn)
    clear B1 hn HP
    go_wp2
    go_ret2
    exact ⟨by rw [HVV.out]; rfl, T1.out⟩
end Go.Proofs.YthbnliepgjjbdaaGreatDoor

/- Sentences: the number of a word, by the program. -/
namespace Go.Proofs.YthbnliepgjjbdaaGreatDoor
open Go.ChangeShapes Go.WideShapes Go.ChangeAt Go.RowKit
set_option linter.unusedVariables false
theorem idx_range (zs : List ByteArray) (x : ByteArray) : -1 ≤ Lib.idxOfS zs x ∧ Lib.idxOfS zs x < zs.length := by
  have gen : ∀ (zs : List ByteArray) (i : Nat), Lib.idxFromS zs x i = -1 ∨ ((i : Int) ≤ Lib.idxFromS zs x i ∧ Lib.idxFromS zs x i < i + zs.length) := by
    intro zs
    induction zs with
    | nil => intro i; exact .inl rfl
    | cons z zs ih =>
      intro i
      unfold Lib.idxFromS
      by_cases hz : z = x
      · rw [if_pos hz]; refine .inr ⟨Int.le_refl _, ?_⟩; rw [List.length_cons]; omega
      · rw [if_neg hz]
        rcases ih (i + 1) with h | ⟨h1, h2⟩
        · exact .inl h
        · refine .inr ⟨by omega, ?_⟩; rw [List.length_cons]; omega
  have := gen zs 0
  unfold Lib.idxOfS
  omega
theorem idx_nodup {zs : List ByteArray} {x : ByteArray} {i : Nat} (hn : zs.Nodup) (h : zs[i]? = some x) : Lib.idxOfS zs x = i := by
  have hi := (List.getElem?_eq_some_iff.1 h).1
  have h1 := Lib.idxOfS_hit zs zs.length i x hi (Nat.le_refl _) (by simp [List.getD, h]) (fun j hj e => by
    have hj2 : zs[j]? = some x := by
      have hg := List.getElem?_eq_getElem (show j < zs.length by omega)
      simp [List.getD, hg] at e
      rw [hg, e]
    have := (List.getElem?_inj (by omega) hn).1 (hj2.trans h.symm)
    omega)
  rwa [List.take_length] at h1
theorem wordB_nodup {k l : Nat} (hk : k = 2 ∨ k = 4 ∨ k = 7) (hl : 1 ≤ l ∧ l ≤ 4) : (wordB k l).Nodup := by
  unfold wordB
  have h := (word_nodup hk hl).1
  unfold List.Nodup at h ⊢
  rw [List.pairwise_map]
  refine h.imp ?_
  intro a b hab e
  have := congrArg (fun b : ByteArray => b.data.toList) e
  exact hab (by simpa using this)
theorem dec_num {k l : Nat} (hk : ¬ (k = 2 ∨ k = 4 ∨ k = 7)) {n : Int} (hn : numOk k n) : rdV (numB k l n) = (n, true) := by
  have h0 := hn.2.2 (fun q => hk (.inl q)) (fun q => hk (.inr (.inl q))) (fun q => hk (.inr (.inr q)))
  have e : numB k l n = decB n.toNat := by
    unfold numB numT decB
    rw [if_neg (fun q => hk (.inl q)), if_neg (fun q => hk (.inr q))]
  rw [e, rd_dec (by omega)]
  congr 1
  omega
def NumPost (k l : Nat) (s : ByteArray) (w : World) (e : Ending) (w' : World) : Prop :=
  ∃ n : Int, e = .returned (.int .i64 n) ∧ (∀ m, numOk k m → s = numB k l m → n = m) ∧ Below w.heap.size w w'
set_option maxHeartbeats 1000000 in
theorem iNumberOfWord_c (k l : Nat) (hk : 1 ≤ k ∧ k ≤ 7) (hl : 1 ≤ l ∧ l ≤ 4) (s : ByteArray) (hs : s.size ≤ 1048576) (w : World) (he : Env w) :
    Calls Tryz.prog 47 #[.string s, .int .i64 k, .int .i64 l] w (NumPost k l s w) := by
  have hkw := wordB_ne hk hl
  by_cases hw : wordB k l = []
  · have hk' : ¬ (k = 2 ∨ k = 4 ∨ k = 7) := fun q => hkw.1 q hw
    have HRD := Lib.hid (fun W (hW : Below w.heap.size w W) => iReadDecimal_c s hs W (he.below hW))
    have HF : Hid (∀ m, numOk k m → s = numB k l m → rdV s = (m, true)) := Lib.hid (fun m h1 h2 => by rw [h2]; exact dec_num hk' h1)
    have HSW := Lib.hid (sentenceWords_c k l hk hl w)
    have hq0 : ∀ W : World, (binOp BinOp.eql 46 (.slice none 0 0) (.slice none 0 0)).run Tryz.prog W = .ok (.bool true) W := fun _ => by kernel_rfl
    clear hkw he
    go_enter Tryz.func47, Tryz.ntmps47
    go_wp2_with fail
    refine HSW.out.mono ?_
    rintro e w1 ⟨A, c, rfl, hr, hA, hne, hB⟩
    obtain ⟨rfl, rfl⟩ := hA hw
    have T1 := Lib.hid hB
    simp only [hw, List.length_nil]
    clear hr hA hne hB hw hk' HSW
    go_wp2_with fail
    refine (HRD.out _ T1.out).mono ?_
    rintro e w2 ⟨rfl, B2⟩
    have T2 := Lib.hid (T1.out.trans (B2.mono T1.out.size))
    generalize rdV s = v at *
    obtain ⟨z, ok⟩ := v
    clear B2 HRD
    simp only
    cases ok
    · go_wp2
      go_ret
      exact ⟨_, rfl, fun m h1 h2 => (by have := HF.out m h1 h2; cases this), T2.out⟩
    · go_wp2
      go_ret
      exact ⟨z, rfl, fun m h1 h2 => (by have := HF.out m h1 h2; injection this), T2.out⟩
  · have hk' := hkw.2 hw
    have HSW := Lib.hid (sentenceWords_c k l hk hl w)
    have hr2 := idx_range (wordB k l) s
    have HF : Hid (∀ m, numOk k m → s = numB k l m → 0 ≤ Lib.idxOfS (wordB k l) s ∧ leastT k + Lib.idxOfS (wordB k l) s = m) := Lib.hid (fun m h1 h2 => by
      obtain ⟨i, g1, g2⟩ := word_some hk' hl h1
      have g3 : (wordB k l)[i]? = some s := by unfold wordB; rw [List.getElem?_map, g1, h2]; rfl
      rw [idx_nodup (wordB_nodup hk' hl) g3]
      exact ⟨by omega, by omega⟩)
    have h38 : (wordB k l).length ≤ 8 := by
      have hlen := wordB_len (k := k) hl
      rcases hk' with hk2 | hk2
      · have := hlen.1 hk2; omega
      · have := hlen.2.1 hk2; omega
    have hlt : leastT k = 0 ∨ leastT k = -1 := by unfold leastT; split <;> omega
    clear hkw he
    go_enter Tryz.func47, Tryz.ntmps47
    go_wp2_with fail
    refine HSW.out.mono ?_
    rintro e w1 ⟨A, c, rfl, hr, hA, hne, hB⟩
    obtain ⟨g, rfl⟩ := hne hw
    have T1 := Lib.hid hB
    have HIX := Lib.hid (Tryz.slices_Index_string g 0 (wordB k l).length c (wordB k l) s w1 (Nat.le_refl _) (by omega) (fun j hj => by
      obtain ⟨ad, b, e1, _, hb, cb⟩ := hr.str (k := j) hj
      injection e1 with e1
      subst e1
      have e2 : (⟨g, 0 + j, none⟩ : Addr) = (⟨g, 0, none⟩ : Addr).add j := by unfold Addr.add; split <;> simp_all
      rw [e2, cb]
      congr 2
      simp [List.getD, hb]))
    rw [List.take_length] at HIX
    have hq1 : ∀ (n : Nat) (W : World), (binOp BinOp.eql 46 (.slice (some ⟨g, 0, none⟩) n c) (.slice none 0 0)).run Tryz.prog W = .ok (.bool false) W := fun _ _ => by kernel_rfl
    clear hr hA hne hB hw hk' HSW
    generalize Lib.idxOfS (wordB k l) s = ix at *
    generalize (wordB k l).length = wl at *
    generalize leastT k = lt at *
    go_wp2_with fail
    refine HIX.out.mono ?_
    rintro e w2 ⟨rfl, rfl⟩
    by_cases h0 : ix < 0
    · clear hq1
      have hix : ix = -1 := by omega
      go_wp2
      go_ret
      refine ⟨_, rfl, fun m h1 h2 => ?_, T1.out⟩
      exfalso
      have := (HF.out m h1 h2).1
      omega
    · have hwr : IntKind.i64.wrap (lt + ix) = lt + ix := IntWalk.i64_in _ (by omega)
      clear hq1 hr2 h38 hlt
      go_wp2
      go_ret
      exact ⟨lt + ix, rfl, fun m h1 h2 => (HF.out m h1 h2).2, T1.out⟩
end Go.Proofs.YthbnliepgjjbdaaGreatDoor
