/- Numbers read from texts, by the program. -/
import Derived.Test.YteklfeeamjgplaaGreatDoorNmA
import Derived.Test.YteklfeeamjgplaaGreatDoorEnv
import Derived.Test.YteklfeeamjgplaaGreatDoorTx
import Derived.Shelf.Strconv.ParseIntPublic10
namespace Go.Proofs.YteklfeeamjgplaaGreatDoor
open Go.ChangeShapes Go.WideShapes Go.ChangeAt Go.RowKit
set_option linter.unusedVariables false
theorem parseInt_c (s : ByteArray) (hs : s.size ≤ 1048576) (w : World) (he : Env w) :
    Calls Tryz.prog 52 #[.string s, .int .i64 10, .int .i64 64] w fun e w' => Below w.heap.size w w' ∧
      ((∃ v, Lib.parseIntB 64 s.data.toList = .ok v ∧ e = .returned (.tuple #[.int .i64 v, .nilIface])) ∨
       ((∀ v, Lib.parseIntB 64 s.data.toList ≠ .ok v) ∧ ∃ z p, e = .returned (.tuple #[.int .i64 z, .iface 129 (.pointer (some p))]))) := by
  have hcell : ∀ {name : String} {g : Nat}, Tryz.prog.globalNamed name = some g → ErrV w name → ∃ ev, w.cell? ⟨g, 0, none⟩ = some ev ∧ (ev = .nilIface ∨ ∃ te pe, ev = .iface te pe) := by
    intro name g hg ⟨tp, p, h⟩
    exact ⟨_, by simpa using World.var?_cell hg h 0, .inr ⟨tp, p, rfl⟩⟩
  cases hq : Lib.parseIntB 64 s.data.toList
  · rename_i v
    refine (Any.strconv_ParseInt_10_at64_ok Tryz.laysC174 s (by omega) v hq w).mono ?_
    rintro e w' ⟨rfl, hw⟩
    refine ⟨?_, .inl ⟨v, rfl, rfl⟩⟩
    rcases hw with rfl | ⟨t, rfl⟩
    · exact Below.refl _ _
    · exact Lib.bytesWorld_below _ _ _
  · obtain ⟨ev, h1, h2⟩ := hcell gSyn he.syn
    refine (Any.strconv_ParseInt_10_at64_syntax Tryz.laysC174 s (by omega) hq ev w h1 h2).mono ?_
    rintro e w' ⟨N, rfl, _, _, hb⟩
    exact ⟨hb, .inr ⟨fun v hv => (by cases hv), _, _, rfl⟩⟩
  · obtain ⟨ev, h1, h2⟩ := hcell gRan he.ran
    refine (Any.strconv_ParseInt_10_at64_range Tryz.laysC174 s (by omega) hq ev w h1 h2).mono ?_
    rintro e w' ⟨N, rfl, _, _, hb⟩
    exact ⟨hb, .inr ⟨fun v hv => (by cases hv), _, _, rfl⟩⟩
theorem iDecimalZ_c (z : Int) (w : World) (h1 : -9223372036854775808 ≤ z) (h2 : z ≤ 9223372036854775807) (ht : Tab10 w) : Calls Tryz.prog 30 #[.int .i64 z] w fun e w' => e = .returned (.string ⟨(Lib.itoa z).toArray⟩) ∧ Below w.heap.size w w' := by
  have HF := Lib.hid (Tryz.strconv_FormatInt_10 z h1 h2 w ht)
  clear ht
  go_enter Tryz.func30, Tryz.ntmps30
  go_wp2_with fail
  refine HF.out.mono ?_
  rintro e w' ⟨rfl, k, os, rfl⟩
  go_wp2
  go_ret
  exact ⟨rfl, Lib.below_grow _ _ (Nat.le_refl _) _ _⟩
theorem eqLZ (a b : List UInt8) : ((⟨a.toArray⟩ : ByteArray).toList == (⟨b.toArray⟩ : ByteArray).toList) = decide (a = b) := by
  rw [eqT, Bool.eq_iff_iff, decide_eq_true_iff, decide_eq_true_iff]
  constructor
  · intro h
    have := congrArg (fun b : ByteArray => b.data.toList) h
    simpa using this
  · rintro rfl; rfl
theorem rdV_ok {s : ByteArray} {v : Int} (h : Lib.parseIntB 64 s.data.toList = .ok v) : rdV s = if (Lib.trimPrefix s.data.toList [45]).length ≤ 18 ∧ Lib.itoa v = s.data.toList then (v, true) else (0, false) := by unfold rdV; rw [h]
theorem rdV_no {s : ByteArray} (h : ∀ v, Lib.parseIntB 64 s.data.toList ≠ .ok v) : rdV s = (0, false) := by
  unfold rdV
  split
  · rename_i v hv; exact absurd hv (h v)
  · rfl
set_option maxHeartbeats 1000000 in
theorem iReadDecimal_c (s : ByteArray) (hs : s.size ≤ 1048576) (w : World) (he : Env w) :
    Calls Tryz.prog 27 #[.string s] w fun e w' => e = .returned (.tuple #[.int .i64 (rdV s).1, .bool (rdV s).2]) ∧ Below w.heap.size w w' := by
  have HP := Lib.hid (parseInt_c s hs w he)
  have HT := Lib.hid (fun W (hW : Below w.heap.size w W) => (he.below hW).tab)
  clear he
  go_enter Tryz.func27, Tryz.ntmps27
  go_wp2_with fail
  refine HP.out.mono ?_
  rintro e w1 ⟨B1, ⟨v, hv, rfl⟩ | ⟨hn, z, p, rfl⟩⟩
  · have T1 := Lib.hid B1
    have hvb := Lib.parseIntB_bounds hv
    have e63 : ((2 ^ (64 - 1) : Nat) : Int) = 9223372036854775808 := by decide
    rw [e63] at hvb
    have HV := Lib.hid (rdV_ok hv)
    have HTP := Lib.hid (fun W => Tryz.strings_TrimPrefix s ⟨#[45]⟩ W)
    obtain ⟨tb, htb⟩ : ∃ b : ByteArray, b = ⟨(Lib.trimPrefix s.data.toList [45]).toArray⟩ := ⟨_, rfl⟩
    have hsz : (Lib.trimPrefix s.data.toList [45]).length = tb.size := by rw [htb]; rfl
    have e45 : (⟨#[45]⟩ : ByteArray).data.toList = [45] := rfl
    rw [e45, ← htb] at HTP
    rw [hsz] at HV
    clear B1 hv e63 htb hsz e45 HP
    by_cases h18 : tb.size ≤ 18
    · have h18' : ¬ (18 : Int) < (tb.size : Int) := by omega
      have HD := Lib.hid (iDecimalZ_c v w1 (by omega) (by omega) (HT.out w1 T1.out))
      have HE := Lib.hid (eqLZ (Lib.itoa v) s.data.toList)
      have hmk : (⟨s.data.toList.toArray⟩ : ByteArray) = s := by cases s; rfl
      rw [hmk] at HE
      clear hmk
      by_cases hi : Lib.itoa v = s.data.toList
      · have hq : ((⟨(Lib.itoa v).toArray⟩ : ByteArray).toList == s.toList) = true := by rw [HE.out]; simpa using hi
        have HVV : Hid (rdV s = (v, true)) := Lib.hid (by rw [HV.out, if_pos ⟨h18, hi⟩])
        obtain ⟨db, hdb⟩ : ∃ b : ByteArray, b = ⟨(Lib.itoa v).toArray⟩ := ⟨_, rfl⟩
        rw [← hdb] at hq HD
        clear h18 hi HE hdb HV hvb
        go_wp2_with fail
        refine (HTP.out _).mono ?_
        rintro e w2 ⟨rfl, rfl⟩
        go_wp2_with fail
        refine HD.out.mono ?_
        rintro e w3 ⟨rfl, B3⟩
        go_wp2
        go_ret2
        exact ⟨by rw [HVV.out]; rfl, T1.out.trans (B3.mono T1.out.size)⟩
      · have hq : ((⟨(Lib.itoa v).toArray⟩ : ByteArray).toList == s.toList) = false := by rw [HE.out]; simpa using hi
        have HVV : Hid (rdV s = (0, false)) := Lib.hid (by rw [HV.out, if_neg (fun h => hi h.2)])
        obtain ⟨db, hdb⟩ : ∃ b : ByteArray, b = ⟨(Lib.itoa v).toArray⟩ := ⟨_, rfl⟩
        rw [← hdb] at hq HD
        clear h18 hi HE hdb HV hvb
        go_wp2_with fail
        refine (HTP.out _).mono ?_
        rintro e w2 ⟨rfl, rfl⟩
        go_wp2_with fail
        refine HD.out.mono ?_
        rintro e w3 ⟨rfl, B3⟩
        go_wp2
        go_ret2
        exact ⟨by rw [HVV.out]; rfl, T1.out.trans (B3.mono T1.out.size)⟩
    · have h18' : (18 : Int) < (tb.size : Int) := by omega
      have HVV : Hid (rdV s = (0, false)) := Lib.hid (by rw [HV.out, if_neg (fun h => h18 h.1)])
      clear h18 HV hvb
      go_wp2_with fail
      refine (HTP.out _).mono ?_
      rintro e w2 ⟨rfl, rfl⟩
      go_wp2
      go_ret2
      exact ⟨by rw [HVV.out]; rfl, T1.out⟩
  · have T1 := Lib.hid B1
    have HVV := Lib.hid (rdV_no hn)
    clear B1 hn HP
    go_wp2
    go_ret2
    exact ⟨by rw [HVV.out]; rfl, T1.out⟩
end Go.Proofs.YteklfeeamjgplaaGreatDoor
