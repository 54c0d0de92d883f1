/- Drawn bulletins: the list; names of languages. -/
import Derived.Test.YthbnliepgjjbdaaGreatDoorSdA
import Derived.Test.YthbnliepgjjbdaaGreatDoorSrcs
namespace Go.Proofs.YthbnliepgjjbdaaGreatDoor
open Go.ChangeShapes Go.WideShapes Go.ChangeAt Go.RowKit
set_option linter.unusedVariables false
theorem Only.thenBelow {w w1 w2 : World} {lo hi B : Nat} (h : Only lo hi w w1) (b : Below B w1 w2) (hB : w.heap.size ≤ B) : Only lo hi w w2 :=
  ⟨b.os.trans h.os, b.tape.trans h.tape, b.output.trans h.output, Nat.le_trans h.size b.size, fun k hk hc => (b.block k (by omega)).trans (h.block k hk hc)⟩
theorem bulOk_snoc {ss : List Sen} {s : Sen} (h : bulOk ss = true) (hs : s.ok = true) (hk : ∀ p ∈ ss, p.k < s.k) : bulOk (ss ++ [s]) = true := by
  refine bulOk_of fun i hi => ?_
  rw [List.length_append, List.length_singleton] at hi
  by_cases hlt : i < ss.length
  · have h1 : stepB ss i = true := by
      simp only [bulOk, List.all_eq_true, List.mem_range] at h
      exact h i hlt
    unfold stepB at h1 ⊢
    rw [List.getElem?_append_left hlt]
    cases i with
    | zero => exact h1
    | succ j =>
      have e2 : (ss ++ [s])[j]? = ss[j]? := List.getElem?_append_left (by omega)
      simp only [e2]
      exact h1
  · obtain rfl : i = ss.length := by omega
    have e : (ss ++ [s])[ss.length]? = some s := by simp
    unfold stepB
    rw [e]
    simp only [hs, Bool.true_and]
    cases hl : ss.length with
    | zero => rfl
    | succ j =>
      have hj : ss[j]? = some (ss[j]'(by omega)) := List.getElem?_eq_getElem (by omega)
      simp only
      rw [List.getElem?_append_left (by omega), hj]
      exact decide_eq_true (hk _ (List.mem_of_getElem? hj))
theorem own_onlyD {w w' : World} {lo lo' hi' s n : Nat} {T : TypeId} {v : Value} {xs : List Value} (h : w.ownsRow lo T s v n xs) (ho : Only lo' hi' w w') (hd : hi' ≤ lo) : w'.ownsRow lo T s v n xs :=
  ((Own.of_owns h (Nat.le_refl _)).only ho (.inr hd)).1
def BulDraw (g M lo : Nat) (w : World) (e : Ending) (w' : World) : Prop :=
  ∃ A c ss, e = .returned (.slice A ss.length c) ∧ w'.ownsRow lo 38 3 (.slice A ss.length c) ss.length (sens ss) ∧ bulB ss = true ∧ Src w' g M ∧ Only g (g + 1) w w'
set_option maxHeartbeats 2000000 in
set_option maxRecDepth 100000 in
theorem l19Draw_c (g : Nat) (w : World) (h : Src w g 0) :
    Calls Tryz.prog 22 #[.pointer (some ⟨g, 0, none⟩)] w (BulDraw g 100 w.heap.size w) := by
  have hg := h.lt
  have O1 : Hid ((w.alloc (.cells #[] 38)).ownsRow w.heap.size 38 3 (.slice (some ⟨w.heap.size, 0, none⟩) 0 0) ([] : List Sen).length (sens [])) := Lib.hid (World.ownsRow_lit (w := w) (base := w.heap.size) (e := 38) (size := 3) #[] 0 (Nat.le_refl _) (by simp [maxLen]) (by simp))
  have S1 := Lib.hid (h.alloc (.cells #[] 38))
  have Y1 : Hid (Only g (g + 1) w (w.alloc (.cells #[] 38))) := Lib.hid ((Only.refl g (g + 1) w).alloc' _)
  clear h
  go_enter Tryz.func22, Tryz.ntmps22
  go_wp2
  go_loopw [3, 4] (fun ov iv wr => ∃ (k : Nat) (ss : List Sen), 1 ≤ k ∧ k ≤ 8 ∧ iv = .int .i64 k ∧ ss.length < k ∧ Hid (wr.ownsRow w.heap.size 38 3 ov ss.length (sens ss)) ∧ Hid (bulOk ss = true) ∧ Hid (∀ s ∈ ss, s.k < (k : Int)) ∧ Hid (Src wr g (10 * k)) ∧ Hid (Only g (g + 1) w wr)) (fun _ iv _ => 8 - (intOf iv).toNat)
  case atStart => exact ⟨1, [], by omega, by omega, rfl, by simp, O1, Lib.hid rfl, Lib.hid (fun s hs => by cases hs), Lib.hid (S1.out.more (by omega)), Y1⟩
  case round =>
    clear O1 S1 Y1
    obtain ⟨k, ss, hk1, hk8, rfl, hls, HO, HBO, HLT, HS, HY⟩ := hrel
    have hsz := HY.out.size
    by_cases hlt : k = 8
    · subst hlt
      obtain ⟨A, c, rfl, _, _⟩ := (Own.of_owns HO.out (Nat.le_refl _)).slice
      go_wp2
      go_ret
      exact ⟨A, c, ss, rfl, HO.out, by unfold bulB; rw [HBO.out]; simp; omega, HS.out.more (by omega), HY.out⟩
    · have hkn : (k : Int) ≤ 7 := by omega
      have HL2 : Hid (∀ s ∈ ss, s.k < ((k + 1 : Nat) : Int)) := Lib.hid (fun s hs => by have := HLT.out s hs; omega)
      go_wp2_with fail
      refine (one_c g (10 * k) 2 wr HS.out (by omega) (by omega)).mono ?_
      rintro e w2 ⟨b, rfl, s2, y2⟩
      have S2 := Lib.hid s2
      have Y2 := Lib.hid (HY.out.trans y2)
      have HO2 := Lib.hid (own_onlyD HO.out y2 hg)
      have hs2 := y2.size
      clear s2 y2 HO HS
      cases b
      · have S3 := Lib.hid (S2.out.more (M' := 10 * (k + 1)) (by omega))
        go_wp2
        go_roundw
        case rel => exact ⟨k + 1, ss, by omega, by omega, by go_num, by omega, HO2, HBO, HL2, S3, Y2⟩
        case measure => simp [intOf]; omega
      · go_wp2_with fail
        refine (l19DrawOne_c g (10 * k + 2) k (by omega) w2 S2.out (by omega)).mono ?_
        rintro e w3 ⟨a, b, rfl, hok, s3, y3⟩
        have HO3 := Lib.hid (own_onlyD HO2.out y3 hg)
        have HOK := Lib.hid (show (⟨k, a, b⟩ : Sen).ok = true from hok)
        have S3 := Lib.hid (s3.alloc (.cells #[.int .i64 k, .int .i64 a, .int .i64 b] 38))
        have Y3 := Lib.hid ((Y2.out.trans y3).alloc' (.cells #[.int .i64 k, .int .i64 a, .int .i64 b] 38))
        have HO4 := Lib.hid (owns_alZ HO3.out (.cells #[.int .i64 k, .int .i64 a, .int .i64 b] 38))
        have hs3 := y3.size
        have HAL : Hid ((w3.alloc (.cells #[.int .i64 k, .int .i64 a, .int .i64 b] 38)).heap.size = w3.heap.size + 1) := Lib.hid (by simp)
        clear s3 y3 hok HO2 HO3 S2 Y2
        go_wp2_with (at_builtin; refine app_senk rfl (.tmp 12) (.tmp 16) rfl w.heap.size _ ss.length ss ⟨k, a, b⟩ w3.heap.size rfl HO4.out rfl ?_ (by omega) ?_ ?_)
        any_goals first | exact Blk.new _ _ _ | (have := HAL.out; omega)
        · intro v' w5 O5 G5 h5
          have B5 : Below w.heap.size (w3.alloc (.cells #[.int .i64 k, .int .i64 a, .int .i64 b] 38)) w5 := (Below.refl _ _).grown G5 (by have := HAL.out; omega) (fun q hq => (HO4.out.lt q hq).1)
          have HO5 : Hid (w5.ownsRow w.heap.size 38 3 v' (ss ++ [(⟨k, a, b⟩ : Sen)]).length (sens (ss ++ [⟨k, a, b⟩]))) := Lib.hid (by rw [List.length_append]; exact O5)
          have S5 := Lib.hid ((S3.out.below B5 hg).more (M' := 10 * (k + 1)) (by omega))
          have Y5 := Lib.hid (Y3.out.thenBelow B5 (Nat.le_refl _))
          have HB5 := Lib.hid (bulOk_snoc HBO.out HOK.out (fun p hp => HLT.out p hp))
          have HL5 : Hid (∀ s ∈ ss ++ [(⟨k, a, b⟩ : Sen)], s.k < ((k + 1 : Nat) : Int)) := Lib.hid (fun s hs => by
            rcases List.mem_append.1 hs with hs | hs
            · exact HL2.out s hs
            · rw [List.mem_singleton] at hs; rw [hs]; simp only; omega)
          have hlen : (ss ++ [(⟨k, a, b⟩ : Sen)]).length < k + 1 := by rw [List.length_append]; simp; omega
          clear O5 G5 h5 B5 HO4 S3 Y3
          go_wp2
          go_roundw
          case rel => exact ⟨k + 1, _, by omega, by omega, by go_num, hlen, HO5, HB5, HL5, S5, Y5⟩
          case measure => simp [intOf]; omega
theorem r8Bulletin_c (A : Option Addr) (n c : Nat) (zs : List Int) (w : World) (ha : Bytes w w.heap.size A n zs) (hn : n ≤ 1152921504606846976) :
    Calls Tryz.prog 12 #[.slice A n c] w fun e w' => ∃ D d ss, e = .returned (.slice D ss.length d) ∧ Own w' w.heap.size w'.heap.size 38 3 (.slice D ss.length d) ss.length (sens ss) ∧ bulB ss = true ∧ Below w.heap.size w w' := by
  have HF := Lib.hid (l00From_c A n c zs w ha hn)
  clear ha
  go_enter Tryz.func12, Tryz.ntmps12
  go_wp2_with fail
  refine HF.out.mono ?_
  rintro e w1 ⟨rfl, s1, b1, hs⟩
  have HD := Lib.hid (l19Draw_c w.heap.size w1 s1)
  have B1 := Lib.hid b1
  have HS := Lib.hid hs
  clear s1 b1 hs HF
  go_wp2_with fail
  refine HD.out.mono ?_
  rintro e w2 ⟨D, d, ss, rfl, o, hb, s2, y2⟩
  have HO := Lib.hid o
  have HB := Lib.hid hb
  have HT := Lib.hid (B1.out.trans (y2.below (Nat.le_refl _) B1.out.size))
  clear o hb s2 y2 HD
  go_wp2
  go_ret
  exact ⟨D, d, ss, rfl, (Own.of_owns HO.out (Nat.le_refl _)).widen (by have := HS.out; omega) (Nat.le_refl _), HB.out, HT.out⟩
def langNm (n : Nat) : ByteArray := if n = 1 then ⟨#[69, 110, 103, 108, 105, 115, 104]⟩ else if n = 2 then ⟨#[71, 101, 114, 109, 97, 110]⟩ else if n = 3 then ⟨#[70, 114, 101, 110, 99, 104]⟩ else ⟨#[73, 116, 97, 108, 105, 97, 110]⟩
end Go.Proofs.YthbnliepgjjbdaaGreatDoor
