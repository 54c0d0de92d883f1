/- Marks: texts that tell places apart; lists of texts marked and held. -/
import Derived.Test.YteklfeeamjgplaaDoorRgA
import Derived.Laws.BytesArg
namespace Go.Proofs.YteklfeeamjgplaaDoor
open Go.ChangeShapes Go.WideShapes Go.ChangeAt Go.RowKit
set_option linter.unusedVariables false
def mloop : Nat → Nat → ByteArray → ByteArray
  | 0, _, s => s
  | f + 1, k, s => if k = 0 then s else mloop f (k / 10) (strOfNums [48 + (k : Int) % 10] ++ s)
theorem mloop_zero (f : Nat) (s : ByteArray) : mloop f 0 s = s := by cases f <;> simp [mloop]
def mtxN (k : Nat) : ByteArray := ⟨#[109]⟩ ++ mloop k k ⟨#[]⟩
def mtx (k : Int) : ByteArray := mtxN k.toNat
def mts (k : Int) (n : Nat) : List ByteArray := (marks k n).map mtx
set_option maxHeartbeats 1000000 in
theorem markTextN_c (k : Nat) (w : World) (hk : 0 < k) (h1 : k ≤ 1152921504606846976) :
    Calls Tryd.prog 27 #[.int .i64 k] w fun e w' => e = .returned (.string (mtxN k)) ∧ Below w.heap.size w w' := by
  have hkz : (0 : Int) < (k : Int) := by omega
  have hk0 : ¬ (k = 0) := by omega
  have hcv : ∀ (z : Int) (W : World), (convert 56 9 (.slice (some ⟨W.heap.size, 0, none⟩) 1 1)).run Tryd.prog (W.alloc (.cells #[.int .u8 z] 5)) = .ok (.string (strOfNums [z])) (W.alloc (.cells #[.int .u8 z] 5)) := fun z W =>
    run_convert_bytes_arg _ 56 5 Tryd.underlying56 Tryd.underlying5 W.heap.size 0 1 1 [z] rfl (fun i hi => by
      obtain rfl : i = 0 := by omega
      exact (Blk.new W 5 #[.int .u8 z]).cell 0) 9 Tryd.underlying9
  go_enter Tryd.func27, Tryd.ntmps27
  go_wp2
  go_loopw [0, 3] (fun u o wr => ∃ (k' f : Nat) (s : ByteArray), u = .int .i64 k' ∧ s.size + k' ≤ k ∧ o = .string s ∧ k' ≤ f ∧ Hid (mloop f k' s = mloop k k ⟨#[]⟩) ∧ Hid (Below w.heap.size w wr)) (fun u _ _ => (intOf u).toNat)
  case atStart => exact ⟨k, k, _, rfl, by show 0 + k ≤ k; omega, rfl, Nat.le_refl _, Lib.hid rfl, Lib.hid (Below.refl _ _)⟩
  case round =>
    obtain ⟨k', f, s, rfl, hk', rfl, hf, HM, HW⟩ := hrel
    by_cases hp : 0 < k'
    · have hpz : (0 : Int) < (k' : Int) := by omega
      have hss : (strOfNums [48 + (k' : Int) % 10]).size = 1 := strOfNums_size _
      have hap : (strOfNums [48 + (k' : Int) % 10] ++ s).size = 1 + s.size := by rw [ByteArray.size_append, hss]
      have HAP := Lib.hid hap
      have HM2 : Hid (mloop (f - 1) (k' / 10) (strOfNums [48 + (k' : Int) % 10] ++ s) = mloop k k ⟨#[]⟩) := Lib.hid (by
        rw [← HM.out]
        conv => rhs; rw [show f = (f - 1) + 1 by omega]
        rw [mloop, if_neg (by omega)])
      clear hkz hap
      go_wp2
      go_roundw
      case rel => exact ⟨k' / 10, f - 1, _, by go_num, by rw [HAP.out]; omega, rfl, by omega, HM2, Lib.hid (HW.out.alloc HW.out.size _)⟩
      case measure => simp [intOf]; omega
    · obtain rfl : k' = 0 := by omega
      have HS : Hid (s = mloop k k ⟨#[]⟩) := Lib.hid (by rw [← HM.out, mloop_zero])
      clear hkz
      go_wp2
      go_ret
      exact ⟨by rw [HS.out]; rfl, HW.out⟩
theorem markText_c (k : Int) (w : World) (hk : 1 ≤ k) (h1 : k ≤ 1152921504606846976) :
    Calls Tryd.prog 27 #[.int .i64 k] w fun e w' => e = .returned (.string (mtx k)) ∧ Below w.heap.size w w' := by
  obtain ⟨m, rfl⟩ : ∃ m : Nat, k = m := ⟨k.toNat, by omega⟩
  have e : mtx (m : Int) = mtxN m := by unfold mtx; rw [Int.toNat_natCast]
  rw [e]
  exact markTextN_c m w (by omega) (by omega)
theorem marks_succ' (k : Int) (m : Nat) : marks k (m + 1) = marks k m ++ [k + m] := by
  induction m generalizing k with
  | zero => simp [marks]
  | succ m ih =>
    rw [marks, ih (k + 1), marks]
    simp; omega
theorem mts_len (k : Int) (n : Nat) : (mts k n).length = n := by simp [mts, marks_length]
theorem mts_get (k : Int) (n j : Nat) (h : j < n) : (mts k n)[j]? = some (mtx (k + j)) := by
  unfold mts
  rw [List.getElem?_map, marks_get k n j h]; rfl
theorem mts_set {xs : List Value} {k : Int} {m n : Nat} (hl : xs.length = n) (hm : m < n) : (strs (mts k m) ++ xs.drop m).set m (.string (mtx (k + m))) = strs (mts k (m + 1)) ++ xs.drop (m + 1) := by
  rw [List.set_append_right _ _ (by simp [strs_len, mts_len])]
  simp only [strs_len, mts_len, Nat.sub_self]
  rw [List.drop_eq_getElem_cons (by omega), List.set_cons_zero]
  unfold mts
  rw [marks_succ']
  simp [strs]
set_option maxHeartbeats 1000000 in
theorem markStringS_c (A : Option Addr) (n c lo hi : Nat) (xs : List Value) (k : Int) (w : World) (h : Own w lo hi 9 1 (.slice A n c) n xs) (hh : hi ≤ w.heap.size) (hn : n ≤ 1048576) (hk0 : 1 ≤ k) (hk1 : k ≤ 36028797018963968) :
    Calls Tryd.prog 28 #[.slice A n c, .int .i64 k] w fun e w' => e = .returned (.int .i64 (k + n)) ∧ Own w' lo hi 9 1 (.slice A n c) n (strs (mts k n)) ∧ Only lo hi w w' := by
  have HL := Lib.hid (show xs.length = n by simpa using h.1.1)
  go_enter Tryd.func28, Tryd.ntmps28
  go_wp2
  go_loopw [1, 5] (fun j i wr => ∃ m : Nat, m ≤ n ∧ i = .int .i64 m ∧ j = .int .i64 (k + m) ∧ Hid (Own wr lo hi 9 1 (.slice A n c) n (strs (mts k m) ++ xs.drop m)) ∧ Hid (Only lo hi w wr)) (fun _ i _ => n - (intOf i).toNat)
  case atStart => exact ⟨0, Nat.zero_le _, rfl, by go_num, Lib.hid (by simpa [mts, marks, strs] using h), Lib.hid (Only.refl _ _ _)⟩
  case round =>
    clear h
    obtain ⟨m, hm, rfl, rfl, HO, HW⟩ := hrel
    have hwz := HW.out.size
    by_cases hlt : m < n
    · go_wp2_with fail
      refine (markText_c (k + m) wr (by omega) (by omega)).mono ?_
      rintro e w1 ⟨rfl, B1⟩
      have hs1 := B1.size
      have HO1 := Lib.hid (HO.out.below B1 (by omega))
      have HW1 := Lib.hid (HW.out.trans (Only.of_below B1 (show wr.heap.size ≤ wr.heap.size by omega) (Nat.zero_le _) |> fun h => (⟨h.os, h.tape, h.output, h.size, fun q hq hc => B1.block q hq⟩ : Only lo hi wr w1)))
      clear B1 HO HW
      obtain ⟨g, rfl, hg1, hg2, hg3⟩ := HO1.out.at_ (by omega)
      have hcell : ∃ u, w1.cell? ⟨g, m, none⟩ = some u := by
        rw [HO1.out.1.cellAt m (by omega)]
        exact ⟨_, List.getElem?_eq_getElem (by have := HL.out; simp [strs_len, mts_len]; omega)⟩
      obtain ⟨u, hc⟩ := hcell
      have hfr : w1.frozen? ⟨g, m, none⟩ = false := HO1.out.1.frozenAt m
      generalize hM : mtx (k + m) = tx
      have HM := Lib.hid hM
      clear hM
      go_wp2
      go_roundw
      case rel =>
        have hs := HO1.out.stored (j := m) (.string tx)
        rw [← HM.out, mts_set HL.out hlt] at hs
        rw [← HM.out]
        exact ⟨m + 1, by omega, by go_num, by go_num, Lib.hid hs.1, Lib.hid (HW1.out.trans hs.2)⟩
      case measure => simp [intOf]; omega
    · obtain rfl : m = n := by omega
      go_wp2
      go_ret
      refine ⟨rfl, ?_, HW.out⟩
      have ho := HO.out
      rwa [List.drop_of_length_le (by have := HL.out; omega), List.append_nil] at ho
set_option maxHeartbeats 1000000 in
theorem heldStringS_c (A : Option Addr) (n c BA : Nat) (k : Int) (w : World) (ha : Reads w BA 1 A n (strs (mts k n))) (hB : BA ≤ w.heap.size) (hn : n ≤ 1048576) (hk0 : 1 ≤ k) (hk1 : k ≤ 36028797018963968) :
    Calls Tryd.prog 29 #[.slice A n c, .int .i64 k] w fun e w' => e = .returned (.int .i64 (k + n)) ∧ Below w.heap.size w w' := by
  have HA := Lib.hid ha
  clear ha
  go_enter Tryd.func29, Tryd.ntmps29
  go_wp2
  go_loopw [1, 5] (fun j i wr => ∃ m : Nat, m ≤ n ∧ i = .int .i64 m ∧ j = .int .i64 (k + m) ∧ Hid (Below w.heap.size w wr)) (fun _ i _ => n - (intOf i).toNat)
  case atStart => exact ⟨0, Nat.zero_le _, rfl, by go_num, Lib.hid (Below.refl _ _)⟩
  case round =>
    obtain ⟨m, hm, rfl, rfl, HW⟩ := hrel
    have hwz := HW.out.size
    by_cases hlt : m < n
    · have HR := Lib.hid (HA.out.below (HW.out.mono hB))
      obtain ⟨ad, s, rfl, hbl, hs, hc⟩ := HR.out.str hlt
      rw [mts_get k n m hlt] at hs
      have hs' : mtx (k + m) = s := by injection hs
      have hmk : (m : Int) < (n : Int) := by omega
      have hmm : (0 : Int) ≤ (m : Int) := by omega
      have HM := Lib.hid (fun W => markText_c (k + m) W (by omega) (by omega))
      rw [hs'] at HM
      have hne : (s.toList == s.toList) = true := by simp
      have hnn : (s.toList != s.toList) = false := by simp
      have HS : Hid (∀ W', Below wr.heap.size wr W' → W'.cell? (ad.add m) = some (.string s)) := Lib.hid fun W' hW => (hW.cell (p := ad.add m) (by rw [block_of_add]; omega)).trans hc
      have hBr := Below.refl wr.heap.size wr
      clear hs hs'
      go_wp2
      go_region_held3 (fun w' => Below wr.heap.size wr w' ∧ w'.cell? (ad.add m) = some (.string s)) (first | exact keepB HS.out (by assumption) (by first | assumption | exact And.left (by assumption)) | exact keepD HS.out (by assumption) | (go_keep; done))
        ((go_at_call 27; refine (HM.out _).mono ?_; rintro e w1 ⟨rfl, hb⟩))
      replace hb := Lib.hid (HW.out.drew.trans (hb.mono HW.out.size))
      clear hBr hc HS
      go_wp2
      go_roundw
      case rel => exact ⟨m + 1, by omega, by go_num, by go_num, hb⟩
      case measure => simp [intOf]; omega
    · obtain rfl : m = n := by omega
      go_wp2
      go_ret
      exact ⟨rfl, HW.out⟩
end Go.Proofs.YteklfeeamjgplaaDoor
