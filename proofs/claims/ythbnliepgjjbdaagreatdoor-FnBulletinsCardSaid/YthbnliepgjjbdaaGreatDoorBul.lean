/- When a list of sentences is a bulletin: both functions answer the same; the exact law. -/
import Derived.Test.YthbnliepgjjbdaaGreatDoorSenS
import Derived.Test.YthbnliepgjjbdaaGreatDoorOpen
namespace Go.Proofs.YthbnliepgjjbdaaGreatDoor
open Go.ChangeShapes Go.WideShapes Go.ChangeAt Go.RowKit
set_option linter.unusedVariables false

/-- sentence i is valid and its kind is greater than that of the one before -/
def stepB (ss : List Sen) (i : Nat) : Bool :=
  match ss[i]? with
  | none => true
  | some s => s.ok && (match i with | 0 => true | j + 1 => (match ss[j]? with | none => true | some p => decide (p.k < s.k)))
def bulOk (ss : List Sen) : Bool := (List.range ss.length).all (stepB ss)
def bulB (ss : List Sen) : Bool := bulOk ss && decide (ss.length ≤ 7)
theorem bulOk_of {ss : List Sen} (h : ∀ i, i < ss.length → stepB ss i = true) : bulOk ss = true := by
  simp only [bulOk, List.all_eq_true, List.mem_range]; exact h
theorem bulOk_not {ss : List Sen} {i : Nat} (hi : i < ss.length) (h : stepB ss i = false) : bulOk ss = false := by
  rw [bulOk, List.all_eq_false]; exact ⟨i, by simpa using hi, by simp [h]⟩

set_option maxHeartbeats 2000000 in
theorem l19List_c (A : Option Addr) (n c BA : Nat) (ss : List Sen) (w : World) (ha : Reads w BA 3 A n (sens ss)) (hA : BA ≤ w.heap.size) (hn : n ≤ 1152921504606846976) :
    Calls Tryz.prog 19 #[.slice A n c] w fun e w' => e = .returned (.bool (bulB ss)) ∧ Below w.heap.size w w' := by
  have HL := Lib.hid ha.senLen
  go_enter Tryz.func19, Tryz.ntmps19
  go_wp2
  go_loopw [3] (fun i wr => ∃ k : Nat, k ≤ n ∧ i = .int .i64 k ∧ Hid (∀ i, i < k → stepB ss i = true) ∧ Hid (Below w.heap.size w wr)) (fun i _ => n - (intOf i).toNat)
  case atStart => exact ⟨0, Nat.zero_le _, rfl, Lib.hid (fun i h => by omega), Lib.hid (Below.refl _ _)⟩
  case round =>
    obtain ⟨k, hk, rfl, HS, HT⟩ := hrel
    have har := ha.below (HT.out.mono hA)
    by_cases hlt : k < n
    · obtain ⟨ad, s, rfl, _, hs, c0, c1, c2⟩ := har.sen hlt
      have HSK := Lib.hid hs
      have hk' : (k : Int) < (n : Int) := by omega
      by_cases hk0 : k = 0
      · subst hk0
        clear hs ha har
        cases hok : okS s.k s.a s.b
        · go_wp2
          go_quiet ((go_at_call 31; exact quiet_left (l19Ok_c _ s.k s.a s.b _ c0 c1 c2)))
          go_wp2
          go_ret
          refine ⟨ret_bool ?_, below_drewN HT.out _⟩
          rw [bulB, bulOk_not (i := 0) (by rw [HL.out]; omega) (by simp [stepB, HSK.out, Sen.ok, hok])]; rfl
        · go_wp2
          go_quiet ((go_at_call 31; exact quiet_left (l19Ok_c _ s.k s.a s.b _ c0 c1 c2)))
          go_wp2
          go_roundw
          case rel => exact ⟨1, by omega, by go_num, Lib.hid (fun i h => by
              obtain rfl : i = 0 := by omega
              simp [stepB, HSK.out, Sen.ok, hok]), Lib.hid (below_drewN HT.out _)⟩
          case measure => simp [intOf]; omega
      · obtain ⟨j, rfl⟩ : ∃ j, k = j + 1 := ⟨k - 1, by omega⟩
        obtain ⟨ad', p, had, _, hp, d0, _, _⟩ := har.sen (k := j) (by omega)
        obtain rfl : ad = ad' := by injection had
        have HPK := Lib.hid hp
        have e1 : ((j : Int) + 1 - 1) = (j : Int) := by omega
        clear hs ha har hp had hk0
        cases hok : okS s.k s.a s.b
        · go_wp2
          go_quiet ((go_at_call 31; exact quiet_left (l19Ok_c _ s.k s.a s.b _ c0 c1 c2)))
          go_wp2
          go_ret
          refine ⟨ret_bool ?_, below_drewN HT.out _⟩
          rw [bulB, bulOk_not (i := j + 1) (by rw [HL.out]; omega) (by simp [stepB, HSK.out, Sen.ok, hok])]; rfl
        · by_cases hkk : p.k < s.k
          · go_wp2
            go_quiet ((go_at_call 31; exact quiet_left (l19Ok_c _ s.k s.a s.b _ c0 c1 c2)))
            go_wp2
            go_roundw
            case rel => exact ⟨j + 1 + 1, by omega, by go_num, Lib.hid (fun i h => by
              by_cases hi : i < j + 1
              · exact HS.out i hi
              · obtain rfl : i = j + 1 := by omega
                simp [stepB, HSK.out, HPK.out, Sen.ok, hok, hkk]), Lib.hid (below_drewN HT.out _)⟩
            case measure => simp [intOf]; omega
          · go_wp2
            go_quiet ((go_at_call 31; exact quiet_left (l19Ok_c _ s.k s.a s.b _ c0 c1 c2)))
            go_wp2
            go_ret
            refine ⟨ret_bool ?_, below_drewN HT.out _⟩
            rw [bulB, bulOk_not (i := j + 1) (by rw [HL.out]; omega) (by simp [stepB, HSK.out, HPK.out, Sen.ok, hok]; omega)]; rfl
    · obtain rfl : k = n := by omega
      have HB : Hid (bulOk ss = true) := Lib.hid (bulOk_of (fun i hi => HS.out i (by rw [HL.out] at hi; omega)))
      clear ha har
      go_wp2
      go_ret
      exact ⟨ret_bool (by rw [bulB, HB.out, HL.out]; simp; omega), HT.out⟩
theorem iValidSentence_v (s : Sen) (w : World) : Calls Tryz.prog 18 #[s.val] w fun e w' => e = .returned (.bool (okS s.k s.a s.b)) ∧ Below w.heap.size w w' := iValidSentence_c s.k s.a s.b w
set_option maxHeartbeats 2000000 in
theorem iValidBulletin_c (A : Option Addr) (n c BA : Nat) (ss : List Sen) (w : World) (ha : Reads w BA 3 A n (sens ss)) (hA : BA ≤ w.heap.size) (hn : n ≤ 1152921504606846976) :
    Calls Tryz.prog 8 #[.slice A n c] w fun e w' => e = .returned (.bool (bulB ss)) ∧ Below w.heap.size w w' := by
  have HL := Lib.hid ha.senLen
  by_cases h7 : 7 < n
  · clear ha
    go_enter Tryz.func8, Tryz.ntmps8
    go_wp2
    go_ret
    exact ⟨ret_bool (by rw [bulB, HL.out]; simp; omega), Below.refl _ _⟩
  go_enter Tryz.func8, Tryz.ntmps8
  go_wp2
  go_loopw [10] (fun i wr => ∃ k : Nat, k ≤ n ∧ i = .int .i64 k ∧ Hid (∀ i, i < k → stepB ss i = true) ∧ Hid (Below w.heap.size w wr)) (fun i _ => n - (intOf i).toNat)
  case atStart => exact ⟨0, Nat.zero_le _, rfl, Lib.hid (fun i h => by omega), Lib.hid (Below.refl _ _)⟩
  case round =>
    obtain ⟨k, hk, rfl, HS, HT⟩ := hrel
    have har := ha.below (HT.out.mono hA)
    by_cases hlt : k < n
    · obtain ⟨ad, s, rfl, hbl, hs, c0, c1, c2⟩ := har.sen hlt
      have HSK := Lib.hid hs
      have hk' : (k : Int) < (n : Int) := by omega
      have hszT := HT.out.size
      have HC := Lib.hid (And.intro c0 (And.intro c1 c2))
      go_wp2
      clear c0 c1 c2
      obtain ⟨W1, hW1⟩ : ∃ W1, W1 = wr.alloc (.cells #[.int .i64 s.k, .int .i64 s.a, .int .i64 s.b] 38) := ⟨_, rfl⟩
      rw [← hW1]
      have K1 : Blk W1 wr.heap.size 38 #[.int .i64 s.k, .int .i64 s.a, .int .i64 s.b] := by rw [hW1]; exact Blk.new _ _ _
      have B1 : Below wr.heap.size wr W1 := by rw [hW1]; exact (Below.refl _ _).alloc (Nat.le_refl _) _
      have T1 : Hid (Below w.heap.size w W1) := Lib.hid (HT.out.trans (B1.mono HT.out.size))
      have hlt1 : wr.heap.size < W1.heap.size := K1.lt
      clear hW1
      have HK1 := Lib.hid K1
      have HB1 := Lib.hid B1
      clear K1 B1
      have d0 : W1.cell? ⟨wr.heap.size, 0, none⟩ = some (.int .i64 s.k) := HK1.out.cell 0
      have d1 : W1.cell? ⟨wr.heap.size, 1, none⟩ = some (.int .i64 s.a) := HK1.out.cell 1
      have d2 : W1.cell? ⟨wr.heap.size, 2, none⟩ = some (.int .i64 s.b) := HK1.out.cell 2
      by_cases hk0 : k = 0
      · subst hk0
        clear hs ha har HC
        cases hok : okS s.k s.a s.b
        · skip
          have qd0 := cell_regrown d0
          have qd1 := cell_regrown d1
          have qd2 := cell_regrown d2
          refine wp_region_quiet_below (by kernel_rfl) (by kernel_rfl) ?_
          repeat (first | go_big_quiet_step ((go_at_call 18; exact Calls.regrown_of (iValidSentence_v s _))) | quiet_step ((go_at_call 18; exact Calls.regrown_of (iValidSentence_v s _))))
          refine wpQuiet_nil ?_
          intro W2 B2
          replace B2 := Lib.hid (show Below (W1).heap.size (W1) W2 from by obtain ⟨pq, rfl⟩ := B2; exact below_regrown _ _ _)
          clear qd0 qd1 qd2
          go_wp2
          go_ret
          refine ⟨ret_bool ?_, T1.out.trans (B2.out.mono T1.out.size)⟩
          rw [bulB, bulOk_not (i := 0) (by rw [HL.out]; omega) (by simp [stepB, HSK.out, Sen.ok, hok])]; rfl
        · skip
          have qd0 := cell_regrown d0
          have qd1 := cell_regrown d1
          have qd2 := cell_regrown d2
          refine wp_region_quiet_below (by kernel_rfl) (by kernel_rfl) ?_
          repeat (first | go_big_quiet_step ((go_at_call 18; exact Calls.regrown_of (iValidSentence_v s _))) | quiet_step ((go_at_call 18; exact Calls.regrown_of (iValidSentence_v s _))))
          refine wpQuiet_nil ?_
          intro W2 B2
          replace B2 := Lib.hid (show Below (W1).heap.size (W1) W2 from by obtain ⟨pq, rfl⟩ := B2; exact below_regrown _ _ _)
          clear qd0 qd1 qd2
          go_wp2
          go_roundw
          case rel => exact ⟨1, by omega, by go_num, Lib.hid (fun i h => by
              obtain rfl : i = 0 := by omega
              simp [stepB, HSK.out, Sen.ok, hok]), Lib.hid (T1.out.trans (B2.out.mono T1.out.size))⟩
          case measure => simp [intOf]; omega
      · obtain ⟨j, rfl⟩ : ∃ j, k = j + 1 := ⟨k - 1, by omega⟩
        have harj := har.below (HB1.out.mono (show BA ≤ wr.heap.size by omega))
        obtain ⟨ad', p, had, _, hp, e0, _, _⟩ := harj.sen (k := j) (by omega)
        obtain rfl : ad = ad' := by injection had
        have HPK := Lib.hid hp
        have e1 : ((j : Int) + 1 - 1) = (j : Int) := by omega
        clear hs ha har harj hp had hk0 HC
        cases hok : okS s.k s.a s.b
        · skip
          have qd0 := cell_regrown d0
          have qd1 := cell_regrown d1
          have qd2 := cell_regrown d2
          have qe0 := cell_regrown e0
          refine wp_region_quiet_below (by kernel_rfl) (by kernel_rfl) ?_
          repeat (first | go_big_quiet_step ((go_at_call 18; exact Calls.regrown_of (iValidSentence_v s _))) | quiet_step ((go_at_call 18; exact Calls.regrown_of (iValidSentence_v s _))))
          refine wpQuiet_nil ?_
          intro W2 B2
          replace B2 := Lib.hid (show Below (W1).heap.size (W1) W2 from by obtain ⟨pq, rfl⟩ := B2; exact below_regrown _ _ _)
          clear qd0 qd1 qd2 qe0
          go_wp2
          go_ret
          refine ⟨ret_bool ?_, T1.out.trans (B2.out.mono T1.out.size)⟩
          rw [bulB, bulOk_not (i := j + 1) (by rw [HL.out]; omega) (by simp [stepB, HSK.out, Sen.ok, hok])]; rfl
        · by_cases hkk : p.k < s.k
          · skip
            have qd0 := cell_regrown d0
            have qd1 := cell_regrown d1
            have qd2 := cell_regrown d2
            have qe0 := cell_regrown e0
            refine wp_region_quiet_below (by kernel_rfl) (by kernel_rfl) ?_
            repeat (first | go_big_quiet_step ((go_at_call 18; exact Calls.regrown_of (iValidSentence_v s _))) | quiet_step ((go_at_call 18; exact Calls.regrown_of (iValidSentence_v s _))))
            refine wpQuiet_nil ?_
            intro W2 B2
            replace B2 := Lib.hid (show Below (W1).heap.size (W1) W2 from by obtain ⟨pq, rfl⟩ := B2; exact below_regrown _ _ _)
            clear qd0 qd1 qd2 qe0
            go_wp2
            go_roundw
            case rel => exact ⟨j + 1 + 1, by omega, by go_num, Lib.hid (fun i h => by
              by_cases hi : i < j + 1
              · exact HS.out i hi
              · obtain rfl : i = j + 1 := by omega
                simp [stepB, HSK.out, HPK.out, Sen.ok, hok, hkk]), Lib.hid (T1.out.trans (B2.out.mono T1.out.size))⟩
            case measure => simp [intOf]; omega
          · skip
            have qd0 := cell_regrown d0
            have qd1 := cell_regrown d1
            have qd2 := cell_regrown d2
            have qe0 := cell_regrown e0
            refine wp_region_quiet_below (by kernel_rfl) (by kernel_rfl) ?_
            repeat (first | go_big_quiet_step ((go_at_call 18; exact Calls.regrown_of (iValidSentence_v s _))) | quiet_step ((go_at_call 18; exact Calls.regrown_of (iValidSentence_v s _))))
            refine wpQuiet_nil ?_
            intro W2 B2
            replace B2 := Lib.hid (show Below (W1).heap.size (W1) W2 from by obtain ⟨pq, rfl⟩ := B2; exact below_regrown _ _ _)
            clear qd0 qd1 qd2 qe0
            go_wp2
            go_ret
            refine ⟨ret_bool ?_, T1.out.trans (B2.out.mono T1.out.size)⟩
            rw [bulB, bulOk_not (i := j + 1) (by rw [HL.out]; omega) (by simp [stepB, HSK.out, HPK.out, Sen.ok, hok]; omega)]; rfl
    · obtain rfl : k = n := by omega
      have HB : Hid (bulOk ss = true) := Lib.hid (bulOk_of (fun i hi => HS.out i (by rw [HL.out] at hi; omega)))
      clear ha har
      go_wp2
      go_ret
      exact ⟨ret_bool (by rw [bulB, HB.out, HL.out]; simp; omega), HT.out⟩
end Go.Proofs.YthbnliepgjjbdaaGreatDoor
