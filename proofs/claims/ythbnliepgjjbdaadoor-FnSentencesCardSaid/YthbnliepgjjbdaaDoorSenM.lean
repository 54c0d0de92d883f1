/- Lists of sentences: marking and holding. -/
import Derived.Test.YthbnliepgjjbdaaDoorSenS
namespace Go.Proofs.YthbnliepgjjbdaaDoor
open Go.ChangeShapes Go.WideShapes Go.ChangeAt Go.RowKit
set_option linter.unusedVariables false

theorem marks_succ' (k : Int) (m : Nat) : marks k (m + 1) = marks k m ++ [k + m] := by
  induction m generalizing k with
  | zero => simp [marks]
  | succ m ih =>
    rw [marks, ih (k + 1), marks]
    simp; omega
theorem marks_set3 {xs : List Value} {k : Int} {m n : Nat} (hl : xs.length = n * 3) (hm : m < n) :
    ((((ints (marks k (m * 3)) ++ xs.drop (m * 3)).set (m * 3) (.int .i64 (k + (m * 3 : Nat)))).set (m * 3 + 1) (.int .i64 (k + (m * 3 : Nat) + 1))).set (m * 3 + 2) (.int .i64 (k + (m * 3 : Nat) + 1 + 1))) = ints (marks k ((m + 1) * 3)) ++ xs.drop ((m + 1) * 3) := by
  have e1 : (m + 1) * 3 = m * 3 + 1 + 1 + 1 := by omega
  have hL : (ints (marks k (m * 3))).length = m * 3 := by rw [ints_len, marks_length]
  rw [e1, marks_succ', marks_succ', marks_succ', ints_app, ints_app, ints_app]
  rw [List.set_append_right _ _ (by omega), List.set_append_right _ _ (by omega), List.set_append_right _ _ (by omega), hL,
    show m * 3 - m * 3 = 0 from by omega, show m * 3 + 1 - m * 3 = 1 from by omega, show m * 3 + 2 - m * 3 = 2 from by omega,
    List.drop_eq_getElem_cons (by omega), List.drop_eq_getElem_cons (by omega), List.drop_eq_getElem_cons (by omega)]
  have a1 : k + ((m * 3 + 1 : Nat) : Int) = k + (m * 3 : Nat) + 1 := by omega
  have a2 : k + ((m * 3 + 1 + 1 : Nat) : Int) = k + (m * 3 : Nat) + 1 + 1 := by omega
  rw [a1, a2]
  generalize k + ((m * 3 : Nat) : Int) = q
  rw [List.append_assoc, List.append_assoc, List.append_assoc]
  rfl
set_option maxHeartbeats 1000000 in
theorem markSentenceS_c (A : Option Addr) (n c lo hi : Nat) (xs : List Value) (k : Int) (w : World) (h : Own w lo hi 26 3 (.slice A n c) n xs) (hn : n ≤ 152921504606846976) (hk0 : 0 ≤ k) (hk1 : k ≤ 1152921504606846976) :
    Calls Tryd.prog 32 #[.slice A n c, .int .i64 k] w fun e w' => e = .returned (.int .i64 (k + (n * 3 : Nat))) ∧ Own w' lo hi 26 3 (.slice A n c) n (ints (marks k (n * 3))) ∧ Only lo hi w w' := by
  have HL := Lib.hid (show xs.length = n * 3 from h.1.1)
  go_enter Tryd.func32, Tryd.ntmps32
  go_wp2
  go_loopw [1, 5] (fun j i wr => ∃ m : Nat, m ≤ n ∧ i = .int .i64 m ∧ j = .int .i64 (k + (m * 3 : Nat)) ∧ Hid (Own wr lo hi 26 3 (.slice A n c) n (ints (marks k (m * 3)) ++ xs.drop (m * 3))) ∧ Hid (Only lo hi w wr)) (fun _ i _ => n - (intOf i).toNat)
  case atStart => exact ⟨0, Nat.zero_le _, rfl, by go_num, Lib.hid (by simpa [marks, ints] using h), Lib.hid (Only.refl _ _ _)⟩
  case round =>
    clear h
    obtain ⟨m, hm, rfl, rfl, HO, HW⟩ := hrel
    by_cases hlt : m < n
    · obtain ⟨g, rfl, hg1, hg2, hg3⟩ := HO.out.at_ (by omega)
      have hlen : (ints (marks k (m * 3)) ++ xs.drop (m * 3)).length = n * 3 := HO.out.1.1
      have hcell : ∀ j, j < n * 3 → ∃ u, wr.cell? ⟨g, j, none⟩ = some u := fun j hj => by
        rw [HO.out.1.cellAt j hj]
        exact ⟨_, List.getElem?_eq_getElem (by omega)⟩
      obtain ⟨u0, c0⟩ := hcell (m * 3) (by omega)
      obtain ⟨u1, c1⟩ := hcell (m * 3 + 1) (by omega)
      obtain ⟨u2, c2⟩ := hcell (m * 3 + 2) (by omega)
      have f0 := HO.out.1.frozenAt (m * 3)
      have f1 := HO.out.1.frozenAt (m * 3 + 1)
      have f2 := HO.out.1.frozenAt (m * 3 + 2)
      clear hcell hlen
      go_wp2
      go_roundw
      case rel =>
        have s1 := HO.out.stored (j := m * 3) (.int .i64 (k + (m * 3 : Nat)))
        have s2 := s1.1.stored (j := m * 3 + 1) (.int .i64 (k + (m * 3 : Nat) + 1))
        have s3 := s2.1.stored (j := m * 3 + 2) (.int .i64 (k + (m * 3 : Nat) + 1 + 1))
        have h3 := s3.1
        rw [marks_set3 HL.out hlt] at h3
        exact ⟨m + 1, by omega, by go_num, by congr 1; omega, Lib.hid h3, Lib.hid (((HW.out.trans s1.2).trans s2.2).trans s3.2)⟩
      case measure => simp [intOf]; omega
    · obtain rfl : m = n := by omega
      go_wp2
      go_ret
      refine ⟨rfl, ?_, HW.out⟩
      have ho := HO.out
      rwa [List.drop_of_length_le (by have := HL.out; omega), List.append_nil] at ho
set_option maxHeartbeats 1000000 in
theorem heldSentenceS_c (A : Option Addr) (n c BA : Nat) (k : Int) (w : World) (ha : Reads w BA 3 A n (ints (marks k (n * 3)))) (hn : n ≤ 152921504606846976) (hk0 : 0 ≤ k) (hk1 : k ≤ 1152921504606846976) :
    Calls Tryd.prog 33 #[.slice A n c, .int .i64 k] w fun e w' => e = .returned (.int .i64 (k + (n * 3 : Nat))) ∧ Below w.heap.size w w' := by
  go_enter Tryd.func33, Tryd.ntmps33
  go_wp2
  go_loopw [1, 5] (fun j i wr => ∃ m q : Nat, m ≤ n ∧ i = .int .i64 m ∧ j = .int .i64 (k + (m * 3 : Nat)) ∧ wr = w.drewN q) (fun _ i _ => n - (intOf i).toNat)
  case atStart => exact ⟨0, 0, Nat.zero_le _, rfl, by go_num, rfl⟩
  case round =>
    obtain ⟨m, q, hm, rfl, rfl, rfl⟩ := hrel
    by_cases hlt : m < n
    · obtain ⟨ad, rfl, hb, hc⟩ := ha.2 (by omega)
      have hg : ∀ j, j < 3 → w.cell? (ad.add (m * 3 + j)) = some (.int .i64 (k + ((m * 3 + j : Nat) : Int))) := fun j hj => hc _ _ (by
        simp only [ints, List.getElem?_map]
        rw [marks_get k (n * 3) (m * 3 + j) (by omega)]; rfl)
      have c0 := hg 0 (by omega)
      have c1 := hg 1 (by omega)
      have c2 := hg 2 (by omega)
      rw [← addr_field _ _ _ (by omega)] at c1 c2
      rw [Nat.add_zero] at c0
      rw [show ((m * 3 + 1 : Nat) : Int) = ((m * 3 : Nat) : Int) + 1 from by omega, ← Int.add_assoc] at c1
      rw [show ((m * 3 + 2 : Nat) : Int) = ((m * 3 : Nat) : Int) + 1 + 1 from by omega, ← Int.add_assoc, ← Int.add_assoc] at c2
      clear ha hc hg
      go_wp2
      go_roundw
      case rel => exact ⟨m + 1, _, by omega, by go_num, by congr 1; omega, rfl⟩
      case measure => simp [intOf]; omega
    · obtain rfl : m = n := by omega
      clear ha
      go_wp2
      go_ret
      exact ⟨rfl, below_drewN (Below.refl _ _) _⟩
end Go.Proofs.YthbnliepgjjbdaaDoor
