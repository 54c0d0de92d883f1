/- Sentences: the word of a number, by the reference. -/
import Derived.Test.YthbnliepgjjbdaaDoorSnD
namespace Go.Proofs.YthbnliepgjjbdaaDoor
open Go.ChangeShapes Go.WideShapes Go.ChangeAt Go.RowKit
set_option linter.unusedVariables false
def RowPost (ws : List ByteArray) (w : World) (e : Ending) (w' : World) : Prop :=
  ∃ A c, e = .returned (.slice A ws.length c) ∧ Reads w' w'.heap.size 1 A ws.length (strs ws) ∧ Below w.heap.size w w'
theorem row_new {w : World} {n : Nat} {ws : List ByteArray} {cs : Array Value} (hc : cs = (strs ws).toArray) (hn : ws.length = n) : RowPost ws w (.returned (.slice (some ⟨w.heap.size, 0, none⟩) n n)) (w.alloc (.cells cs 9)) := by
  subst hc hn
  exact ⟨_, ws.length, rfl, reads_blk (Blk.new _ _ _) rfl, (Below.refl _ _).alloc (Nat.le_refl _) _⟩
theorem l19Changes_c (l : Nat) (hl : 1 ≤ l ∧ l ≤ 4) (w : World) : Calls Tryd.prog 74 #[.int .i64 l] w (RowPost (wordB 2 l) w) := by
  have hl4 : l = 1 ∨ l = 2 ∨ l = 3 ∨ l = 4 := by omega
  rcases hl4 with rfl | rfl | rfl | rfl
  all_goals
    go_enter Tryd.func74, Tryd.ntmps74
    go_wp2
    go_ret
    exact row_new rfl rfl
theorem l19Aspects_c (l : Nat) (hl : 1 ≤ l ∧ l ≤ 4) (w : World) : Calls Tryd.prog 75 #[.int .i64 l] w (RowPost (wordB 4 l) w) := by
  have hl4 : l = 1 ∨ l = 2 ∨ l = 3 ∨ l = 4 := by omega
  rcases hl4 with rfl | rfl | rfl | rfl
  all_goals
    go_enter Tryd.func75, Tryd.ntmps75
    go_wp2
    go_ret
    exact row_new rfl rfl
set_option maxHeartbeats 2000000 in
set_option maxRecDepth 100000 in
theorem l19Number_c (k l : Nat) (hk : 1 ≤ k ∧ k ≤ 7) (hl : 1 ≤ l ∧ l ≤ 4) (n : Int) (hn : numOk k n) (w : World) : Calls Tryd.prog 56 #[.int .i64 k, .int .i64 n, .int .i64 l] w fun e w' => e = .returned (.string (numB k l n)) ∧ Below w.heap.size w w' := by
  have hk7 : k = 2 ∨ k = 4 ∨ k = 7 ∨ (k = 1 ∨ k = 3 ∨ k = 5 ∨ k = 6) := by omega
  have hlen := wordB_len (k := k) hl
  rcases hk7 with rfl | rfl | rfl | hk7
  · have hb := hn.1 rfl
    obtain ⟨j, hj⟩ : ∃ j : Nat, n + 1 = j := ⟨(n + 1).toNat, by omega⟩
    have HC := Lib.hid (l19Changes_c l hl w)
    have HW := Lib.hid fun (b : ByteArray) (h : (wordB 2 l)[j]? = some b) => numB_word (k := 2) (n := n) hl (.inl rfl) (b := b) (by unfold leastT; rw [if_pos rfl, show (n - -1).toNat = j by omega]; exact h)
    have h3 : (wordB 2 l).length = 3 := hlen.1 rfl
    have hj3 : (j : Int) < 3 := by omega
    have hj0 : (0 : Int) ≤ (j : Int) := by omega
    have hwr : IntKind.i64.wrap (n + 1) = (j : Int) := by rw [hj]; exact IntWalk.i64_in _ (by omega)
    clear hn hlen
    go_enter Tryd.func56, Tryd.ntmps56
    go_wp2_with fail
    refine HC.out.mono ?_
    rintro e w1 ⟨A, c, rfl, hr, hB⟩
    obtain ⟨ad, b, rfl, _, hbb, cb⟩ := hr.str (k := j) (by omega)
    have HB := Lib.hid (HW.out b hbb)
    have HBB := Lib.hid hB
    rw [h3]
    clear hr hbb hB h3
    go_wp2
    go_ret
    exact ⟨by rw [← HB.out]; rfl, HBB.out⟩
  · have hb := hn.2.1 (.inl rfl)
    obtain ⟨j, hj⟩ : ∃ j : Nat, n = j := ⟨(n).toNat, by omega⟩
    have HC := Lib.hid (l19Aspects_c l hl w)
    have HW := Lib.hid fun (b : ByteArray) (h : (wordB 4 l)[j]? = some b) => numB_word (k := 4) (n := n) hl (.inr (.inl rfl)) (b := b) (by unfold leastT; rw [if_neg (by decide), show (n - 0).toNat = j by omega]; exact h)
    have h3 : (wordB 4 l).length = 8 := hlen.2.1 (.inl rfl)
    have hj3 : (j : Int) < 8 := by omega
    have hj0 : (0 : Int) ≤ (j : Int) := by omega
    subst hj
    clear hn hlen
    go_enter Tryd.func56, Tryd.ntmps56
    go_wp2_with fail
    refine HC.out.mono ?_
    rintro e w1 ⟨A, c, rfl, hr, hB⟩
    obtain ⟨ad, b, rfl, _, hbb, cb⟩ := hr.str (k := j) (by omega)
    have HB := Lib.hid (HW.out b hbb)
    have HBB := Lib.hid hB
    rw [h3]
    clear hr hbb hB h3
    go_wp2
    go_ret
    exact ⟨by rw [← HB.out]; rfl, HBB.out⟩
  · have hb := hn.2.1 (.inr rfl)
    obtain ⟨j, hj⟩ : ∃ j : Nat, n = j := ⟨(n).toNat, by omega⟩
    have HC := Lib.hid (l19Aspects_c l hl w)
    have HW := Lib.hid fun (b : ByteArray) (h : (wordB 4 l)[j]? = some b) => numB_word (k := 7) (n := n) hl (.inr (.inr rfl)) (b := b) (by unfold leastT; rw [if_neg (by decide), show (n - 0).toNat = j by omega]; rw [hlen.2.2]; exact h)
    have h3 : (wordB 4 l).length = 8 := (wordB_len (k := 4) hl).2.1 (.inl rfl)
    have hj3 : (j : Int) < 8 := by omega
    have hj0 : (0 : Int) ≤ (j : Int) := by omega
    subst hj
    clear hn hlen
    go_enter Tryd.func56, Tryd.ntmps56
    go_wp2_with fail
    refine HC.out.mono ?_
    rintro e w1 ⟨A, c, rfl, hr, hB⟩
    obtain ⟨ad, b, rfl, _, hbb, cb⟩ := hr.str (k := j) (by omega)
    have HB := Lib.hid (HW.out b hbb)
    have HBB := Lib.hid hB
    rw [h3]
    clear hr hbb hB h3
    go_wp2
    go_ret
    exact ⟨by rw [← HB.out]; rfl, HBB.out⟩
  · have hk2 : k ≠ 2 ∧ k ≠ 4 ∧ k ≠ 7 := by omega
    have hn0 := hn.2.2 hk2.1 hk2.2.1 hk2.2.2
    obtain ⟨m, rfl⟩ : ∃ m : Nat, n = m := ⟨n.toNat, by omega⟩
    have HV : Hid (numB k l m = decB m) := Lib.hid (by
      unfold numB numT decB
      rw [if_neg hk2.1, if_neg (by omega), Int.toNat_natCast])
    have HD := Lib.hid (l01Dec_c m w (by omega))
    clear hn hlen
    rcases hk7 with rfl | rfl | rfl | rfl
    all_goals
      go_enter Tryd.func56, Tryd.ntmps56
      go_wp2_with fail
      refine HD.out.mono ?_
      rintro e w1 ⟨rfl, B1⟩
      go_wp2
      go_ret
      exact ⟨by rw [HV.out]; rfl, B1⟩
end Go.Proofs.YthbnliepgjjbdaaDoor
