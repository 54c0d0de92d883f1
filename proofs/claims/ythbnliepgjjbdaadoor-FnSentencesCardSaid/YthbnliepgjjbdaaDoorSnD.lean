/- Sentences: the word of a number, by the program's closure. -/
import Derived.Test.YthbnliepgjjbdaaDoorSnC
namespace Go.Proofs.YthbnliepgjjbdaaDoor
open Go.ChangeShapes Go.WideShapes Go.ChangeAt Go.RowKit
set_option linter.unusedVariables false
/-- the numbers that a kind's words stand for -/
def numOk (k : Nat) (n : Int) : Prop := (k = 2 → -1 ≤ n ∧ n ≤ 1) ∧ (k = 4 ∨ k = 7 → 0 ≤ n ∧ n ≤ 7) ∧ (k ≠ 2 → k ≠ 4 → k ≠ 7 → 0 ≤ n ∧ n ≤ 1000000)
def numB (k l : Nat) (n : Int) : ByteArray := ⟨(numT k l n).toArray⟩
theorem numB_word {k l : Nat} {n : Int} (hl : 1 ≤ l ∧ l ≤ 4) (hk : k = 2 ∨ k = 4 ∨ k = 7) {b : ByteArray} (h : (wordB k l)[(n - leastT k).toNat]? = some b) : b = numB k l n := by
  unfold wordB at h
  rw [List.getElem?_map] at h
  cases hq : (wordT k l)[(n - leastT k).toNat]? with
  | none => rw [hq] at h; cases h
  | some x =>
    rw [hq] at h
    injection h with h
    rw [← h]
    unfold numB numT
    rcases hk with rfl | rfl | rfl
    · rw [if_pos rfl]
      have e : (n - leastT 2).toNat = (n + 1).toNat := by unfold leastT; rw [if_pos rfl]; congr 1
      rw [e] at hq
      rw [hq]; rfl
    · rw [if_neg (by decide), if_pos (.inl rfl)]
      have e : (n - leastT 4).toNat = n.toNat := by unfold leastT; rw [if_neg (by decide)]; congr 1; omega
      rw [e] at hq
      rw [hq]; rfl
    · rw [if_neg (by decide), if_pos (.inr rfl)]
      have e : (n - leastT 7).toNat = n.toNat := by unfold leastT; rw [if_neg (by decide)]; congr 1; omega
      rw [e] at hq
      rw [hq]; rfl
set_option maxHeartbeats 2000000 in
set_option maxRecDepth 100000 in
theorem textWord_c (k l : Nat) (hl : 1 ≤ l ∧ l ≤ 4) (n : Int) (hn : numOk k n) (a1 a2 : Addr) (A : Option Addr) (c : Nat) (w : World) (h1 : w.cell? a1 = some (.slice A (wordB k l).length c)) (h2 : w.cell? a2 = some (.int .i64 (leastT k)))
    (hr : Reads w w.heap.size 1 A (wordB k l).length (strs (wordB k l))) (he : (wordB k l) = [] → A = none ∧ c = 0) (hne : (wordB k l) ≠ [] → A ≠ none) (hkw : (k = 2 ∨ k = 4 ∨ k = 7) ↔ (wordB k l) ≠ []) (ht : Tab10 w) :
    Calls Tryd.prog 59 #[.int .i64 n, .pointer (some a1), .pointer (some a2)] w fun e w' => e = .returned (.string (numB k l n)) ∧ Below w.heap.size w w' := by
  by_cases hw : wordB k l = []
  · obtain ⟨rfl, rfl⟩ := he hw
    have hk : ¬ (k = 2 ∨ k = 4 ∨ k = 7) := fun q => hkw.1 q hw
    have hn0 := hn.2.2 (fun q => hk (.inl q)) (fun q => hk (.inr (.inl q))) (fun q => hk (.inr (.inr q)))
    obtain ⟨m, rfl⟩ : ∃ m : Nat, n = m := ⟨n.toNat, by omega⟩
    have HV : Hid (numB k l m = decB m) := Lib.hid (by
      unfold numB numT decB
      rw [if_neg (fun q => hk (.inl q)), if_neg (fun q => hk (.inr q)), Int.toNat_natCast])
    have HD := Lib.hid (iDecimal_c m w (by omega) ht)
    rw [hw] at h1
    simp only [List.length_nil] at h1
    clear he hne hkw hr hw hk hn ht
    have hq0 : ∀ W : World, (binOp BinOp.eql 60 (.slice none 0 0) (.slice none 0 0)).run Tryd.prog W = .ok (.bool true) W := fun _ => by kernel_rfl
    go_enter Tryd.func59, Tryd.ntmps59
    go_wp2_with fail
    refine HD.out.mono ?_
    rintro e w1 ⟨rfl, B1⟩
    go_wp2
    go_ret
    exact ⟨by rw [HV.out]; rfl, B1⟩
  · have hk := hkw.2 hw
    obtain ⟨ad, rfl⟩ : ∃ ad, A = some ad := by
      cases A with
      | none => exact absurd rfl (hne hw)
      | some ad => exact ⟨ad, rfl⟩
    have hlen := wordB_len (k := k) hl
    have hj : 0 ≤ n - leastT k ∧ n - leastT k < (wordB k l).length := by
      unfold leastT
      rcases hk with rfl | hk
      · have := hn.1 rfl
        rw [if_pos rfl, hlen.1 rfl]; omega
      · have := hn.2.1 hk
        rw [if_neg (by omega), hlen.2.1 hk]; omega
    obtain ⟨j, hjn⟩ : ∃ j : Nat, n - leastT k = j := ⟨(n - leastT k).toNat, by omega⟩
    have hjl : j < (wordB k l).length := by omega
    obtain ⟨ad', b, e1, _, hb, cb⟩ := hr.str hjl
    obtain rfl : ad = ad' := by injection e1
    have HB : Hid (b = numB k l n) := Lib.hid (numB_word hl hk (by rw [hjn]; exact hb))
    have hjr : (j : Int) < ((wordB k l).length : Int) := by omega
    have hj0 : (0 : Int) ≤ (j : Int) := by omega
    have hlt : leastT k = 0 ∨ leastT k = -1 := by unfold leastT; split <;> omega
    have h38 : (wordB k l).length ≤ 8 := by
      rcases hk with hk2 | hk2
      · have := hlen.1 hk2; omega
      · have := hlen.2.1 hk2; omega
    have hwr : IntKind.i64.wrap (n - leastT k) = (j : Int) := by rw [hjn]; exact IntWalk.i64_in _ (by omega)
    clear he hne hkw hr hw hk hn ht hlen e1 hb hlt hjn hj h38
    generalize leastT k = lt at *
    generalize (wordB k l).length = wl at *
    have hq1 : ∀ W : World, (binOp BinOp.eql 60 (.slice (some ad) wl c) (.slice none 0 0)).run Tryd.prog W = .ok (.bool false) W := fun _ => by kernel_rfl
    go_enter Tryd.func59, Tryd.ntmps59
    go_wp2
    go_ret
    exact ⟨by rw [← HB.out]; rfl, by go_grown⟩
end Go.Proofs.YthbnliepgjjbdaaDoor
