/- Contracts of the arithmetic helpers: abs, divRound, divUp, l01Div, l00Min, l00Max. -/
import Derived.Test.YtaoomildopmclaaMem
import Derived.Test.YtaoomildopmclaaTa
namespace Go.Proofs.Ytaoomildopmclaa
open Go.ChangeShapes Go.WideShapes Go.ChangeAt Go.RowKit
set_option linter.unusedVariables false

/-- the nearest whole number to a quotient, away from zero where two are -/
def rnd (a b : Int) : Int := if a < 0 then -((b - 2 * a) / (2 * b)) else (2 * a + b) / (2 * b)
def absI (n : Int) : Int := if n < 0 then -n else n
theorem rnd_q {a b q r : Int} (hb : 0 < b) (h : a = b * q + r) (h0 : 0 ≤ r) (h1 : r < b) : (2 * a + b) / (2 * b) = q + (if b ≤ 2 * r then 1 else 0) := by
  have e : 2 * a + b = (2 * r + b) + q * (2 * b) := by rw [h, Int.mul_add, ← Int.mul_assoc, Int.mul_comm q (2 * b)]; omega
  rw [e, Int.add_mul_ediv_right _ _ (by omega)]
  have : (2 * r + b) / (2 * b) = if b ≤ 2 * r then 1 else 0 := by
    split
    · rw [show 2 * r + b = (2 * r - b) + 1 * (2 * b) from by omega, Int.add_mul_ediv_right _ _ (by omega), Int.ediv_eq_zero_of_lt (by omega) (by omega)]; rfl
    · exact Int.ediv_eq_zero_of_lt (by omega) (by omega)
  rw [this]; omega
theorem rnd_pos {a b : Int} (ha : 0 ≤ a) (hb : 0 < b) : rnd a b = a / b + (if b ≤ 2 * (a % b) then 1 else 0) := by
  unfold rnd
  rw [if_neg (by omega)]
  exact rnd_q hb (Int.mul_ediv_add_emod a b).symm (Int.emod_nonneg _ (by omega)) (Int.emod_lt_of_pos _ hb)
theorem rnd_neg {a b : Int} (ha : 0 < a) (hb : 0 < b) : rnd (-a) b = -(a / b + (if b ≤ 2 * (a % b) then 1 else 0)) := by
  unfold rnd
  rw [if_pos (by omega), show b - 2 * -a = 2 * a + b from by omega,
    rnd_q hb (Int.mul_ediv_add_emod a b).symm (Int.emod_nonneg _ (by omega)) (Int.emod_lt_of_pos _ hb)]
theorem rnd_nn {a b : Int} (ha : 0 ≤ a) (hb : 0 < b) : 0 ≤ rnd a b := by
  unfold rnd; rw [if_neg (by omega)]; exact Int.ediv_nonneg (by omega) (by omega)
theorem ediv_le_self' {a b : Int} (ha : 0 ≤ a) (hb : 0 < b) : a / b ≤ a := Int.ediv_le_self _ ha
theorem rnd_le {a b : Int} (ha : 0 ≤ a) (hb : 0 < b) : rnd a b ≤ a + 1 := by
  rw [rnd_pos ha hb]; have := Int.ediv_le_self b ha; split <;> omega
theorem rnd_mono {a c b : Int} (ha : 0 ≤ a) (h : a ≤ c) (hb : 0 < b) : rnd a b ≤ rnd c b := by
  unfold rnd; rw [if_neg (by omega), if_neg (by omega)]; exact Int.ediv_le_ediv (by omega) (by omega)
theorem mul_bd {a b A B : Int} (h0 : 0 ≤ a) (h1 : a ≤ A) (h2 : 0 ≤ b) (h3 : b ≤ B) : 0 ≤ a * b ∧ a * b ≤ A * B :=
  ⟨Int.mul_nonneg h0 h2, Int.mul_le_mul h1 h3 h2 (by omega)⟩

theorem abs_c (n : Int) (w : World) (h0 : -4611686018427387904 ≤ n) (h1 : n ≤ 4611686018427387904) :
    Calls Try.prog 93 #[.int .i64 n] w fun e w' => e = .returned (.int .i64 (absI n)) ∧ w = w' := by
  go_enter Try.func93, Try.ntmps93
  go_wp2
  all_goals (go_ret; exact ⟨ret_int (by unfold absI; omega), rfl⟩)
theorem abs_pos_c (n : Int) (w : World) (h0 : 0 ≤ n) (h1 : n ≤ 4611686018427387904) :
    Calls Try.prog 93 #[.int .i64 n] w fun e w' => e = .returned (.int .i64 n) ∧ w = w' :=
  (abs_c n w (by omega) h1).mono fun e w' h => by rw [show absI n = n from if_neg (by omega)] at h; exact h
theorem abs_neg_c (n : Int) (w : World) (h0 : 0 ≤ n) (h1 : n ≤ 4611686018427387904) :
    Calls Try.prog 93 #[.int .i64 (-n)] w fun e w' => e = .returned (.int .i64 n) ∧ w = w' :=
  (abs_c (-n) w (by omega) (by omega)).mono fun e w' h => by rw [show absI (-n) = n from by unfold absI; split <;> omega] at h; exact h
theorem l01Div_c (a b : Int) (w : World) (h0 : -1152921504606846976 ≤ a) (h1 : a ≤ 1152921504606846976) (h2 : 0 < b) (h3 : b ≤ 1152921504606846976) :
    Calls Try.prog 82 #[.int .i64 a, .int .i64 b] w fun e w' => e = .returned (.int .i64 (rnd a b)) ∧ w = w' := by
  by_cases ha : a < 0
  · have e1 := Int.ediv_nonneg (show 0 ≤ b - 2 * a by omega) (show 0 ≤ 2 * b by omega)
    have e2 := Int.ediv_le_self (2 * b) (show 0 ≤ b - 2 * a by omega)
    go_enter Try.func82, Try.ntmps82
    go_wp2
    go_ret
    exact ⟨ret_int (by unfold rnd; rw [if_pos ha]), rfl⟩
  · go_enter Try.func82, Try.ntmps82
    go_wp2
    go_ret
    exact ⟨ret_int (by unfold rnd; rw [if_neg (by omega)]), rfl⟩
set_option maxHeartbeats 400000 in
theorem divRound_c (a b : Int) (w : World) (h0 : -1152921504606846976 ≤ a) (h1 : a ≤ 1152921504606846976) (h2 : 0 < b) (h3 : b ≤ 1152921504606846976) :
    Calls Try.prog 86 #[.int .i64 a, .int .i64 b] w fun e w' => e = .returned (.int .i64 (rnd a b)) ∧ ∃ q, w' = w.drewN q := by
  by_cases ha : 0 ≤ a
  · have e1 := Int.emod_nonneg a (show b ≠ 0 by omega)
    have e2 := Int.emod_lt_of_pos a h2
    have e3 := Int.ediv_nonneg ha (show 0 ≤ b by omega)
    have e4 := Int.ediv_le_self b ha
    have b1 : (decide (a < 0) == decide (b < 0)) = true := by rw [decide_eq_false (by omega), decide_eq_false (by omega)]; rfl
    have HR := Lib.hid (rnd_pos ha h2)
    go_enter Try.func86, Try.ntmps86
    go_wp2
    go_quiet ((go_at_call 93; exact quiet_left (abs_pos_c _ _ (by omega) (by omega))))
    go_wp2_with (go_at_call 93; refine (abs_pos_c _ _ (by omega) (by omega)).mono ?_; rintro e w' ⟨rfl, rfl⟩)
    all_goals go_ret
    all_goals (refine ⟨ret_int ?_, _, rfl⟩; rw [HR.out]; split <;> omega)
  · obtain ⟨c, rfl⟩ : ∃ c, a = -c := ⟨-a, by omega⟩
    have e1 := Int.emod_nonneg c (show b ≠ 0 by omega)
    have e2 := Int.emod_lt_of_pos c h2
    have e3 := Int.ediv_nonneg (show 0 ≤ c by omega) (show 0 ≤ b by omega)
    have e4 := Int.ediv_le_self b (show 0 ≤ c by omega)
    have b1 : (decide (-c < 0) == decide (b < 0)) = false := by rw [decide_eq_true (by omega), decide_eq_false (by omega)]; rfl
    have b2 : (decide (0 < c) == decide (b < 0)) = false := by rw [decide_eq_true (by omega), decide_eq_false (by omega)]; rfl
    have HR := Lib.hid (rnd_neg (show 0 < c by omega) h2)
    have q1 : Int.tdiv (-c) b = -(c / b) := by rw [Int.neg_tdiv, Int.tdiv_eq_ediv_of_nonneg (by omega)]
    have q2 : Int.tmod (-c) b = -(c % b) := by rw [Int.neg_tmod, Int.tmod_eq_emod_of_nonneg (by omega)]
    go_enter Try.func86, Try.ntmps86
    go_wp2
    go_quiet ((go_at_call 93; exact quiet_left (abs_neg_c _ _ (by omega) (by omega))))
    go_wp2_with (go_at_call 93; refine (abs_pos_c _ _ (by omega) (by omega)).mono ?_; rintro e w' ⟨rfl, rfl⟩)
    all_goals go_ret
    all_goals (refine ⟨ret_int ?_, _, rfl⟩; rw [HR.out]; split <;> omega)
end Go.Proofs.Ytaoomildopmclaa
