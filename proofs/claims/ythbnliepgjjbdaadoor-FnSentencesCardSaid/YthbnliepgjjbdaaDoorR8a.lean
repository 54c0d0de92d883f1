/- What the general laws read off their bytes: r8Long, r8At, r8Wide. -/
import Derived.Test.YthbnliepgjjbdaaDoorSrc
namespace Go.Proofs.YthbnliepgjjbdaaDoor
open Go.ChangeShapes Go.WideShapes Go.ChangeAt Go.RowKit
set_option linter.unusedVariables false

theorem r8Long_c (A : Option Addr) (n c : Nat) (D : Option Addr) (m d : Nat) (w : World) :
    Calls Tryd.prog 18 #[.slice A n c, .slice D m d] w fun e w' => e = .returned (.bool (decide (1048576 < n ∨ 1048576 < m))) ∧ w = w' := by
  go_enter Tryd.func18, Tryd.ntmps18
  go_wp2
  all_goals (go_ret; exact ⟨ret_bool (by rw [Bool.eq_iff_iff]; simp; omega), rfl⟩)
def AtPost (w : World) (n : Int) (e : Ending) (w' : World) : Prop := ∃ v : Int, e = .returned (.int .i64 v) ∧ 0 ≤ v ∧ (v < n ∨ v = 0) ∧ v ≤ 255 ∧ Below w.heap.size w w'
set_option maxHeartbeats 400000 in
theorem r8At_c (A : Option Addr) (m c B : Nat) (zs : List Int) (k : Nat) (n : Int) (w : World) (ha : Bytes w B A m zs) (hn : n ≤ 1000000000000) (hk : k ≤ 1000000000) :
    Calls Tryd.prog 20 #[.slice A m c, .int .i64 k, .int .i64 n] w (AtPost w n) := by
  by_cases h1 : n ≤ 1
  · clear ha
    go_enter Tryd.func20, Tryd.ntmps20
    go_wp2
    go_ret
    exact ⟨0, rfl, by omega, by omega, by omega, Below.refl _ _⟩
  · by_cases h2 : k < m
    · obtain ⟨ad, z, rfl, _, _, hc, hz0, hz1⟩ := ha.byte h2
      clear ha
      have h2' : ¬ (m : Int) ≤ (k : Int) := by omega
      go_enter Tryd.func20, Tryd.ntmps20
      go_wp2
      go_ret
      refine ⟨_, rfl, Int.emod_nonneg _ (by omega), .inl (Int.emod_lt_of_pos _ (by omega)), ?_, Below.refl _ _⟩
      have h := Int.emod_add_mul_ediv z n
      have h' := Int.mul_nonneg (show 0 ≤ n by omega) (Int.ediv_nonneg hz0 (show 0 ≤ n by omega))
      omega
    · have h2' : (m : Int) ≤ (k : Int) := by omega
      clear ha
      go_enter Tryd.func20, Tryd.ntmps20
      go_wp2
      go_ret
      exact ⟨0, rfl, by omega, by omega, by omega, Below.refl _ _⟩

end Go.Proofs.YthbnliepgjjbdaaDoor
