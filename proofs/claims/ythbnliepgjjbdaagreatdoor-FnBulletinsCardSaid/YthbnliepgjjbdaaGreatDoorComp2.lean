/- ComposeBulletin: both sides. -/
import Derived.Test.YthbnliepgjjbdaaGreatDoorComp
namespace Go.Proofs.YthbnliepgjjbdaaGreatDoor
open Go.ChangeShapes Go.WideShapes Go.ChangeAt Go.RowKit
set_option linter.unusedVariables false

def CompPost (L : List Sen) (E : Int) (w : World) (e : Ending) (w' : World) : Prop :=
  ∃ (A : Option Addr) (n c : Nat), e = .returned (.tuple #[.slice A n c, .int .i64 E]) ∧ Own w' w.heap.size w'.heap.size 38 3 (.slice A n c) n (sens L) ∧ n ≤ 5 ∧ Below w.heap.size w w'

theorem comp_lit (w : World) (p q r : Int) : (w.alloc (.cells #[.int .i64 1, .int .i64 p, .int .i64 0, .int .i64 2, .int .i64 q, .int .i64 0, .int .i64 3, .int .i64 r, .int .i64 0] 38)).ownsRow w.heap.size 38 3 (.slice (some ⟨w.heap.size, 0, none⟩) 3 3) 3 (sens [⟨1, p, 0⟩, ⟨2, q, 0⟩, ⟨3, r, 0⟩]) :=
  World.ownsRow_lit w #[.int .i64 1, .int .i64 p, .int .i64 0, .int .i64 2, .int .i64 q, .int .i64 0, .int .i64 3, .int .i64 r, .int .i64 0] 3 (Nat.le_refl _) (by simp [maxLen]) rfl

theorem iCompNo_c (a b c d e : Int) (w : World) (h : compOk a b c d e = false) :
    Calls Tryz.prog 7 #[.int .i64 a, .int .i64 b, .int .i64 c, .int .i64 d, .int .i64 e] w (CompPost [] 2 w) := by
  unfold compOk at h
  cases h0 : inB a 1 5 <;> cases h1 : inB b 1 5 <;> cases h2 : inB c 0 5000 <;> cases h3 : inB d 0 500 <;> cases h4 : inB e 0 500
  all_goals rw [h0, h1, h2, h3, h4] at h
  all_goals first | (exact absurd h (by decide)) | skip
  all_goals
    have hch : changeOfV a b = if inB a 1 5 && inB b 1 5 then (cmpV b a, 0) else (0, 2) := rfl
    rw [h0, h1] at hch
    clear h
    go_enter Tryz.func7, Tryz.ntmps7
    go_wp2_with (first | (go_at_call 16; refine (iChangeOf_c _ _ _).mono ?_; rintro e w' ⟨rfl, rfl⟩; rw [hch]) | (go_at_call 11; refine (sChangeOf_c _ _ _).mono ?_; rintro e w' ⟨rfl, rfl⟩; rw [hch]) | (go_at_call 17; refine (within_c _ _ _ _).mono ?_; rintro e w' ⟨rfl, rfl⟩) | (go_at_call 20; refine (l17Is_c _ _).mono ?_; rintro e w' ⟨rfl, rfl⟩) | (go_at_call 32; refine (l00In_c _ _ _ _).mono ?_; rintro e w' ⟨rfl, rfl⟩))
    go_ret2
    exact ⟨none, 0, 0, rfl, Own.nil, by omega, Below.refl _ _⟩

set_option maxHeartbeats 4000000 in
theorem iCompOk_c (a b c d e : Int) (w : World) (h : compOk a b c d e = true) :
    Calls Tryz.prog 7 #[.int .i64 a, .int .i64 b, .int .i64 c, .int .i64 d, .int .i64 e] w (CompPost (compV a b c d e) 0 w) := by
  unfold compV
  rw [if_pos h]
  unfold compOk at h
  simp only [Bool.and_eq_true] at h
  obtain ⟨⟨⟨⟨h0, h1⟩, h2⟩, h3⟩, h4⟩ := h
  have hch : changeOfV a b = (cmpV b a, 0) := by unfold changeOfV; rw [h0, h1]; rfl
  have hp3 := inB_b h3
  have hp4 := inB_b h4
  generalize cmpV b a = q at hch ⊢
  have HL := Lib.hid (comp_lit w b q c)
  by_cases hd : d = 0 <;> by_cases he : e = 0
  · rw [if_pos hd, if_pos he]
    subst hd he
    go_enter Tryz.func7, Tryz.ntmps7
    go_wp2_with (first | (go_at_call 16; refine (iChangeOf_c _ _ _).mono ?_; rintro e w' ⟨rfl, rfl⟩; rw [hch]) | (go_at_call 11; refine (sChangeOf_c _ _ _).mono ?_; rintro e w' ⟨rfl, rfl⟩; rw [hch]) | (go_at_call 17; refine (within_c _ _ _ _).mono ?_; rintro e w' ⟨rfl, rfl⟩) | (go_at_call 20; refine (l17Is_c _ _).mono ?_; rintro e w' ⟨rfl, rfl⟩) | (go_at_call 32; refine (l00In_c _ _ _ _).mono ?_; rintro e w' ⟨rfl, rfl⟩))
    go_ret2
    exact ⟨_, _, _, rfl, Own.of_owns HL.out (Nat.le_refl _), by omega, (Below.refl _ _).alloc (Nat.le_refl _) _⟩
  · rw [if_pos hd, if_neg he]
    subst hd
    go_enter Tryz.func7, Tryz.ntmps7
    go_wp2_with (first | (go_at_call 16; refine (iChangeOf_c _ _ _).mono ?_; rintro e w' ⟨rfl, rfl⟩; rw [hch]) | (go_at_call 11; refine (sChangeOf_c _ _ _).mono ?_; rintro e w' ⟨rfl, rfl⟩; rw [hch]) | (go_at_call 17; refine (within_c _ _ _ _).mono ?_; rintro e w' ⟨rfl, rfl⟩) | (go_at_call 20; refine (l17Is_c _ _).mono ?_; rintro e w' ⟨rfl, rfl⟩) | (go_at_call 32; refine (l00In_c _ _ _ _).mono ?_; rintro e w' ⟨rfl, rfl⟩) | (at_builtin; refine app_sen rfl _ _ rfl w.heap.size _ 3 _ ⟨6, e, 0⟩ _ rfl (ownsAlloc HL.out _) rfl ?_ ?_ ?_ (by omega) ?_ ?_))
    case refine_5 =>
      intro v4 w4 O4 B4 hs4
      have O5 := Own.of_owns O4 (Nat.le_refl _)
      have B5 := Lib.hid ((((Below.refl w.heap.size w).alloc (Nat.le_refl _) _).alloc (by simp) _).trans B4)
      clear O4 B4 hs4
      obtain ⟨A5, c5, rfl, _, _⟩ := O5.slice
      replace O5 := Lib.hid O5
      go_wp2
      go_ret2
      exact ⟨_, _, _, rfl, O5.out, by omega, B5.out⟩
    all_goals first | (go_simp; done) | (simp; done) | (simp; omega)
  · rw [if_neg hd, if_pos he]
    subst he
    go_enter Tryz.func7, Tryz.ntmps7
    go_wp2_with (first | (go_at_call 16; refine (iChangeOf_c _ _ _).mono ?_; rintro e w' ⟨rfl, rfl⟩; rw [hch]) | (go_at_call 11; refine (sChangeOf_c _ _ _).mono ?_; rintro e w' ⟨rfl, rfl⟩; rw [hch]) | (go_at_call 17; refine (within_c _ _ _ _).mono ?_; rintro e w' ⟨rfl, rfl⟩) | (go_at_call 20; refine (l17Is_c _ _).mono ?_; rintro e w' ⟨rfl, rfl⟩) | (go_at_call 32; refine (l00In_c _ _ _ _).mono ?_; rintro e w' ⟨rfl, rfl⟩) | (at_builtin; refine app_sen rfl _ _ rfl w.heap.size _ 3 _ ⟨5, d, 0⟩ _ rfl (ownsAlloc HL.out _) rfl ?_ ?_ ?_ (by omega) ?_ ?_))
    case refine_5 =>
      intro v4 w4 O4 B4 hs4
      have O5 := Own.of_owns O4 (Nat.le_refl _)
      have B5 := Lib.hid ((((Below.refl w.heap.size w).alloc (Nat.le_refl _) _).alloc (by simp) _).trans B4)
      clear O4 B4 hs4
      obtain ⟨A5, c5, rfl, _, _⟩ := O5.slice
      replace O5 := Lib.hid O5
      go_wp2
      go_ret2
      exact ⟨_, _, _, rfl, O5.out, by omega, B5.out⟩
    all_goals first | (go_simp; done) | (simp; done) | (simp; omega)
  · rw [if_neg hd, if_neg he]
    go_enter Tryz.func7, Tryz.ntmps7
    go_wp2_with (first | (go_at_call 16; refine (iChangeOf_c _ _ _).mono ?_; rintro e w' ⟨rfl, rfl⟩; rw [hch]) | (go_at_call 11; refine (sChangeOf_c _ _ _).mono ?_; rintro e w' ⟨rfl, rfl⟩; rw [hch]) | (go_at_call 17; refine (within_c _ _ _ _).mono ?_; rintro e w' ⟨rfl, rfl⟩) | (go_at_call 20; refine (l17Is_c _ _).mono ?_; rintro e w' ⟨rfl, rfl⟩) | (go_at_call 32; refine (l00In_c _ _ _ _).mono ?_; rintro e w' ⟨rfl, rfl⟩) | (at_builtin; refine app_sen rfl _ _ rfl w.heap.size _ 3 _ ⟨5, d, 0⟩ _ rfl (ownsAlloc HL.out _) rfl ?_ ?_ ?_ (by omega) ?_ ?_))
    case refine_5 =>
      intro v4 w4 O4 B4 hs4
      have O5 := Own.of_owns O4 (Nat.le_refl _)
      have B5 := Lib.hid ((((Below.refl w.heap.size w).alloc (Nat.le_refl _) _).alloc (by simp) _).trans B4)
      have hs5 : w.heap.size ≤ w4.heap.size := B5.out.size
      clear O4 B4 hs4
      obtain ⟨A5, c5, rfl, _, _⟩ := O5.slice
      replace O5 := Lib.hid O5.1
      go_wp2_with (at_builtin; refine app_sen rfl _ _ rfl w.heap.size _ 4 _ ⟨6, e, 0⟩ _ rfl (ownsAlloc O5.out _) rfl ?_ ?_ ?_ (by omega) ?_ ?_)
      case refine_5 =>
        intro v6 w6 O6 B6 hs6
        have O7 := Own.of_owns O6 (Nat.le_refl _)
        have B7 := Lib.hid (B5.out.trans (((Below.refl w4.heap.size w4).alloc (Nat.le_refl _) _).mono hs5 |>.trans B6))
        clear O6 B6 hs6
        obtain ⟨A7, c7, rfl, _, _⟩ := O7.slice
        replace O7 := Lib.hid O7
        go_wp2
        go_ret2
        exact ⟨_, _, _, rfl, O7.out, by omega, B7.out⟩
      all_goals first | (go_simp; done) | (simp; done) | (simp; omega)
    all_goals first | (go_simp; done) | (simp; done) | (simp; omega)
end Go.Proofs.YthbnliepgjjbdaaGreatDoor
