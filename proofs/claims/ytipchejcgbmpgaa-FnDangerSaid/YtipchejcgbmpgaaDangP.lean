/- FnDanger: the plain facts, and the contracts at arguments in their ranges. -/
import Derived.Test.YtipchejcgbmpgaaLayN
import Derived.Test.YtipchejcgbmpgaaLayQ
import Derived.Test.YtipchejcgbmpgaaR8a
import Derived.Test.YtipchejcgbmpgaaTb
import Derived.Test.YtipchejcgbmpgaaTc
namespace Go.Proofs.Ytipchejcgbmpgaa
open Go.ChangeShapes Go.WideShapes Go.ChangeAt Go.RowKit
set_option linter.unusedVariables false

theorem Bytes.belowSelf {w w' : World} {n : Nat} {A : Option Addr} {zs : List Int} (h : Bytes w w.heap.size A n zs) (hb : Below w.heap.size w w') : Bytes w' w'.heap.size A n zs := (h.below hb).more hb.size
def LoopK (N : Nat) (i : Value) : Prop := ∃ k : Nat, k ≤ N ∧ i = .int .i64 k
theorem dangerV_bd (l e s : Int) : 1 ≤ dangerV l e s ∧ dangerV l e s ≤ 5 := by unfold dangerV; repeat' split <;> omega
theorem dangerV_mono (l e s l' e' s' : Int) (h1 : l ≤ l') (h2 : e ≤ e') (h3 : s ≤ s') : dangerV l e s ≤ dangerV l' e' s' := by unfold dangerV; repeat' split <;> omega
theorem likeV_shift (l h : Int) : likeV (l + 10) (h + 10) ≤ likeV l h := by unfold likeV; repeat' split <;> omega
theorem sizeV_mono {s t : Int} (h : s ≤ t) : sizeV s ≤ sizeV t := by unfold sizeV; repeat' split <;> omega
theorem extentV_iff (u a : Int) : (((extentV u a == 3) != decide (2 * a ≤ 3 * u)) = false) ∧ (((extentV u a == 3) == decide (2 * a ≤ 3 * u)) = true) ∧ (extentV u a = 3 ↔ 2 * a ≤ 3 * u) := by
  have h : extentV u a = 3 ↔ 2 * a ≤ 3 * u := by unfold extentV; repeat' split <;> omega
  by_cases hh : 2 * a ≤ 3 * u <;> simp [h, hh] <;> omega
theorem cmpV_neg (a b : Int) : cmpV b a = -cmpV a b := by unfold cmpV; repeat' split <;> omega
theorem cmpV_bd (a b : Int) : -1 ≤ cmpV a b ∧ cmpV a b ≤ 1 := by unfold cmpV; repeat' split <;> omega
theorem cmpV_pos (a b : Int) : (decide (0 < cmpV a b) == decide (b < a)) = true := by
  have h : 0 < cmpV a b ↔ b < a := by unfold cmpV; repeat' split <;> omega
  by_cases hh : b < a <;> simp [h, hh]
theorem reads_lit2 (w : World) (a b : Int) : Reads (w.alloc (.cells #[.int .i64 a, .int .i64 b] 2)) (w.heap.size + 1) 1 (some ⟨w.heap.size, 0, none⟩) 2 (ints [a, b]) := by
  refine ⟨rfl, fun _ => ⟨_, rfl, by simp, fun j u hu => ?_⟩⟩
  have K := Blk.new w 2 #[.int .i64 a, .int .i64 b]
  have e : (⟨w.heap.size, 0, none⟩ : Addr).add j = ⟨w.heap.size, j, none⟩ := by unfold Addr.add; split <;> simp_all
  rw [e, K.cell j]
  simpa [ints] using hu
theorem lvlV_two (ls : List Lay) (a b t : Int) (hp : proB ls = true) (a0 : 0 ≤ a) (a1 : a ≤ 99) (b0 : 0 ≤ b) (b1 : b ≤ 99) (t0 : 0 ≤ t) (t1 : t ≤ 30000) :
    (ls.length = 0 ∧ lvlV ls [a, b] 100 200 t = (0, 3) ∧ lvlV ls [a, b] 100 200 (t + 30000) = (0, 3)) ∨
    (ls.length ≠ 0 ∧ ∃ x y : Int, lvlV ls [a, b] 100 200 t = (x, 0) ∧ lvlV ls [a, b] 100 200 (t + 30000) = (y, 0) ∧ 1 ≤ x ∧ x ≤ 5 ∧ x ≤ y) := by
  have hok : ∀ s : Int, 0 ≤ s → s ≤ 1000000 → ([0, a, b].all (okR 100 200 s)) = true := fun s h0 h1 => by
    simp [okR, slopeB, doubtB, inB]; omega
  by_cases hl : ls.length = 0
  · left
    refine ⟨hl, ?_, ?_⟩
    · rw [lvlV, if_neg (by simp [hp]), if_neg (by rw [hok t t0 (by omega)]; simp), if_neg (by simp), if_pos hl]
    · rw [lvlV, if_neg (by simp [hp]), if_neg (by rw [hok _ (by omega) (by omega)]; simp), if_neg (by simp), if_pos hl]
  · right
    refine ⟨hl, _, _, by rw [lvlV, if_neg (by simp [hp]), if_neg (by rw [hok t t0 (by omega)]; simp), if_neg (by simp), if_neg hl], by rw [lvlV, if_neg (by simp [hp]), if_neg (by rw [hok _ (by omega) (by omega)]; simp), if_neg (by simp), if_neg hl], (dangerV_bd _ _ _).1, (dangerV_bd _ _ _).2, ?_⟩
    exact dangerV_mono _ _ _ _ _ _ (Int.le_refl _) (Int.le_refl _) (sizeV_mono (by omega))

theorem iDanger_ok (a b c : Int) (w : World) (a1 : 1 ≤ a) (a2 : a ≤ 4) (b1 : 1 ≤ b) (b2 : b ≤ 3) (c1 : 1 ≤ c) (c2 : c ≤ 5) :
    Calls Try.prog 29 #[.int .i64 a, .int .i64 b, .int .i64 c] w fun e w' => e = .returned (.tuple #[.int .i64 (dangerV a b c), .int .i64 0]) ∧ w = w' := by
  have h1 := inB_t a1 a2
  have h2 := inB_t b1 b2
  have h3 := inB_t c1 c2
  go_enter Try.func29, Try.ntmps29
  go_wp2_with (first | (go_at_call 65; refine (within_c _ _ _ _).mono ?_; rintro e w' ⟨rfl, rfl⟩) | (go_at_call 68; refine (dangerLevel_c _ _ _ _ (by omega) (by omega) (by omega) (by omega) (by omega) (by omega)).mono ?_; rintro e w' ⟨rfl, rfl⟩))
  go_ret2
  exact ⟨rfl, rfl⟩
theorem iLikely_ok (a b : Int) (w : World) (a1 : 0 ≤ a) (a2 : a ≤ b) (b2 : b ≤ 1000000) :
    Calls Try.prog 31 #[.int .i64 a, .int .i64 b] w fun e w' => e = .returned (.tuple #[.int .i64 (likeV a b), .int .i64 0]) ∧ w = w' := by
  have h1 := inB_t (n := a) (low := 0) (high := 1000000) a1 (by omega)
  have h2 := inB_t a2 b2
  go_enter Try.func31, Try.ntmps31
  go_wp2_with (first | (go_at_call 65; refine (within_c _ _ _ _).mono ?_; rintro e w' ⟨rfl, rfl⟩) | (go_at_call 67; refine (likelihoodOf_c _ _ _).mono ?_; rintro e w' ⟨rfl, rfl⟩))
  go_ret2
  exact ⟨rfl, rfl⟩
theorem iSize_ok (a : Int) (w : World) (a1 : 0 ≤ a) (a2 : a ≤ 1000000) :
    Calls Try.prog 33 #[.int .i64 a] w fun e w' => e = .returned (.tuple #[.int .i64 (sizeV a), .int .i64 0]) ∧ w = w' := by
  have h1 := inB_t a1 a2
  go_enter Try.func33, Try.ntmps33
  go_wp2_with (first | (go_at_call 65; refine (within_c _ _ _ _).mono ?_; rintro e w' ⟨rfl, rfl⟩) | (go_at_call 70; refine (sizeClass_c _ _).mono ?_; rintro e w' ⟨rfl, rfl⟩))
  go_ret2
  exact ⟨rfl, rfl⟩
theorem iExtent_ok (u a : Int) (w : World) (a1 : 1 ≤ a) (a2 : a ≤ 64) (u1 : 0 ≤ u) (u2 : u ≤ a) :
    Calls Try.prog 34 #[.int .i64 u, .int .i64 a] w fun e w' => e = .returned (.tuple #[.int .i64 (extentV u a), .int .i64 0]) ∧ w = w' := by
  have h1 := inB_t a1 a2
  have h2 := inB_t u1 u2
  go_enter Try.func34, Try.ntmps34
  go_wp2_with (first | (go_at_call 65; refine (within_c _ _ _ _).mono ?_; rintro e w' ⟨rfl, rfl⟩) | (go_at_call 69; refine (extentOf_c _ _ _ (by omega) (by omega) (by omega) (by omega)).mono ?_; rintro e w' ⟨rfl, rfl⟩))
  go_ret2
  exact ⟨rfl, rfl⟩
theorem iChange_ok (a b : Int) (w : World) (a1 : 1 ≤ a) (a2 : a ≤ 5) (b1 : 1 ≤ b) (b2 : b ≤ 5) :
    Calls Try.prog 35 #[.int .i64 a, .int .i64 b] w fun e w' => e = .returned (.tuple #[.int .i64 (cmpV b a), .int .i64 0]) ∧ w = w' := by
  have h := iChangeOf_c a b w
  rw [show changeOfV a b = (cmpV b a, 0) from by rw [changeOfV, inB_t a1 a2, inB_t b1 b2]; rfl] at h
  exact h
def NamePost (w : World) (e : Ending) (w' : World) : Prop := ∃ s : ByteArray, e = .returned (.string s) ∧ (s.toList = [] ↔ False) ∧ s.toList.isEmpty = false ∧ Below w.heap.size w w'
theorem ne_str {s : ByteArray} (h : s.toList.isEmpty = false) : (s.toList = [] ↔ False) := by
  cases hs : s.toList with
  | nil => rw [hs] at h; simp at h
  | cons a l => simp
theorem iLevelName_ne (n : Int) (w : World) (h0 : 1 ≤ n) (h1 : n ≤ 5) : Calls Try.prog 30 #[.int .i64 n] w (NamePost w) := by
  have h : n = 1 ∨ n = 2 ∨ n = 3 ∨ n = 4 ∨ n = 5 := by omega
  clear h0 h1
  have i1 : ∀ w : World, (Instr.index 70 (.agg #[.string ⟨#[]⟩, .string ⟨#[108, 111, 119]⟩, .string ⟨#[109, 111, 100, 101, 114, 97, 116, 101]⟩, .string ⟨#[99, 111, 110, 115, 105, 100, 101, 114, 97, 98, 108, 101]⟩, .string ⟨#[104, 105, 103, 104]⟩, .string ⟨#[118, 101, 114, 121, 45, 104, 105, 103, 104]⟩]) (.int .i64 1)).run Try.prog w = .ok (.string ⟨#[108, 111, 119]⟩) w := fun _ => by kernel_rfl
  have i2 : ∀ w : World, (Instr.index 70 (.agg #[.string ⟨#[]⟩, .string ⟨#[108, 111, 119]⟩, .string ⟨#[109, 111, 100, 101, 114, 97, 116, 101]⟩, .string ⟨#[99, 111, 110, 115, 105, 100, 101, 114, 97, 98, 108, 101]⟩, .string ⟨#[104, 105, 103, 104]⟩, .string ⟨#[118, 101, 114, 121, 45, 104, 105, 103, 104]⟩]) (.int .i64 2)).run Try.prog w = .ok (.string ⟨#[109, 111, 100, 101, 114, 97, 116, 101]⟩) w := fun _ => by kernel_rfl
  have i3 : ∀ w : World, (Instr.index 70 (.agg #[.string ⟨#[]⟩, .string ⟨#[108, 111, 119]⟩, .string ⟨#[109, 111, 100, 101, 114, 97, 116, 101]⟩, .string ⟨#[99, 111, 110, 115, 105, 100, 101, 114, 97, 98, 108, 101]⟩, .string ⟨#[104, 105, 103, 104]⟩, .string ⟨#[118, 101, 114, 121, 45, 104, 105, 103, 104]⟩]) (.int .i64 3)).run Try.prog w = .ok (.string ⟨#[99, 111, 110, 115, 105, 100, 101, 114, 97, 98, 108, 101]⟩) w := fun _ => by kernel_rfl
  have i4 : ∀ w : World, (Instr.index 70 (.agg #[.string ⟨#[]⟩, .string ⟨#[108, 111, 119]⟩, .string ⟨#[109, 111, 100, 101, 114, 97, 116, 101]⟩, .string ⟨#[99, 111, 110, 115, 105, 100, 101, 114, 97, 98, 108, 101]⟩, .string ⟨#[104, 105, 103, 104]⟩, .string ⟨#[118, 101, 114, 121, 45, 104, 105, 103, 104]⟩]) (.int .i64 4)).run Try.prog w = .ok (.string ⟨#[104, 105, 103, 104]⟩) w := fun _ => by kernel_rfl
  have i5 : ∀ w : World, (Instr.index 70 (.agg #[.string ⟨#[]⟩, .string ⟨#[108, 111, 119]⟩, .string ⟨#[109, 111, 100, 101, 114, 97, 116, 101]⟩, .string ⟨#[99, 111, 110, 115, 105, 100, 101, 114, 97, 98, 108, 101]⟩, .string ⟨#[104, 105, 103, 104]⟩, .string ⟨#[118, 101, 114, 121, 45, 104, 105, 103, 104]⟩]) (.int .i64 5)).run Try.prog w = .ok (.string ⟨#[118, 101, 114, 121, 45, 104, 105, 103, 104]⟩) w := fun _ => by kernel_rfl
  rcases h with rfl | rfl | rfl | rfl | rfl
  all_goals
    go_enter Try.func30, Try.ntmps30
    go_wp2_with (first | (go_at_call 71; refine (levelOk_c _ _).mono ?_; rintro e w' ⟨rfl, rfl⟩))
    go_ret
    exact ⟨_, rfl, ne_str (by decide +kernel), by decide +kernel, by go_grown⟩
end Go.Proofs.Ytipchejcgbmpgaa
