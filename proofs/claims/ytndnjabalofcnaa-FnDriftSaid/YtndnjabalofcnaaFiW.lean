/- A list copied: l00Own, slices.Clone. -/
import Derived.Test.YtndnjabalofcnaaFiA
namespace Go.Proofs.Ytndnjabalofcnaa
open Go.ChangeShapes Go.WideShapes Go.ChangeAt Go.RowKit
set_option linter.unusedVariables false

set_option maxHeartbeats 2000000 in
theorem l00Own_c (A : Option Addr) (n c B : Nat) (l : List Int) (w : World) (ha : Reads w B 1 A n (ints l)) (hB : B ≤ w.heap.size) (hn : n ≤ 1048576) :
    Calls Try.prog 65 #[.slice A n c] w fun e w' => ∃ D d, e = .returned (.slice D n d) ∧ Own w' w.heap.size w'.heap.size 2 1 (.slice D n d) n (ints l) ∧ Below w.heap.size w w' := by
  have HA := Lib.hid ha
  clear ha
  have O1 : Hid ((w.alloc (.cells #[] 2)).ownsRow w.heap.size 2 1 (.slice (some ⟨w.heap.size, 0, none⟩) 0 0) 0 (ints [])) := Lib.hid (World.ownsRow_lit (w := w) (base := w.heap.size) (e := 2) (size := 1) #[] 0 (Nat.le_refl _) (by simp [maxLen]) (by simp))
  go_enter Try.func65, Try.ntmps65
  go_wp2_with (at_builtin; refine app_i64s rfl (.tmp 3) (.tmp 4) rfl w.heap.size _ 0 [] l B A n c rfl O1.out rfl (HA.out.alloc hB _) (by omega) (by simp) ?_)
  intro v' w' O4 B4 hs4
  have B5 := Lib.hid ((((Below.refl w.heap.size w).alloc (Nat.le_refl _) _)).trans B4)
  obtain ⟨D, d, hv, _, _⟩ := (Own.of_owns O4 (Nat.le_refl _)).slice
  subst hv
  have O5 : Hid (Own w' w.heap.size w'.heap.size 2 1 (.slice D (0 + n) d) (0 + n) (ints l)) := Lib.hid (by have h := Own.of_owns O4 (Nat.le_refl _); simpa using h)
  clear O4 B4 hs4
  go_wp2
  go_ret
  refine ⟨D, d, by simp, ?_, B5.out⟩
  have h := O5.out
  rw [Nat.zero_add] at h
  exact h
set_option maxHeartbeats 2000000 in
set_option maxRecDepth 100000 in
theorem sclone_c (ad : Addr) (n c B : Nat) (l : List Int) (w : World) (ha : Reads w B 1 (some ad) n (ints l)) (hB : B ≤ w.heap.size) (hn : n ≤ 1048576) :
    Calls Try.prog 69 #[.slice (some ad) n c] w fun e w' => ∃ D d, e = .returned (.slice D n d) ∧ Own w' w.heap.size w'.heap.size 2 1 (.slice D n d) n (ints l) ∧ Below w.heap.size w w' := by
  have HA := Lib.hid ha
  clear ha
  have O1 : Hid ((w.alloc (.cells #[] 2)).ownsRow w.heap.size 2 1 (.slice (some ⟨w.heap.size, 0, none⟩) 0 0) 0 (ints [])) := Lib.hid (World.ownsRow_lit (w := w) (base := w.heap.size) (e := 2) (size := 1) #[] 0 (Nat.le_refl _) (by simp [maxLen]) (by simp))
  have hq : ∀ w : World, (Go.binOp .eql 22 (.slice (some ad) n c) (.slice none 0 0)).run Try.prog w = .ok (.bool false) w := fun w => by kernel_rfl
  go_enter Try.func69, Try.ntmps69
  go_wp2_with (at_builtin; refine app_i64s rfl (.tmp 5) (.tmp 6) rfl w.heap.size _ 0 [] l B (some ad) n c rfl O1.out rfl (HA.out.alloc hB _) (by omega) (by simp) ?_)
  intro v' w' O4 B4 hs4
  have B5 := Lib.hid ((((Below.refl w.heap.size w).alloc (Nat.le_refl _) _)).trans B4)
  obtain ⟨D, d, hv, _, _⟩ := (Own.of_owns O4 (Nat.le_refl _)).slice
  subst hv
  have O5 : Hid (Own w' w.heap.size w'.heap.size 2 1 (.slice D (0 + n) d) (0 + n) (ints l)) := Lib.hid (by have h := Own.of_owns O4 (Nat.le_refl _); simpa using h)
  clear O4 B4 hs4
  go_wp2
  go_ret
  refine ⟨D, d, by simp, ?_, B5.out⟩
  have h := O5.out
  rw [Nat.zero_add] at h
  exact h
end Go.Proofs.Ytndnjabalofcnaa
