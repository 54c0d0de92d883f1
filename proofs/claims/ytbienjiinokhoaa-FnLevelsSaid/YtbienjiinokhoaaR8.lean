/- What the general laws read off their bytes: the levels that R8Levels draws. -/
import Derived.Test.YtbienjiinokhoaaR8a
import Derived.Test.YtbienjiinokhoaaLev
namespace Go.Proofs.Ytbienjiinokhoaa
open Go.ChangeShapes Go.WideShapes Go.ChangeAt Go.RowKit
set_option linter.unusedVariables false

theorem Own.raw {w : World} {lo hi s n : Nat} {T : TypeId} {v : Value} {xs : List Value} (h : Own w lo hi T s v n xs) : w.ownsRow lo T s v n xs := h.1
theorem owns_below {w w' : World} {lo B s n : Nat} {T : TypeId} {v : Value} {xs : List Value} (h : w.ownsRow lo T s v n xs) (hb : Below B w w') (hB : w.heap.size ≤ B) : w'.ownsRow lo T s v n xs :=
  ((Own.of_owns h (Nat.le_refl _)).below hb hB).1
theorem owns_only {w w' : World} {lo lo' hi' s n : Nat} {T : TypeId} {v : Value} {xs : List Value} (h : w.ownsRow lo T s v n xs) (ho : Only lo' hi' w w') (hd : hi' ≤ lo) : w'.ownsRow lo T s v n xs :=
  ((Own.of_owns h (Nat.le_refl _)).only ho (.inr hd)).1
theorem owns_alloc {w : World} {lo s n : Nat} {T : TypeId} {v : Value} {xs : List Value} (h : w.ownsRow lo T s v n xs) (o : Obj) : (w.alloc o).ownsRow lo T s v n xs :=
  owns_below h ((Below.refl _ _).alloc (Nat.le_refl _) o) (Nat.le_refl _)

def LevelsPost (w : World) (e : Ending) (w' : World) : Prop :=
  ∃ A n c zs, e = .returned (.slice A n c) ∧ Own w' w.heap.size w'.heap.size 2 1 (.slice A n c) n (ints zs) ∧ allInB 1 5 zs = true ∧ n ≤ 8 ∧ Below w.heap.size w w'
set_option maxHeartbeats 1000000 in
theorem R8Levels_c (A : Option Addr) (n c : Nat) (zs : List Int) (w : World) (ha : Bytes w w.heap.size A n zs) (hn : n ≤ 1152921504606846976) :
    Calls Try.prog 19 #[.slice A n c] w (LevelsPost w) := by
  have HA := Lib.hid ha; clear ha
  go_enter Try.func19, Try.ntmps19
  go_wp2_with fail
  refine (l00From_c A n c zs w HA.out hn).mono ?_
  rintro e w1 ⟨rfl, S1, B1, hs1⟩
  replace S1 := Lib.hid S1
  replace B1 := Lib.hid B1
  go_wp2_with fail
  refine (pick_c w.heap.size 0 9 _ (S1.out.below (B := w.heap.size + 1) ((Below.refl _ _).alloc (by omega) _) (by omega)) (by omega) (by omega)).mono ?_
  rintro e w2 ⟨v, rfl, hv0, hv1, S2, Y2⟩
  have hs2 : w.heap.size + 2 ≤ w2.heap.size := by have := Y2.size; simp [hs1] at this; omega
  have O2 : Hid (w2.ownsRow (w.heap.size + 1) 2 1 (.slice (some ⟨w.heap.size + 1, 0, none⟩) 0 0) 0 (ints [])) := by
    refine Lib.hid (owns_only ?_ Y2 (Nat.le_refl _))
    have := World.ownsRow_lit (w := w1) (base := w.heap.size + 1) (e := 2) (size := 1) #[] 0 (by omega) (by simp [maxLen]) (by simp)
    rw [hs1] at this
    exact this
  have T2 : Hid (Below w.heap.size w w2) := Lib.hid (B1.out.trans ((((Below.refl _ _).alloc (by omega) _).trans (Y2.below (Nat.le_refl _) (by simp; omega)))))
  replace S2 := Lib.hid S2
  clear S1 B1 Y2 hs1
  obtain ⟨m0, rfl⟩ : ∃ m0 : Nat, v = m0 := ⟨v.toNat, by omega⟩
  go_wp2_with fail
  go_loopw [4, 5] (fun o k wr => ∃ (m n' : Nat) (zs' : List Int), m ≤ 8 ∧ n' + m ≤ 8 ∧ k = .int .i64 m ∧ Hid (wr.ownsRow (w.heap.size + 1) 2 1 o n' (ints zs')) ∧ Hid (allInB 1 5 zs' = true) ∧
    Hid (Src wr w.heap.size (2 + 2 * n')) ∧ Hid (Below w.heap.size w wr) ∧ w.heap.size + 2 ≤ wr.heap.size) (fun _ k _ => (intOf k).toNat)
  case atStart => exact ⟨m0, 0, [], by omega, by omega, rfl, O2, Lib.hid rfl, S2, T2, hs2⟩
  case round =>
    clear S2 T2 O2 hs2
    obtain ⟨m, n', zs', hm, hnm, rfl, HO, HA', HS, HT, hsz⟩ := hrel
    by_cases h0 : m = 0
    · subst h0
      go_wp2
      go_ret
      obtain ⟨A', c', hv', _, _⟩ := (Own.of_owns HO.out (Nat.le_refl _)).slice
      have hO := HO.out
      rw [hv'] at hO
      refine ⟨A', n', c', zs', by rw [← hv']; rfl, (Own.of_owns hO (Nat.le_refl _)).widen (by omega) (Nat.le_refl _), HA'.out, by omega, HT.out⟩
    · have hmp : 0 < m := by omega
      go_wp2_with fail
      refine (pick_c w.heap.size (2 + 2 * n') 5 wr HS.out (by omega) (by omega)).mono ?_
      rintro e w3 ⟨v3, rfl, hv0, hv1, S3, Y3⟩
      have hs3 := Y3.size
      have O3 := Lib.hid (owns_only HO.out Y3 (Nat.le_refl _))
      have T3 := Lib.hid (HT.out.trans (Y3.below (Nat.le_refl _) (by omega)))
      replace S3 := Lib.hid S3
      clear Y3 HO HT HS
      go_wp2_with (at_builtin; refine app_i64 rfl (.tmp 15) (.tmp 19) rfl (w.heap.size + 1) _ n' zs' (1 + v3) _ rfl (owns_alloc O3.out _) rfl ?_ (by omega) ?_ ?_)
      rotate_left 2
      · intro v4 w4 O4 B4 hs4
        have hs4' : w3.heap.size ≤ w4.heap.size := by first | omega | (simp at hs4; omega)
        replace O4 := Lib.hid O4
        have B4' := Lib.hid ((Below.refl (w.heap.size + 1) w3).alloc (by omega) _ |>.trans B4)
        clear B4 hs4
        go_wp2
        go_roundw
        case rel => exact ⟨m - 1, n' + 1, zs' ++ [1 + v3], by omega, by omega, by rw [show ((m - 1 : Nat) : Int) = (m : Int) - 1 from by omega], O4, Lib.hid (by have h := HA'.out; unfold allInB at h ⊢; rw [List.all_append, h]; simp [inB]; omega), Lib.hid (((S3.out.below B4'.out (by omega))).more (by omega)), Lib.hid (T3.out.trans (B4'.out.mono (by omega))), by omega⟩
        case measure => simp [intOf]; omega
      · go_simp
      · simp; omega
end Go.Proofs.Ytbienjiinokhoaa
