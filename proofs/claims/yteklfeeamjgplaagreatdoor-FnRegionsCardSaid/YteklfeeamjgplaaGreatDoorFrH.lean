/- FnRegions: the small functions of the law. -/
import Derived.Test.YteklfeeamjgplaaGreatDoorFrG
namespace Go.Proofs.YteklfeeamjgplaaGreatDoor
open Go.ChangeShapes Go.WideShapes Go.ChangeAt Go.RowKit
set_option linter.unusedVariables false
theorem b10Long_c (A : Option Addr) (n c : Nat) (w : World) : Calls Tryz.prog 4 #[.slice A n c] w fun e w' => e = .returned (.bool (decide (1048576 < n))) ∧ w = w' := by
  by_cases h : 1048576 < n
  · have h1 : (1048576 : Int) < (n : Int) := by omega
    go_enter Tryz.func4, Tryz.ntmps4
    go_wp2
    go_ret
    exact ⟨ret_bool (by first | rfl | (rw [decide_eq_true h])), rfl⟩
  · have h1 : ¬ (1048576 : Int) < (n : Int) := by omega
    go_enter Tryz.func4, Tryz.ntmps4
    go_wp2
    go_ret
    exact ⟨ret_bool (by first | rfl | (rw [decide_eq_false h])), rfl⟩
set_option maxHeartbeats 1000000 in
theorem b10Inside_c (A : Option Addr) (n c BA : Nat) (l : List ByteArray) (v : ByteArray) (w : World) (ha : Reads w BA 1 A n (strs l)) (hn : n ≤ 1048576) :
    Calls Tryz.prog 10 #[.slice A n c, .string v] w fun e w' => e = .returned (.bool (nearV l v)) ∧ w = w' := by
  have HV : Hid ((∃ k s, l[k]? = some s ∧ eqS s v = true) → nearV l v = true) := Lib.hid (fun ⟨k, s, h1, h2⟩ => List.any_eq_true.2 ⟨s, List.mem_of_getElem? h1, h2⟩)
  have HW : Hid (l.all (fun z => !eqS z v) = true → nearV l v = false) := Lib.hid (fun h => by
    unfold nearV
    rw [List.any_eq_false]
    intro x hx
    have := List.all_eq_true.1 h x hx
    simpa using this)
  have HL := Lib.hid ha.strLen
  have HA := Lib.hid ha
  clear ha
  generalize nearV l v = z at *
  go_enter Tryz.func10, Tryz.ntmps10
  go_wp2
  go_loop [5] (fun i => ∃ k : Nat, k ≤ n ∧ i = .int .i64 k ∧ Hid ((l.take k).all (fun z => !eqS z v) = true)) (fun i => n - (intOf i).toNat)
  case atStart => exact ⟨0, Nat.zero_le _, rfl, Lib.hid (by simp)⟩
  case round =>
    obtain ⟨k, hk, rfl, HAL⟩ := hrel
    by_cases hlt : k < n
    · obtain ⟨ad, s, rfl, _, hzk, hc⟩ := HA.out.str hlt
      have HZ := Lib.hid hzk
      clear hzk
      cases hp : (s.toList == v.toList)
      · have HP : Hid (eqS s v = false) := Lib.hid hp
        go_wp2
        go_round
        case rel => exact ⟨k + 1, by omega, by go_num, Lib.hid (by rw [take_snoc' HZ.out]; simp [HAL.out, HP.out])⟩
        case measure => simp [intOf]; omega
      · have HP : Hid (eqS s v = true) := Lib.hid hp
        go_wp2
        go_ret
        exact ⟨ret_bool (HV.out ⟨k, s, HZ.out, HP.out⟩).symm, rfl⟩
    · obtain rfl : k = n := by omega
      go_wp2
      go_ret
      refine ⟨ret_bool ?_, rfl⟩
      have h := HAL.out
      rw [List.take_of_length_le (by have := HL.out; omega)] at h
      exact (HW.out h).symm
theorem ownInt {w : World} {lo hi g n c k : Nat} {zs : List Int} (h : Own w lo hi 2 1 (.slice (some ⟨g, 0, none⟩) n c) n (ints zs)) (hk : k < n) :
    ∃ z, zs[k]? = some z ∧ w.cell? ⟨g, k, none⟩ = some (.int .i64 z) := by
  have hl : zs.length = n := by have := h.reads.len; exact this
  have hz : zs[k]? = some (zs[k]'(by omega)) := List.getElem?_eq_getElem _
  refine ⟨_, hz, ?_⟩
  rw [h.1.cellAt k (by omega)]
  simp [ints, hz]
set_option maxHeartbeats 1000000 in
theorem b10Rises_c (A : Option Addr) (n c lo hi N : Nat) (zs : List Int) (w : World) (ha : Own w lo hi 2 1 (.slice A n c) n (ints zs)) (hn : n ≤ 1048576) (hN : N ≤ 1048576) (hs : zs.Pairwise (· < ·)) (hb : ∀ z ∈ zs, 0 ≤ z ∧ z < N) :
    Calls Tryz.prog 8 #[.slice A n c, .int .i64 N] w fun e w' => e = .returned (.bool true) ∧ Below w.heap.size w w' := by
  have HS : Hid (∀ (k : Nat) (x y : Int), zs[k]? = some x → zs[k + 1]? = some y → x < y) := Lib.hid (fun k x y hx hy => by
    obtain ⟨h1, h2⟩ := List.getElem?_eq_some_iff.1 hx
    obtain ⟨h3, h4⟩ := List.getElem?_eq_some_iff.1 hy
    have := List.pairwise_iff_getElem.1 hs k (k + 1) h1 h3 (by omega)
    omega)
  have HB : Hid (∀ (k : Nat) (x : Int), zs[k]? = some x → 0 ≤ x ∧ x < N) := Lib.hid (fun k x hx => hb x (List.mem_of_getElem? hx))
  have HA := Lib.hid ha
  clear ha hs hb
  go_enter Tryz.func8, Tryz.ntmps8
  go_wp2
  go_loopw [5] (fun iv wr => ∃ k q : Nat, k ≤ n ∧ iv = .int .i64 k ∧ wr = w.drewN q) (fun iv _ => n - (intOf iv).toNat)
  case atStart => exact ⟨0, 0, Nat.zero_le _, rfl, rfl⟩
  case round =>
    obtain ⟨k, q, hk, rfl, rfl⟩ := hrel
    by_cases hlt : k < n
    · obtain ⟨g, rfl, _, _, _⟩ := HA.out.at_ (show 0 < n by omega)
      obtain ⟨z, hz, hc⟩ := ownInt HA.out hlt
      obtain ⟨hz0, hz1⟩ := HB.out k z hz
      have hkn : (k : Int) < (n : Int) := by omega
      have hd0 : decide (z < 0) = false := by simp; omega
      have hd1 : decide ((N : Int) ≤ z) = false := by simp; omega
      by_cases h0 : k = 0
      · subst h0
        clear hz
        go_wp2
        go_quiet (fail)
        go_wp2
        go_roundw
        case rel => exact ⟨1, _, by omega, by go_num, rfl⟩
        case measure => simp [intOf] <;> omega
      · obtain ⟨j, hj⟩ : ∃ j, k = j + 1 := ⟨k - 1, by omega⟩
        obtain ⟨y, hy, hcy⟩ := ownInt HA.out (show j < n by omega)
        have hlt2 := HS.out j y z hy (by rw [← hj]; exact hz)
        have hd2 : decide (z ≤ y) = false := by simp; omega
        have hd3 : decide (0 < k) = true := by simp; omega
        have hkm : IntKind.i64.wrap ((k : Int) - 1) = (j : Int) := by rw [show ((k : Int) - 1) = (j : Int) by omega]; exact IntWalk.i64_in _ (by omega)
        have hk1 : (0 : Int) ≤ (k : Int) := by omega
        have hkk : (j : Int) < (n : Int) := by omega
        have HJ := Lib.hid hj
        clear hz hy hlt2 hj h0
        go_wp2
        go_quiet (fail)
        go_wp2
        go_roundw
        case rel => exact ⟨k + 1, _, by omega, by go_num, rfl⟩
        case measure => simp [intOf] <;> omega
    · obtain rfl : k = n := by omega
      go_wp2
      go_ret
      exact ⟨rfl, below_drewN (Below.refl _ _) q⟩
theorem iSame_e (A : Option Addr) (n c BA : Nat) (rs : List Rg) (D : Option Addr) (m d BD : Nat) (ss : List Rg) (w : World) (ha : Regs w BA A n rs) (hA : BA ≤ w.heap.size) (hx : ∀ x ∈ rs, x.n ≤ 1048576) (hn : n ≤ 1048576)
    (hd : Regs w BD D m ss) (hD : BD ≤ w.heap.size) (hy : ∀ x ∈ ss, x.n ≤ 1048576) (hm : m ≤ 1048576) (he : rs.map Rg.dat = ss.map Rg.dat) :
    Calls Tryz.prog 13 #[.slice A n c, .slice D m d] w fun e w' => e = .returned (.bool true) ∧ Below w.heap.size w w' := by
  have h := iSameRegions_c A D n m c d BA BD rs ss w ha hd hA hD hx hy hn hm
  rw [sameV, he, same_refl] at h
  exact h
theorem sSame_e (A : Option Addr) (n c BA : Nat) (rs : List Rg) (D : Option Addr) (m d BD : Nat) (ss : List Rg) (w : World) (ha : Regs w BA A n rs) (hA : BA ≤ w.heap.size) (hx : ∀ x ∈ rs, x.n ≤ 1048576) (hn : n ≤ 1048576)
    (hd : Regs w BD D m ss) (hD : BD ≤ w.heap.size) (hy : ∀ x ∈ ss, x.n ≤ 1048576) (hm : m ≤ 1048576) (he : rs.map Rg.dat = ss.map Rg.dat) :
    Calls Tryz.prog 17 #[.slice A n c, .slice D m d] w fun e w' => e = .returned (.bool true) ∧ Below w.heap.size w w' := by
  have h := sSameRegions_c A D n m c d BA BD rs ss w ha hd hx hy hn hm
  rw [sameV, he, same_refl] at h
  exact h
end Go.Proofs.YteklfeeamjgplaaGreatDoor
