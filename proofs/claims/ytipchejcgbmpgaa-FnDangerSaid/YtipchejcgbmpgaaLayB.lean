/- Layers: load, strength, stress, the bounds of the index. -/
import Derived.Test.YtipchejcgbmpgaaLayA
import Derived.IntWalk
namespace Go.Proofs.Ytipchejcgbmpgaa
open Go.ChangeShapes Go.WideShapes Go.ChangeAt Go.RowKit
set_option linter.unusedVariables false

def sumI {α : Type} (f : α → Int) (l : List α) : Int := (l.map f).sum
theorem sumI_snoc {α : Type} (f : α → Int) (l : List α) (x : α) : sumI f (l ++ [x]) = sumI f l + f x := by simp [sumI]
theorem sumI_take {α : Type} (f : α → Int) {l : List α} {k : Nat} {x : α} (h : l[k]? = some x) : sumI f (l.take (k + 1)) = sumI f (l.take k) + f x := by
  rw [List.take_add_one, h]; exact sumI_snoc _ _ _
theorem sumI_bd {α : Type} (f : α → Int) (M : Int) (hM : 0 ≤ M) : ∀ l : List α, (∀ x ∈ l, 0 ≤ f x ∧ f x ≤ M) → 0 ≤ sumI f l ∧ sumI f l ≤ M * l.length
  | [], _ => by simp [sumI]
  | x :: l, h => by
    have h1 := sumI_bd f M hM l (fun y hy => h y (List.mem_cons_of_mem _ hy))
    have h2 := h x (List.mem_cons_self ..)
    have e : M * ((x :: l).length : Nat) = M * (l.length : Nat) + M := by simp [Int.mul_add]
    have e2 : sumI f (x :: l) = f x + sumI f l := by simp [sumI]
    omega
theorem sumI_add {α : Type} (f g : α → Int) (l : List α) : sumI (fun x => f x + g x) l = sumI f l + sumI g l := by
  induction l with
  | nil => rfl
  | cons x l ih => simp only [sumI, List.map_cons, List.sum_cons] at ih ⊢; omega

def loadV (ls : List Lay) (k : Nat) : Int := sumI (fun s => s.ice + s.water) (ls.drop (k + 1))
theorem load_bd {ls : List Lay} (h : proB ls = true) (f : Lay → Int) (M : Int) (hM : 0 ≤ M) (hf : ∀ s : Lay, s.ok = true → 0 ≤ f s ∧ f s ≤ M) (j k : Nat) :
    0 ≤ sumI f ((ls.drop j).take k) ∧ sumI f ((ls.drop j).take k) ≤ M * 16 := by
  have hl := proB_len h
  have hb := sumI_bd f M hM ((ls.drop j).take k) (fun x hx => hf x (by
    have hm := List.mem_of_mem_drop (List.mem_of_mem_take hx)
    simp only [proB, Bool.and_eq_true] at h
    exact List.all_eq_true.1 h.1 x hm))
  have hlen : ((ls.drop j).take k).length ≤ 16 := by rw [List.length_take, List.length_drop]; omega
  exact ⟨hb.1, Int.le_trans hb.2 (Int.mul_le_mul_of_nonneg_left (by omega) hM)⟩
theorem loadV_bd {ls : List Lay} (h : proB ls = true) (k : Nat) : 0 ≤ loadV ls k ∧ loadV ls k ≤ 32000000 := by
  have := load_bd h (fun s => s.ice + s.water) 2000000 (by omega) (fun s hs => by have := Lay.ok_bd hs; omega) (k + 1) ls.length
  rw [List.take_of_length_le (by rw [List.length_drop]; omega)] at this
  exact this

set_option maxHeartbeats 1000000 in
theorem loadAbove_c (A : Option Addr) (n c BA k : Nat) (ls : List Lay) (w : World) (ha : Reads w BA 7 A n (lays ls)) (hB : BA ≤ w.heap.size) (hn : n ≤ 1152921504606846976) (hnc : n ≤ c) (hp : proB ls = true) (hk : k < n) :
    Calls Try.prog 89 #[.slice A n c, .int .i64 k] w fun e w' => e = .returned (.int .i64 (loadV ls k)) ∧ Below w.heap.size w w' := by
  obtain ⟨m, rfl⟩ : ∃ m, n = k + 1 + m := ⟨n - (k + 1), by omega⟩
  by_cases hck : c = k + 1
  · obtain rfl : m = 0 := by omega
    have HE : Hid (loadV ls k = 0) := Lib.hid (by rw [loadV, List.drop_of_length_le (by rw [ha.layLen]; omega)]; rfl)
    clear ha hnc hp
    subst hck
    go_enter Try.func89, Try.ntmps89
    go_wp2
    go_rounds 1
    go_ret
    exact ⟨ret_int HE.out.symm, Below.refl _ _⟩
  have hcut := ha.layCut (k := k + 1) (cap := c) (by omega) hnc
  rw [Nat.add_sub_cancel_left, if_neg hck] at hcut
  have HP := Lib.hid hp
  have HC := Lib.hid hcut
  have HL := Lib.hid hcut.layLen
  clear ha hcut hp
  go_enter Try.func89, Try.ntmps89
  go_wp2
  go_loopw [5, 13] (fun t i wr => ∃ j : Nat, j ≤ m ∧ i = .int .i64 j ∧ t = .int .i64 (sumI (fun s => s.ice + s.water) ((ls.drop (k + 1)).take j)) ∧ Hid (Below w.heap.size w wr)) (fun _ i _ => m - (intOf i).toNat)
  case atStart => exact ⟨0, Nat.zero_le _, rfl, rfl, Lib.hid (Below.refl _ _)⟩
  case round =>
    obtain ⟨j, hj, rfl, rfl, HT⟩ := hrel
    by_cases hlt : j < m
    · obtain ⟨ad, s, hA, hbl, hs, hc⟩ := (HC.out.below (HT.out.mono hB)).lay hlt
      have HS := Lib.hid hs
      have hok : s.ok = true := proB_get HP.out (k := k + 1 + j) (by rw [← hs, List.getElem?_drop])
      obtain ⟨_, b1, b2, _⟩ := Lay.ok_bd hok
      obtain ⟨t1, t2⟩ := load_bd HP.out (fun s => s.ice + s.water) 2000000 (by omega) (fun s hs => by have := Lay.ok_bd hs; omega) (k + 1) j
      have HE := Lib.hid (sumI_take (fun s : Lay => s.ice + s.water) hs)
      unfold LayAt at hc
      obtain ⟨c0, c1, c2, c3, c4, c5, c6⟩ := hc
      clear hs hok
      go_wp2
      go_roundw
      case rel => exact ⟨j + 1, by omega, by go_num, by rw [HE.out], Lib.hid (HT.out.alloc (by have := HT.out.size; omega) _)⟩
      case measure => simp [intOf]; omega
    · obtain rfl : j = m := by omega
      have HE : Hid (loadV ls k = sumI (fun s : Lay => s.ice + s.water) ((ls.drop (k + 1)).take j)) := Lib.hid (by rw [loadV, List.take_of_length_le (by have := HL.out; omega)])
      go_wp2
      go_ret
      exact ⟨ret_int HE.out.symm, HT.out⟩
set_option maxHeartbeats 1000000 in
theorem l03Mass_c (A : Option Addr) (n c BA k : Nat) (ls : List Lay) (w : World) (ha : Reads w BA 7 A n (lays (ls.drop k))) (hn : n ≤ 1152921504606846976) (hp : proB ls = true) :
    Calls Try.prog 96 #[.slice A n c] w fun e w' => e = .returned (.tuple #[.int .i64 (sumI Lay.ice (ls.drop k)), .int .i64 (sumI Lay.water (ls.drop k))]) ∧ w = w' := by
  have HP := Lib.hid hp
  have HL := Lib.hid ha.layLen
  have HC := Lib.hid ha
  clear ha hp
  go_enter Try.func96, Try.ntmps96
  go_wp2
  go_loop [4, 5, 6] (fun t u i => ∃ j : Nat, j ≤ n ∧ i = .int .i64 j ∧ t = .int .i64 (sumI Lay.ice ((ls.drop k).take j)) ∧ u = .int .i64 (sumI Lay.water ((ls.drop k).take j))) (fun _ _ i => n - (intOf i).toNat)
  case atStart => exact ⟨0, Nat.zero_le _, rfl, rfl, rfl⟩
  case round =>
    obtain ⟨j, hj, rfl, rfl, rfl⟩ := hrel
    by_cases hlt : j < n
    · obtain ⟨ad, s, rfl, hbl, hs, hc⟩ := HC.out.lay hlt
      have hok : s.ok = true := proB_get HP.out (k := k + j) (by rw [← hs, List.getElem?_drop])
      obtain ⟨_, b1, b2, _⟩ := Lay.ok_bd hok
      obtain ⟨t1, t2⟩ := load_bd HP.out Lay.ice 1000000 (by omega) (fun s hs => by have := Lay.ok_bd hs; omega) k j
      obtain ⟨u1, u2⟩ := load_bd HP.out Lay.water 1000000 (by omega) (fun s hs => by have := Lay.ok_bd hs; omega) k j
      have HE := Lib.hid (sumI_take Lay.ice hs)
      have HF := Lib.hid (sumI_take Lay.water hs)
      unfold LayAt at hc
      obtain ⟨c0, c1, c2, c3, c4, c5, c6⟩ := hc
      clear hs hok
      go_wp2
      go_round
      case rel => exact ⟨j + 1, by omega, by go_num, by rw [HE.out], by rw [HF.out]⟩
      case measure => simp [intOf]; omega
    · obtain rfl : j = n := by omega
      have HE : Hid ((ls.drop k).take j = ls.drop k) := Lib.hid (List.take_of_length_le (by have := HL.out; omega))
      go_wp2
      go_ret2
      exact ⟨ret2 (by rw [HE.out]) (by rw [HE.out]), rfl⟩
theorem l03Load_c (A : Option Addr) (n c BA k : Nat) (ls : List Lay) (w : World) (ha : Reads w BA 7 A n (lays ls)) (hn : n ≤ 1152921504606846976) (hnc : n ≤ c) (hp : proB ls = true) (hk : k < n) :
    Calls Try.prog 81 #[.slice A n c, .int .i64 k] w fun e w' => e = .returned (.int .i64 (loadV ls k)) ∧ w = w' := by
  have hcut := ha.layCut (k := k + 1) (cap := c) (by omega) hnc
  have hm := fun c' => l03Mass_c _ _ c' _ (k + 1) ls w hcut (by omega) hp
  have b1 := load_bd hp Lay.ice 1000000 (by omega) (fun s hs => by have := Lay.ok_bd hs; omega) (k + 1) ls.length
  have b2 := load_bd hp Lay.water 1000000 (by omega) (fun s hs => by have := Lay.ok_bd hs; omega) (k + 1) ls.length
  rw [List.take_of_length_le (by rw [List.length_drop]; omega)] at b1 b2
  have HV : Hid (loadV ls k = sumI Lay.ice (ls.drop (k + 1)) + sumI Lay.water (ls.drop (k + 1))) := Lib.hid (sumI_add _ _ _)
  have HM := Lib.hid hm
  clear ha hcut hp hm
  go_enter Try.func81, Try.ntmps81
  go_wp2_with ((with_reducible refine (HM.out _).mono ?_); rintro e w' ⟨rfl, rfl⟩)
  all_goals go_ret
  all_goals exact ⟨ret_int HV.out.symm, rfl⟩
def Lay.thick (s : Lay) : Int := rnd s.ice s.density
theorem Lay.thick_bd {s : Lay} (h : s.ok = true) : 0 ≤ s.thick ∧ s.thick ≤ 1000001 := by
  obtain ⟨_, h1, _, h2⟩ := Lay.ok_bd h
  exact ⟨rnd_nn (by omega) (by omega), by have := rnd_le (a := s.ice) (b := s.density) (by omega) (by omega); unfold Lay.thick; omega⟩
theorem thickness_c (s : Lay) (w : World) (h : s.ok = true) : Calls Try.prog 76 #[s.val] w fun e w' => e = .returned (.int .i64 s.thick) ∧ Below w.heap.size w w' := by
  obtain ⟨_, b1, _, b2⟩ := Lay.ok_bd h
  clear h
  obtain ⟨a, b, c, d, e, f, g⟩ := s
  simp only [Lay.val, Lay.thick] at b1 b2 ⊢
  go_enter Try.func76, Try.ntmps76
  go_wp2_with (go_at_call 95; refine (divRound_c _ _ _ (by omega) (by omega) (by omega) (by omega)).mono ?_; rintro e w' ⟨rfl, q, rfl⟩)
  go_ret
  exact ⟨rfl, below_drewN ((Below.refl _ _).alloc (Nat.le_refl _) _) _⟩
theorem l03Thick_c (ad : Addr) (k : Nat) (s : Lay) (w : World) (hc : LayAt w ad k s) (h : s.ok = true) : Calls Try.prog 75 #[.pointer (some (ad.add (k * 7)))] w fun e w' => e = .returned (.int .i64 s.thick) ∧ ∃ q, w' = w.drewN q := by
  obtain ⟨_, b1, _, b2⟩ := Lay.ok_bd h
  clear h
  unfold LayAt at hc
  obtain ⟨c0, c1, c2, c3, c4, c5, c6⟩ := hc
  go_enter Try.func75, Try.ntmps75
  go_wp2
  go_quiet ((go_at_call 94; exact quiet_left (l01Div_c _ _ _ (by omega) (by omega) (by omega) (by omega))))
  go_wp2
  go_ret
  exact ⟨rfl, _, rfl⟩
set_option maxHeartbeats 1000000 in
theorem heightOf_c (A : Option Addr) (n c BA k : Nat) (ls : List Lay) (w : World) (ha : Reads w BA 7 A n (lays (ls.drop k))) (hB : BA ≤ w.heap.size) (hn : n ≤ 1152921504606846976) (hp : proB ls = true) :
    Calls Try.prog 48 #[.slice A n c] w fun e w' => e = .returned (.int .i64 (sumI Lay.thick (ls.drop k))) ∧ Below w.heap.size w w' := by
  have HP := Lib.hid hp
  have HL := Lib.hid ha.layLen
  have HC := Lib.hid ha
  clear ha hp
  go_enter Try.func48, Try.ntmps48
  go_wp2
  go_loopw [3, 8] (fun t i wr => ∃ j : Nat, j ≤ n ∧ i = .int .i64 j ∧ t = .int .i64 (sumI Lay.thick ((ls.drop k).take j)) ∧ Hid (Below w.heap.size w wr)) (fun _ i _ => n - (intOf i).toNat)
  case atStart => exact ⟨0, Nat.zero_le _, rfl, rfl, Lib.hid (Below.refl _ _)⟩
  case round =>
    obtain ⟨j, hj, rfl, rfl, HT⟩ := hrel
    by_cases hlt : j < n
    · obtain ⟨ad, s, rfl, hbl, hs, hc⟩ := (HC.out.below (HT.out.mono hB)).lay hlt
      have hok : s.ok = true := proB_get HP.out (k := k + j) (by rw [← hs, List.getElem?_drop])
      have b1 := Lay.thick_bd hok
      obtain ⟨t1, t2⟩ := load_bd HP.out Lay.thick 1000001 (by omega) (fun s hs => Lay.thick_bd hs) k j
      have HE := Lib.hid (sumI_take Lay.thick hs)
      have HK := Lib.hid hok
      unfold LayAt at hc
      obtain ⟨c0, c1, c2, c3, c4, c5, c6⟩ := hc
      clear hs hok
      go_wp2_with fail
      refine (thickness_c s _ HK.out).mono ?_
      rintro e w1 ⟨rfl, hb1⟩
      have HB1 : Hid (Below w.heap.size w w1) := Lib.hid ((HT.out.alloc (by have := HT.out.size; omega) _).trans (hb1.mono (by have := HT.out.size; simp; omega)))
      clear hb1 c0 c1 c2 c3 c4 c5 c6
      go_wp2
      go_roundw
      case rel => exact ⟨j + 1, by omega, by go_num, by rw [HE.out], HB1⟩
      case measure => simp [intOf]; omega
    · obtain rfl : j = n := by omega
      have HE : Hid ((ls.drop k).take j = ls.drop k) := Lib.hid (List.take_of_length_le (by have := HL.out; omega))
      go_wp2
      go_ret
      exact ⟨ret_int (by rw [HE.out]), HT.out⟩
set_option maxHeartbeats 1000000 in
theorem l03Height_c (A : Option Addr) (n c BA k : Nat) (ls : List Lay) (w : World) (ha : Reads w BA 7 A n (lays (ls.drop k))) (hn : n ≤ 1152921504606846976) (hp : proB ls = true) :
    Calls Try.prog 47 #[.slice A n c] w fun e w' => e = .returned (.int .i64 (sumI Lay.thick (ls.drop k))) ∧ ∃ q, w' = w.drewN q := by
  have HP := Lib.hid hp
  have HL := Lib.hid ha.layLen
  have HC := Lib.hid ha
  clear ha hp
  go_enter Try.func47, Try.ntmps47
  go_wp2
  go_loopw [3, 4] (fun t i wr => ∃ j q : Nat, j ≤ n ∧ i = .int .i64 j ∧ t = .int .i64 (sumI Lay.thick ((ls.drop k).take j)) ∧ wr = w.drewN q) (fun _ i _ => n - (intOf i).toNat)
  case atStart => exact ⟨0, 0, Nat.zero_le _, rfl, rfl, rfl⟩
  case round =>
    obtain ⟨j, q, hj, rfl, rfl, rfl⟩ := hrel
    by_cases hlt : j < n
    · obtain ⟨ad, s, rfl, hbl, hs, hc⟩ := (HC.out.drewN q).lay hlt
      have hok : s.ok = true := proB_get HP.out (k := k + j) (by rw [← hs, List.getElem?_drop])
      have b1 := Lay.thick_bd hok
      obtain ⟨t1, t2⟩ := load_bd HP.out Lay.thick 1000001 (by omega) (fun s hs => Lay.thick_bd hs) k j
      have HE := Lib.hid (sumI_take Lay.thick hs)
      have HK := Lib.hid hok
      have HA := Lib.hid hc
      clear hs hok hc
      go_wp2_with fail
      refine (l03Thick_c ad j s _ HA.out HK.out).mono ?_
      rintro e w1 ⟨rfl, q1, rfl⟩
      go_wp2
      go_roundw
      case rel => exact ⟨j + 1, _, by omega, by go_num, by rw [HE.out], rfl⟩
      case measure => simp [intOf]; omega
    · obtain rfl : j = n := by omega
      have HE : Hid ((ls.drop k).take j = ls.drop k) := Lib.hid (List.take_of_length_le (by have := HL.out; omega))
      go_wp2
      go_ret
      exact ⟨ret_int (by rw [HE.out]), _, rfl⟩
end Go.Proofs.Ytipchejcgbmpgaa
