/- Counting levels; the worst one; the longest series of high ones: the program's functions and the reference's compute the same. -/
import Derived.Test.YtbienjiinokhoaaLev
namespace Go.Proofs.Ytbienjiinokhoaa
open Go.ChangeShapes Go.WideShapes Go.ChangeAt Go.RowKit
set_option linter.unusedVariables false

theorem allIn_get {low high : Int} {zs : List Int} {k : Nat} {z : Int} (h : allInB low high zs = true) (hz : zs[k]? = some z) : low ≤ z ∧ z ≤ high := by
  have := List.all_eq_true.1 h z (List.mem_of_getElem? hz)
  simpa [inB] using this
theorem levelsCode_zero {zs : List Int} (h : levelsCodeV zs = 0) : allInB 1 5 zs = true ∧ zs.length ≤ 64 := by
  unfold levelsCodeV at h
  cases hb : allInB 1 5 zs
  · simp [hb] at h
  · refine ⟨rfl, ?_⟩
    rw [hb] at h
    by_cases h64 : 64 < zs.length
    · simp [h64] at h
    · omega

/-! ### counting -/
def cnt (i : Int) (zs : List Int) : Nat := (zs.filter (· = i)).length
theorem cnt_snoc (i z : Int) (l : List Int) : cnt i (l ++ [z]) = cnt i l + if z = i then 1 else 0 := by
  unfold cnt
  rw [List.filter_append, List.length_append]
  by_cases h : z = i <;> simp [h]
theorem cnt_le (i : Int) (l : List Int) : cnt i l ≤ l.length := List.length_filter_le _ _
def cnts (zs : List Int) : List Int := [(cnt 1 zs : Int), cnt 2 zs, cnt 3 zs, cnt 4 zs, cnt 5 zs]
def cntsRow (zs : List Int) : Array Value := #[.int .i64 (cnt 1 zs : Int), .int .i64 (cnt 2 zs : Int), .int .i64 (cnt 3 zs : Int), .int .i64 (cnt 4 zs : Int), .int .i64 (cnt 5 zs : Int)]
theorem cntsRow_list (zs : List Int) : (cntsRow zs).toList = ints (cnts zs) := rfl
theorem cntsRow_set {zs : List Int} {k j : Nat} {z : Int} (hz : zs[k]? = some z) (h1 : z = (j : Int) + 1) (hj : j < 5) :
    (cntsRow (zs.take k)).setIfInBounds j (.int .i64 ((cnt z (zs.take k) : Int) + 1)) = cntsRow (zs.take (k + 1)) := by
  subst h1
  rw [take_snoc' hz]
  have h5 : j = 0 ∨ j = 1 ∨ j = 2 ∨ j = 3 ∨ j = 4 := by omega
  rcases h5 with rfl | rfl | rfl | rfl | rfl <;> simp [cntsRow, cnt_snoc]

/-- what CountLevels returns, told of its result and the world behind it -/
def CountPost (zs : List Int) (w : World) (e : Ending) (w' : World) : Prop :=
  ∃ A n c, e = .returned (.tuple #[.slice A n c, .int .i64 (levelsCodeV zs)]) ∧ n ≤ 5 ∧
    Own w' w.heap.size w'.heap.size 2 1 (.slice A n c) n (ints (if levelsCodeV zs = 0 then cnts zs else [])) ∧ Below w.heap.size w w'
theorem CountPost.bad {zs : List Int} {w w' : World} (hz : levelsCodeV zs ≠ 0) (hb : Below w.heap.size w w') : CountPost zs w (.returned (.tuple #[.slice none 0 0, .int .i64 (levelsCodeV zs)])) w' :=
  ⟨none, 0, 0, rfl, by omega, by rw [if_neg hz]; exact Own.nil, hb⟩
theorem CountPost.good {zs : List Int} {w w' : World} {H : Nat} (hz : levelsCodeV zs = 0) (hH : w.heap.size ≤ H) (hk : Blk w' H 2 (cntsRow zs)) (hb : Below w.heap.size w w') :
    CountPost zs w (.returned (.tuple #[.slice (some ⟨H, 0, none⟩) 5 5, .int .i64 0])) w' :=
  ⟨some ⟨H, 0, none⟩, 5, 5, by rw [hz], by omega, by
    rw [if_pos hz, ← cntsRow_list]
    exact Own.of_blk hk rfl hH hk.lt (by simp [maxLen]), hb⟩
theorem make5 : ∀ w : World, (Instr.makeSlice 22 (.int .i64 5) (.int .i64 5)).run Try.prog w = .ok (.slice (some ⟨w.heap.size, 0, none⟩) 5 5) (w.alloc (.cells #[.int .i64 0, .int .i64 0, .int .i64 0, .int .i64 0, .int .i64 0] 2)) := fun _ => by kernel_rfl

set_option maxHeartbeats 1000000 in
theorem sCountLevels_c (A : Option Addr) (n c BA : Nat) (zs : List Int) (w : World) (ha : Reads w BA 1 A n (ints zs)) (hB : BA ≤ w.heap.size) (hn : n ≤ 1152921504606846976) :
    Calls Try.prog 8 #[.slice A n c] w (CountPost zs w) := by
  have hc := l17Levels_c A n c BA zs w ha hn
  by_cases hz : levelsCodeV zs = 0
  · have HL := Lib.hid ha.len
    have HZ := Lib.hid hz
    have HA := Lib.hid (levelsCode_zero hz).1
    have hmk := make5
    rw [hz] at hc
    clear hz
    go_enter Try.func8, Try.ntmps8
    go_wp2_with fail
    refine hc.mono ?_
    rintro e w1 ⟨rfl, hb1⟩
    clear hc
    have HB1 := Lib.hid hb1
    have ha1 := ha.below (hb1.mono hB)
    have hs1 := hb1.size
    clear ha hb1
    go_wp2
    clear hmk
    go_loopw [6] (fun i wr => ∃ k : Nat, k ≤ n ∧ i = .int .i64 k ∧ Hid (Blk wr w1.heap.size 2 (cntsRow (zs.take k))) ∧ Hid (Below w1.heap.size w1 wr)) (fun i _ => n - (intOf i).toNat)
    case atStart => exact ⟨0, Nat.zero_le _, rfl, Lib.hid (Blk.new _ _ _), Lib.hid ((Below.refl _ _).alloc (Nat.le_refl _) _)⟩
    case round =>
      obtain ⟨k, hk, rfl, HK, HW⟩ := hrel
      by_cases hlt : k < n
      · obtain ⟨ad, z, rfl, hbl, hzk, hc0⟩ := ha1.int hlt
        have hc : wr.cell? (ad.add k) = some (.int .i64 z) := (HW.out.cell (p := ad.add k) (by rw [block_of_add]; omega)).trans hc0
        have hzb := allIn_get HA.out hzk
        have HZK := Lib.hid hzk
        have hl := List.length_take_le k zs
        have hcl := fun i => cnt_le i (zs.take k)
        clear hzk ha1 hc0
        have h5 : z = (0 : Nat) + 1 ∨ z = (1 : Nat) + 1 ∨ z = (2 : Nat) + 1 ∨ z = (3 : Nat) + 1 ∨ z = (4 : Nat) + 1 := by omega
        rcases h5 with h5 | h5 | h5 | h5 | h5
        all_goals
          have HS := Lib.hid (cntsRow_set HZK.out h5 (by omega))
          obtain ⟨zc, hzc⟩ : ∃ zc, zc = cnt z (zs.take k) := ⟨_, rfl⟩
          have hzc2 := hcl z
          rw [← hzc] at hzc2 HS
          subst h5
        · have h0 : wr.cell? ⟨w1.heap.size, 0, none⟩ = some (.int .i64 zc) := (HK.out.cell 0).trans (by rw [hzc]; rfl)
          have h0' := HK.out.frozen 0
          clear hcl hzc
          go_wp2
          go_roundw
          case rel => exact ⟨k + 1, by omega, by go_num, Lib.hid (by rw [← HS.out]; exact HK.out.set_ 0 _), Lib.hid (HW.out.setCell (Nat.le_refl _) _)⟩
          case measure => simp [intOf]; omega
        · have h0 : wr.cell? ⟨w1.heap.size, 1, none⟩ = some (.int .i64 zc) := (HK.out.cell 1).trans (by rw [hzc]; rfl)
          have h0' := HK.out.frozen 1
          clear hcl hzc
          go_wp2
          go_roundw
          case rel => exact ⟨k + 1, by omega, by go_num, Lib.hid (by rw [← HS.out]; exact HK.out.set_ 1 _), Lib.hid (HW.out.setCell (Nat.le_refl _) _)⟩
          case measure => simp [intOf]; omega
        · have h0 : wr.cell? ⟨w1.heap.size, 2, none⟩ = some (.int .i64 zc) := (HK.out.cell 2).trans (by rw [hzc]; rfl)
          have h0' := HK.out.frozen 2
          clear hcl hzc
          go_wp2
          go_roundw
          case rel => exact ⟨k + 1, by omega, by go_num, Lib.hid (by rw [← HS.out]; exact HK.out.set_ 2 _), Lib.hid (HW.out.setCell (Nat.le_refl _) _)⟩
          case measure => simp [intOf]; omega
        · have h0 : wr.cell? ⟨w1.heap.size, 3, none⟩ = some (.int .i64 zc) := (HK.out.cell 3).trans (by rw [hzc]; rfl)
          have h0' := HK.out.frozen 3
          clear hcl hzc
          go_wp2
          go_roundw
          case rel => exact ⟨k + 1, by omega, by go_num, Lib.hid (by rw [← HS.out]; exact HK.out.set_ 3 _), Lib.hid (HW.out.setCell (Nat.le_refl _) _)⟩
          case measure => simp [intOf]; omega
        · have h0 : wr.cell? ⟨w1.heap.size, 4, none⟩ = some (.int .i64 zc) := (HK.out.cell 4).trans (by rw [hzc]; rfl)
          have h0' := HK.out.frozen 4
          clear hcl hzc
          go_wp2
          go_roundw
          case rel => exact ⟨k + 1, by omega, by go_num, Lib.hid (by rw [← HS.out]; exact HK.out.set_ 4 _), Lib.hid (HW.out.setCell (Nat.le_refl _) _)⟩
          case measure => simp [intOf]; omega
      · obtain rfl : k = n := by omega
        clear ha1
        go_wp2
        go_ret2
        refine CountPost.good HZ.out hs1 ?_ (HB1.out.trans (HW.out.mono hs1))
        have h := HK.out
        rwa [List.take_of_length_le (by have := HL.out; omega)] at h
  · obtain ⟨m, hm⟩ : ∃ m, m = levelsCodeV zs := ⟨_, rfl⟩
    have hne : (m != 0) = true := by rw [hm]; simpa using hz
    have HM := Lib.hid hm
    have HN := Lib.hid hz
    rw [← hm] at hc
    clear hm hz ha
    go_enter Try.func8, Try.ntmps8
    go_wp2_with fail
    refine hc.mono ?_
    rintro e w1 ⟨rfl, hb1⟩
    clear hc
    go_wp2
    go_ret2
    have hm := HM.out
    subst hm
    exact CountPost.bad HN.out hb1
set_option maxHeartbeats 1000000 in
theorem iCountLevels_c (A : Option Addr) (n c BA : Nat) (zs : List Int) (w : World) (ha : Reads w BA 1 A n (ints zs)) (hB : BA ≤ w.heap.size) (hn : n ≤ 1152921504606846976) :
    Calls Try.prog 10 #[.slice A n c] w (CountPost zs w) := by
  have hc := levelsCode_c A n c BA zs w ha hB hn
  by_cases hz : levelsCodeV zs = 0
  · have HL := Lib.hid ha.len
    have HZ := Lib.hid hz
    have HA := Lib.hid (levelsCode_zero hz).1
    have hmk := make5
    rw [hz] at hc
    clear hz
    go_enter Try.func10, Try.ntmps10
    go_wp2_with fail
    refine hc.mono ?_
    rintro e w1 ⟨rfl, hb1⟩
    clear hc
    have HB1 := Lib.hid hb1
    have ha1 := ha.below (hb1.mono hB)
    have hs1 := hb1.size
    clear ha hb1
    go_wp2
    clear hmk
    go_loopw [16] (fun i wr => ∃ k : Nat, k ≤ n ∧ i = .int .i64 k ∧ Hid (Blk wr w1.heap.size 2 (cntsRow (zs.take k))) ∧ Hid (Below w1.heap.size w1 wr)) (fun i _ => n - (intOf i).toNat)
    case atStart => exact ⟨0, Nat.zero_le _, rfl, Lib.hid (Blk.new _ _ _), Lib.hid ((Below.refl _ _).alloc (Nat.le_refl _) _)⟩
    case round =>
      obtain ⟨k, hk, rfl, HK, HW⟩ := hrel
      by_cases hlt : k < n
      · obtain ⟨ad, z, rfl, hbl, hzk, hc0⟩ := ha1.int hlt
        have hc : wr.cell? (ad.add k) = some (.int .i64 z) := (HW.out.cell (p := ad.add k) (by rw [block_of_add]; omega)).trans hc0
        have hzb := allIn_get HA.out hzk
        have HZK := Lib.hid hzk
        have hl := List.length_take_le k zs
        have hcl := fun i => cnt_le i (zs.take k)
        clear hzk ha1 hc0
        have h5 : z = (0 : Nat) + 1 ∨ z = (1 : Nat) + 1 ∨ z = (2 : Nat) + 1 ∨ z = (3 : Nat) + 1 ∨ z = (4 : Nat) + 1 := by omega
        rcases h5 with h5 | h5 | h5 | h5 | h5
        all_goals
          have HS := Lib.hid (cntsRow_set HZK.out h5 (by omega))
          obtain ⟨zc, hzc⟩ : ∃ zc, zc = cnt z (zs.take k) := ⟨_, rfl⟩
          have hzc2 := hcl z
          rw [← hzc] at hzc2 HS
          subst h5
        · have h0 : wr.cell? ⟨w1.heap.size, 0, none⟩ = some (.int .i64 zc) := (HK.out.cell 0).trans (by rw [hzc]; rfl)
          have h0' := HK.out.frozen 0
          clear hcl hzc
          go_wp2
          go_roundw
          case rel => exact ⟨k + 1, by omega, by go_num, Lib.hid (by rw [← HS.out]; exact HK.out.set_ 0 _), Lib.hid (HW.out.setCell (Nat.le_refl _) _)⟩
          case measure => simp [intOf]; omega
        · have h0 : wr.cell? ⟨w1.heap.size, 1, none⟩ = some (.int .i64 zc) := (HK.out.cell 1).trans (by rw [hzc]; rfl)
          have h0' := HK.out.frozen 1
          clear hcl hzc
          go_wp2
          go_roundw
          case rel => exact ⟨k + 1, by omega, by go_num, Lib.hid (by rw [← HS.out]; exact HK.out.set_ 1 _), Lib.hid (HW.out.setCell (Nat.le_refl _) _)⟩
          case measure => simp [intOf]; omega
        · have h0 : wr.cell? ⟨w1.heap.size, 2, none⟩ = some (.int .i64 zc) := (HK.out.cell 2).trans (by rw [hzc]; rfl)
          have h0' := HK.out.frozen 2
          clear hcl hzc
          go_wp2
          go_roundw
          case rel => exact ⟨k + 1, by omega, by go_num, Lib.hid (by rw [← HS.out]; exact HK.out.set_ 2 _), Lib.hid (HW.out.setCell (Nat.le_refl _) _)⟩
          case measure => simp [intOf]; omega
        · have h0 : wr.cell? ⟨w1.heap.size, 3, none⟩ = some (.int .i64 zc) := (HK.out.cell 3).trans (by rw [hzc]; rfl)
          have h0' := HK.out.frozen 3
          clear hcl hzc
          go_wp2
          go_roundw
          case rel => exact ⟨k + 1, by omega, by go_num, Lib.hid (by rw [← HS.out]; exact HK.out.set_ 3 _), Lib.hid (HW.out.setCell (Nat.le_refl _) _)⟩
          case measure => simp [intOf]; omega
        · have h0 : wr.cell? ⟨w1.heap.size, 4, none⟩ = some (.int .i64 zc) := (HK.out.cell 4).trans (by rw [hzc]; rfl)
          have h0' := HK.out.frozen 4
          clear hcl hzc
          go_wp2
          go_roundw
          case rel => exact ⟨k + 1, by omega, by go_num, Lib.hid (by rw [← HS.out]; exact HK.out.set_ 4 _), Lib.hid (HW.out.setCell (Nat.le_refl _) _)⟩
          case measure => simp [intOf]; omega
      · obtain rfl : k = n := by omega
        clear ha1
        go_wp2
        go_ret2
        refine CountPost.good HZ.out hs1 ?_ (HB1.out.trans (HW.out.mono hs1))
        have h := HK.out
        rwa [List.take_of_length_le (by have := HL.out; omega)] at h
  · obtain ⟨m, hm⟩ : ∃ m, m = levelsCodeV zs := ⟨_, rfl⟩
    have hne : (m != 0) = true := by rw [hm]; simpa using hz
    have HM := Lib.hid hm
    have HN := Lib.hid hz
    rw [← hm] at hc
    clear hm hz ha
    go_enter Try.func10, Try.ntmps10
    go_wp2_with fail
    refine hc.mono ?_
    rintro e w1 ⟨rfl, hb1⟩
    clear hc
    go_wp2
    go_ret2
    have hm := HM.out
    subst hm
    exact CountPost.bad HN.out hb1
end Go.Proofs.Ytbienjiinokhoaa
