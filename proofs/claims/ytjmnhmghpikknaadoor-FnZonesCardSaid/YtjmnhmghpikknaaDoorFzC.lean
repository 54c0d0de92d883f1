/- FnZones: what the law draws; WorstZones; MayBuild. -/
import Derived.Test.YtjmnhmghpikknaaDoorFzB
namespace Go.Proofs.YtjmnhmghpikknaaDoor
open Go.ChangeShapes Go.WideShapes Go.ChangeAt Go.RowKit
set_option linter.unusedVariables false
set_option maxHeartbeats 1000000 in
theorem drawZoneOf_c (A : Option Addr) (n c : Nat) (bs : List Int) (w : World) (ha : Bytes w w.heap.size A n bs) (hn : n ≤ 1048576) :
    Calls Tryd.prog 5 #[.slice A n c] w fun e w' => ∃ p y : Int, e = .returned (.tuple #[.int .i64 p, .int .i64 y]) ∧ (-1 ≤ p ∧ p ≤ 1000001) ∧ (0 ≤ y ∧ y ≤ 301) ∧ Below w.heap.size w w' := by
  have HF := Lib.hid (l00From_c A n c bs w ha (by omega))
  clear ha
  go_enter Tryd.func5, Tryd.ntmps5
  go_wp2_with fail
  refine HF.out.mono ?_
  rintro e w1 ⟨rfl, S1, B1, hs1⟩
  have HB1 := Lib.hid B1
  have HS1 := Lib.hid S1
  have HZ1 := Lib.hid hs1
  clear S1 B1 HF hs1
  go_wp2_with fail
  refine (among_c w.heap.size w1.heap.size 0 10 [0, 1, 500, 2999, 3000, 29999, 30000, 1000000, 1000001, -1] _ (HS1.out.alloc _) (Blk.new _ _ _) (by have := HZ1.out; omega) rfl (by omega) (by omega) (by omega)).mono ?_
  rintro e w2 ⟨p, rfl, mp, S2, Y2⟩
  have HS2 := Lib.hid S2
  have HB2 := Lib.hid (((HB1.out.alloc HB1.out.size _)).trans (Y2.below (B := w.heap.size) (Nat.le_refl _) (by have := HZ1.out; simp; omega)))
  have hsz2 : w.heap.size + 1 ≤ w2.heap.size := by have := Y2.size; have h3 := HZ1.out; simp at this; omega
  have hp : -1 ≤ p ∧ p ≤ 1000001 := by simp at mp; omega
  clear S2 Y2 mp HB1 HS1
  go_wp2_with fail
  refine (among_c w.heap.size w2.heap.size 2 8 [1, 10, 30, 31, 100, 300, 301, 0] _ (HS2.out.alloc _) (Blk.new _ _ _) (by omega) rfl (by omega) (by omega) (by omega)).mono ?_
  rintro e w3 ⟨y, rfl, my, S3, Y3⟩
  have HB3 := Lib.hid (((HB2.out.alloc HB2.out.size _)).trans (Y3.below (B := w.heap.size) (Nat.le_refl _) (by have := HZ1.out; simp; omega)))
  have hy : 0 ≤ y ∧ y ≤ 301 := by simp at my; omega
  clear S3 Y3 my
  go_wp2
  go_ret2
  exact ⟨p, y, rfl, hp, hy, HB3.out⟩
def LinePost (w : World) (e : Ending) (w' : World) : Prop :=
  ∃ A n c xs, e = .returned (.slice A n c) ∧ Own w' w.heap.size w'.heap.size 2 1 (.slice A n c) n (ints xs) ∧ n ≤ 100 ∧ Below w.heap.size w w'
theorem drawZoneParts_c (A : Option Addr) (n c : Nat) (bs : List Int) (w : World) (ha : Bytes w w.heap.size A n bs) (hn : n ≤ 1048576) :
    Calls Tryd.prog 12 #[.slice A n c] w (LinePost w) := by
  have HF := Lib.hid (l00From_c A n c bs w ha (by omega))
  clear ha
  go_enter Tryd.func12, Tryd.ntmps12
  go_wp2_with fail
  refine HF.out.mono ?_
  rintro e w1 ⟨rfl, S1, B1, hs1⟩
  have HB1 := Lib.hid B1
  have HS1 := Lib.hid S1
  clear S1 B1 HF
  go_wp2_with fail
  refine (l16DrawZones_c w.heap.size 0 w1 HS1.out (by omega)).mono ?_
  rintro e w2 ⟨D, m, d, xs, rfl, O2, hm, S2, Y2⟩
  have HO2 := Lib.hid O2
  have HB2 := Lib.hid (HB1.out.trans (Y2.below (B := w.heap.size) (Nat.le_refl _) (by omega)))
  clear O2 S2 Y2
  go_wp2
  go_ret
  exact ⟨D, m, d, xs, rfl, HO2.out.widen (by omega) (Nat.le_refl _), hm, HB2.out⟩
def LinesPost (w : World) (e : Ending) (w' : World) : Prop :=
  ∃ A n c xs D m d ys, e = .returned (.tuple #[.slice A n c, .slice D m d]) ∧ Own w' w.heap.size w'.heap.size 2 1 (.slice A n c) n (ints xs) ∧ Own w' w.heap.size w'.heap.size 2 1 (.slice D m d) m (ints ys) ∧ n ≤ 100 ∧ m ≤ 100 ∧ Below w.heap.size w w'
set_option maxHeartbeats 2000000 in
theorem drawWorstZones_c (A : Option Addr) (n c : Nat) (bs : List Int) (w : World) (ha : Bytes w w.heap.size A n bs) (hn : n ≤ 1048576) :
    Calls Tryd.prog 7 #[.slice A n c] w (LinesPost w) := by
  have HF := Lib.hid (l00From_c A n c bs w ha (by omega))
  clear ha
  go_enter Tryd.func7, Tryd.ntmps7
  go_wp2_with fail
  refine HF.out.mono ?_
  rintro e w1 ⟨rfl, S1, B1, hs1⟩
  have HB1 := Lib.hid B1
  have HS1 := Lib.hid S1
  clear S1 B1 HF
  go_wp2_with fail
  refine (l16DrawZones_c w.heap.size 0 w1 HS1.out (by omega)).mono ?_
  rintro e w2 ⟨X, m, d, xs, rfl, O2, hm, S2, Y2⟩
  have HO2 := Lib.hid O2
  have HS2 := Lib.hid S2
  have HB2 := Lib.hid (HB1.out.trans (Y2.below (B := w.heap.size) (Nat.le_refl _) (by omega)))
  have hs2 := Y2.size
  clear O2 S2 Y2 HS1 HB1
  go_wp2_with fail
  refine (one_c w.heap.size 50 4 w2 HS2.out (by omega) (by omega)).mono ?_
  rintro e w3 ⟨b, rfl, S3, Y3⟩
  have HO3 := Lib.hid (HO2.out.only_lt Y3 (by omega))
  have HS3 := Lib.hid S3
  have HB3 := Lib.hid (HB2.out.trans (Y3.below (B := w.heap.size) (Nat.le_refl _) (by omega)))
  have hs3 := Y3.size
  clear S3 Y3 HO2 HS2 HB2
  cases b
  · have D1 : Hid (DZ w3 (w3.alloc (.cells #[] 2)) w.heap.size 52 (.slice (some ⟨w3.heap.size, 0, none⟩) 0 0) 0 []) := Lib.hid ⟨World.ownsRow_lit (w := w3) (base := w3.heap.size) (e := 2) (size := 1) #[] 0 (Nat.le_refl _) (by simp [maxLen]) (by simp), HS3.out.alloc _, (Only.refl _ _ w3).alloc' _⟩
    clear HS3
    go_wp2
    go_loopw [6, 7] (fun ov kv wr => ∃ (k : Nat) (ys : List Int), k ≤ m ∧ kv = .int .i64 k ∧ Hid (DZ w3 wr w.heap.size (52 + 2 * k) ov k ys)) (fun _ kv _ => m - (intOf kv).toNat)
    case atStart => exact ⟨0, [], Nat.zero_le _, rfl, D1⟩
    case round =>
      clear D1
      obtain ⟨k, ys, hk, rfl, HD⟩ := hrel
      have hws := HD.out.only.size
      by_cases hlt : k < m
      · have hkm : (k : Int) < (m : Int) := by omega
        go_wp2_with fail
        refine (pick_c w.heap.size _ 4 wr HD.out.src (by omega) (by omega)).mono ?_
        rintro e w4 ⟨z, rfl, hz0, hz1, S4, Y4⟩
        have HD4 := Lib.hid (HD.out.turn (by omega) S4 Y4)
        have hs4 : w3.heap.size ≤ w4.heap.size := HD4.out.only.size
        clear S4 Y4 HD hz1
        go_wp2_with (at_builtin; refine app_i64 rfl (.tmp 24) (.tmp 27) rfl w3.heap.size _ k ys z _ rfl (HD4.out.alloc (.cells #[.int .i64 z] 2)).row rfl ?_ (by omega) ?_ ?_)
        rotate_left 2
        · intro v5 w5 O5 B5 hs5
          have HD5 := Lib.hid ((HD4.out.alloc _).push (by omega) O5 B5)
          clear O5 B5 HD4
          go_wp2
          go_roundw
          case rel => exact ⟨k + 1, _, by omega, by go_num, Lib.hid ⟨HD5.out.row, HD5.out.src.more (by omega), HD5.out.only⟩⟩
          case measure => simp [intOf] <;> omega
        · exact (Blk.new _ _ _).cell 0
        · simp; omega
      · obtain rfl : k = m := by omega
        have HOB := Own.of_owns HD.out.row (Nat.le_refl _)
        obtain ⟨D, d2, rfl, _, _⟩ := HOB.slice
        have HO4 := Lib.hid (HOB.widen (show w.heap.size ≤ w3.heap.size by omega) (Nat.le_refl _))
        have HA4 := Lib.hid ((HO3.out.only_lt HD.out.only (by omega)).widen (show w.heap.size ≤ w1.heap.size by omega) (show w2.heap.size ≤ wr.heap.size by omega))
        have HB4 := Lib.hid (HB3.out.trans (HD.out.only.below (B := w.heap.size) (Nat.le_refl _) (by omega)))
        clear HOB HD
        go_wp2
        go_ret2
        exact ⟨X, k, d, xs, D, k, d2, ys, rfl, HA4.out, HO4.out, hm, hm, HB4.out⟩
  · go_wp2_with fail
    refine (l16DrawZones_c w.heap.size 52 w3 HS3.out (by omega)).mono ?_
    rintro e w4 ⟨D, m2, d2, ys, rfl, O4, hm2, S4, Y4⟩
    have HO4 := Lib.hid (O4.widen (show w.heap.size ≤ w3.heap.size by omega) (Nat.le_refl _))
    have hs4 := Y4.size
    have HA4 := Lib.hid ((HO3.out.only_lt Y4 (by omega)).widen (show w.heap.size ≤ w1.heap.size by omega) (show w2.heap.size ≤ w4.heap.size by omega))
    have HB4 := Lib.hid (HB3.out.trans (Y4.below (B := w.heap.size) (Nat.le_refl _) (by omega)))
    clear O4 S4 Y4 HS3
    go_wp2
    go_ret2
    exact ⟨X, m, d, xs, D, m2, d2, ys, rfl, HA4.out, HO4.out, hm, hm2, HB4.out⟩
/-! ### the worst of two lines -/
def WZPost (v : List Int × Int) (w : World) (e : Ending) (w' : World) : Prop :=
  ∃ A n c, e = .returned (.tuple #[.slice A n c, .int .i64 v.2]) ∧ Own w' w.heap.size w'.heap.size 2 1 (.slice A n c) n (ints v.1) ∧ n ≤ 1048576 ∧ n ≤ c ∧ Below w.heap.size w w'
theorem WZPost.err {v : List Int × Int} {k : Int} {w w' : World} (hv : v = ([], k)) (hb : Below w.heap.size w w') : WZPost v w (.returned (.tuple #[.slice none 0 0, .int .i64 k])) w' := by
  subst hv; exact ⟨none, 0, 0, rfl, Own.nil, by omega, by omega, hb⟩
theorem zonesOk_z (A : Option Addr) (n c B : Nat) (zs : List Int) (w : World) (W : World) (ha : Reads W B 1 A n (ints zs)) (hB : B ≤ W.heap.size) (hn : n ≤ 1048576) :
    Calls Tryd.prog 22 #[.slice A n c] W fun e w' => e = .returned (.bool (okZ zs)) ∧ Below W.heap.size W w' := by
  have h := zonesOk_c A n c B zs W ha hB hn
  have hl := ha.len
  unfold okZ
  rw [hl]
  exact h
def zmaxK (a b : List Int) (k : Nat) : List Int := (zmax a b).take k ++ a.drop k
theorem zmaxK_zero (a b : List Int) : zmaxK a b 0 = a := by simp [zmaxK]
theorem zmaxK_all {a b : List Int} (h : a.length = b.length) : zmaxK a b a.length = zmax a b := by
  unfold zmaxK
  rw [List.take_of_length_le (by rw [zmax_len h]; omega), List.drop_of_length_le (by omega), List.append_nil]
theorem zmaxK_set {a b : List Int} {k : Nat} {x y : Int} (h : a.length = b.length) (hx : a[k]? = some x) (hy : b[k]? = some y) : (zmaxK a b k).set k (max x y) = zmaxK a b (k + 1) := by
  have hk := (List.getElem?_eq_some_iff.1 hx).1
  have hl : ((zmax a b).take k).length = k := by rw [List.length_take, zmax_len h]; omega
  unfold zmaxK
  rw [List.set_append_right _ _ (by omega), hl, Nat.sub_self, List.drop_eq_getElem_cons hk, List.set_cons_zero, List.take_add_one, zmax_get hx hy]
  simp
theorem zmaxK_get {a b : List Int} {k : Nat} {x : Int} (h : a.length = b.length) (hx : a[k]? = some x) : (zmaxK a b k)[k]? = some x := by
  have hk := (List.getElem?_eq_some_iff.1 hx).1
  have hl : ((zmax a b).take k).length = k := by rw [List.length_take, zmax_len h]; omega
  unfold zmaxK
  rw [List.getElem?_append_right (by omega), hl, Nat.sub_self, List.getElem?_drop, Nat.add_zero, hx]
theorem ints_set (l : List Int) (k : Nat) (z : Int) : (ints l).set k (.int .i64 z) = ints (l.set k z) := by simp [ints, List.map_set]
set_option maxHeartbeats 2000000 in
theorem iWorstZones_c (A : Option Addr) (n c B : Nat) (xs : List Int) (D : Option Addr) (m d B2 : Nat) (ys : List Int) (w : World) (ha : Reads w B 1 A n (ints xs)) (hB : B ≤ w.heap.size) (hn : n ≤ 1048576) (hd : Reads w B2 1 D m (ints ys)) (hB2 : B2 ≤ w.heap.size) (hm : m ≤ 1048576) :
    Calls Tryd.prog 8 #[.slice A n c, .slice D m d] w (WZPost (worstV xs ys) w) := by
  have HV := Lib.hid (show worstV xs ys = if okZ xs = false ∨ okZ ys = false then ([], 2) else if xs.length ≠ ys.length then ([], 7) else (zmax xs ys, 0) from rfl)
  have HZ1 := Lib.hid (zonesOk_z A n c B xs w w ha hB hn)
  have HZ2 := Lib.hid (fun W (hW : Below w.heap.size w W) => zonesOk_z D m d B2 ys w W (hd.below (hW.mono hB2)) (Nat.le_trans hB2 hW.size) hm)
  have hl1 := ha.len
  have hl2 := hd.len
  have HA := Lib.hid ha
  have HD := Lib.hid hd
  clear ha hd
  cases h1 : okZ xs
  · rw [h1] at HZ1
    have HW : Hid (worstV xs ys = ([], 2)) := Lib.hid (by rw [HV.out, if_pos (.inl h1)])
    go_enter Tryd.func8, Tryd.ntmps8
    go_wp2_with fail
    refine HZ1.out.mono ?_
    rintro e w1 ⟨rfl, B1⟩
    go_wp2
    go_ret2
    exact WZPost.err HW.out B1
  · rw [h1] at HZ1
    cases h2 : okZ ys
    · rw [h2] at HZ2
      have HW : Hid (worstV xs ys = ([], 2)) := Lib.hid (by rw [HV.out, if_pos (.inr h2)])
      go_enter Tryd.func8, Tryd.ntmps8
      go_wp2_with fail
      refine HZ1.out.mono ?_
      rintro e w1 ⟨rfl, B1⟩
      go_wp2_with fail
      refine (HZ2.out _ B1).mono ?_
      rintro e w2 ⟨rfl, B2⟩
      have HB2 := Lib.hid (B1.trans (B2.mono B1.size))
      go_wp2
      go_ret2
      exact WZPost.err HW.out HB2.out
    · rw [h2] at HZ2
      by_cases hnm : n = m
      · subst hnm
        have hle := hl1.trans hl2.symm
        have HW : Hid (worstV xs ys = (zmax xs ys, 0)) := Lib.hid (by rw [HV.out, if_neg (by simp [h1, h2]), if_neg (by simpa using hle)])
        have HLE := Lib.hid hle
        have HL1 := Lib.hid hl1
        clear hle hl1 hl2 HV
        go_enter Tryd.func8, Tryd.ntmps8
        go_wp2_with fail
        refine HZ1.out.mono ?_
        rintro e w1 ⟨rfl, B1⟩
        go_wp2_with fail
        refine (HZ2.out _ B1).mono ?_
        rintro e w2 ⟨rfl, B2⟩
        have HB2 := Lib.hid (B1.trans (B2.mono B1.size))
        have hs2 := HB2.out.size
        clear B1 B2 HZ1 HZ2
        go_wp2_with fail
        refine (scloneI_c A n c B xs w2 (HA.out.below (HB2.out.mono hB)) (by omega) hn).mono ?_
        rintro e w3 ⟨E, e3, rfl, O3, B3⟩
        have HO3 : Hid (Own w3 w.heap.size w3.heap.size 2 1 (.slice E n e3) n (ints (zmaxK xs ys 0))) := Lib.hid (by rw [zmaxK_zero]; exact O3.widen hs2 (Nat.le_refl _))
        have HB3 := Lib.hid (HB2.out.trans (B3.mono hs2))
        obtain ⟨_, _, ee, hec, _⟩ := O3.slice
        obtain ⟨rfl⟩ : e3 = _ := by injection ee
        have HD3 := Lib.hid (HD.out.below (HB3.out.mono hB2))
        clear O3 B3 ee HB2
        go_wp2
        go_loopw [28] (fun iv wr => ∃ k : Nat, k ≤ n ∧ iv = .int .i64 k ∧ Hid (Own wr w.heap.size w3.heap.size 2 1 (.slice E n e3) n (ints (zmaxK xs ys k))) ∧ Hid (Only w.heap.size w3.heap.size w3 wr)) (fun iv _ => n - (intOf iv).toNat)
        case atStart => exact ⟨0, Nat.zero_le _, rfl, HO3, Lib.hid (Only.refl _ _ _)⟩
        case round =>
          clear HO3
          obtain ⟨k, hk, rfl, HO, HY⟩ := hrel
          have hws := HY.out.size
          have HBr := Lib.hid (HB3.out.trans (HY.out.below (B := w.heap.size) (Nat.le_refl _) HB3.out.size))
          by_cases hlt : k < n
          · obtain ⟨ad, y, rfl, hbl, hy, cy⟩ := (HD.out.below (HBr.out.mono hB2)).int hlt
            obtain ⟨gE, rfl, hg1, hg2, hg3⟩ := HO.out.at_ (by omega)
            have hx : xs[k]? = some (xs[k]'(by rw [HL1.out]; exact hlt)) := List.getElem?_eq_getElem _
            generalize xs[k]'(by rw [HL1.out]; exact hlt) = x at hx
            have cx : wr.cell? ⟨gE, k, none⟩ = some (.int .i64 x) := by
              rw [HO.out.1.cellAt k (by omega)]
              simp [ints, zmaxK_get HLE.out hx]
            have fx : wr.frozen? ⟨gE, k, none⟩ = false := HO.out.1.frozenAt k
            have hst := HO.out.stored (j := k) (.int .i64 (max x y))
            rw [ints_set, zmaxK_set HLE.out hx hy] at hst
            have HST := Lib.hid hst.1
            have HSY := Lib.hid (HY.out.trans hst.2)
            have hkn : (k : Int) < (n : Int) := by omega
            have hk0 : (0 : Int) ≤ (k : Int) := by omega
            clear hst hx hy
            go_wp2
            go_roundw
            case rel => exact ⟨k + 1, by omega, by go_num, HST, HSY⟩
            case measure => simp [intOf] <;> omega
          · obtain rfl : k = n := by omega
            have HF : Hid (zmaxK xs ys k = zmax xs ys) := Lib.hid (by rw [← HL1.out]; exact zmaxK_all HLE.out)
            rw [HF.out] at HO
            go_wp2
            go_ret2
            exact ⟨E, k, _, by rw [HW.out]; rfl, by rw [HW.out]; exact HO.out.widen (Nat.le_refl _) hws, hn, hec, HBr.out⟩
      · have HW : Hid (worstV xs ys = ([], 7)) := Lib.hid (by rw [HV.out, if_neg (by simp [h1, h2]), if_pos (by omega)])
        have hq : ((n : Int) == (m : Int)) = false := by rw [beq_eq_false_iff_ne]; omega
        go_enter Tryd.func8, Tryd.ntmps8
        go_wp2_with fail
        refine HZ1.out.mono ?_
        rintro e w1 ⟨rfl, B1⟩
        go_wp2_with fail
        refine (HZ2.out _ B1).mono ?_
        rintro e w2 ⟨rfl, B2⟩
        have HB2 := Lib.hid (B1.trans (B2.mono B1.size))
        go_wp2
        go_ret2
        exact WZPost.err HW.out HB2.out
end Go.Proofs.YtjmnhmghpikknaaDoor
