/- slices.Sort of a short row of integers. -/
import Derived.Test.YteklfeeamjgplaaGreatDoorPut
import Derived.Test.YteklfeeamjgplaaGreatDoorSh
import Derived.BigRegion
import Derived.Deep.RegionLaw
namespace Go.Proofs.YteklfeeamjgplaaGreatDoor
open Go.ChangeShapes Go.WideShapes Go.ChangeAt Go.RowKit
set_option linter.unusedVariables false
def zAt (l : List Int) (k : Nat) : Int := (l[k]?).getD 0
theorem zAt_get {l : List Int} {k : Nat} {z : Int} (h : l[k]? = some z) : zAt l k = z := by rw [zAt, h]; rfl
theorem zAt_el {l : List Int} {k : Nat} (h : k < l.length) : l[k]? = some (zAt l k) := by rw [zAt, List.getElem?_eq_getElem h]; rfl
def Srt (l : List Int) (m : Nat) : Prop := ∀ a b, a < b → b < m → zAt l a ≤ zAt l b
def Mid (l : List Int) (j i : Nat) : Prop := ∀ a b, a < b → b ≤ i → b ≠ j → zAt l a ≤ zAt l b
def swp (l : List Int) (t : Nat) : List Int := (l.set (t + 1) (zAt l t)).set t (zAt l (t + 1))
theorem swp_len (l : List Int) (t : Nat) : (swp l t).length = l.length := by simp [swp]
theorem swp_perm {l : List Int} {t : Nat} (h : t + 1 < l.length) : (swp l t).Perm l := by
  have h1 : t < l.length := by omega
  have e1 : zAt l t = l[t] := zAt_get (List.getElem?_eq_getElem h1)
  have e2 : zAt l (t + 1) = l[t + 1] := zAt_get (List.getElem?_eq_getElem h)
  unfold swp
  rw [e1, e2]
  exact List.set_set_perm h h1
theorem swp_at {l : List Int} {t : Nat} (h : t + 1 < l.length) (k : Nat) : zAt (swp l t) k = if k = t then zAt l (t + 1) else if k = t + 1 then zAt l t else zAt l k := by
  unfold swp zAt
  by_cases e1 : k = t
  · subst e1; rw [if_pos rfl, List.getElem?_set_self (by simp; omega)]; rfl
  · rw [if_neg e1, List.getElem?_set_ne (Ne.symm e1)]
    by_cases e2 : k = t + 1
    · subst e2; rw [if_pos rfl, List.getElem?_set_self h]; rfl
    · rw [if_neg e2, List.getElem?_set_ne (Ne.symm e2)]
theorem Mid.start {l : List Int} {i : Nat} (h : Srt l i) : Mid l i i := fun a b hab hb hne => h a b hab (by omega)
theorem Mid.swap {l : List Int} {t i : Nat} (h : Mid l (t + 1) i) (hi : t + 1 ≤ i) (hl : i < l.length) (hlt : zAt l (t + 1) < zAt l t) : Mid (swp l t) t i := by
  intro a b hab hb hne
  rw [swp_at (by omega), swp_at (by omega)]
  have h1 := h
  by_cases ea : a = t
  · subst ea
    rw [if_pos rfl, if_neg hne]
    by_cases eb : b = a + 1
    · rw [if_pos eb]; omega
    · rw [if_neg eb]; exact h (a + 1) b (by omega) hb eb
  · rw [if_neg ea]
    by_cases ea1 : a = t + 1
    · rw [if_pos ea1, if_neg hne, if_neg (by omega)]; exact h t b (by omega) hb (by omega)
    · rw [if_neg ea1, if_neg hne]
      by_cases eb : b = t + 1
      · rw [if_pos eb]
        exact h a t (by omega) (by omega) (by omega)
      · rw [if_neg eb]; exact h a b hab hb eb
theorem Mid.stop {l : List Int} {j i : Nat} (h : Mid l j i) (hj : j ≤ i) (hs : ∀ t, j = t + 1 → zAt l t ≤ zAt l (t + 1)) : Srt l (i + 1) := by
  intro a b hab hb
  by_cases e : b = j
  · subst e
    obtain ⟨t, rfl⟩ : ∃ t, b = t + 1 := ⟨b - 1, by omega⟩
    have h1 := hs t rfl
    by_cases e2 : a = t
    · subst e2; exact h1
    · have := h a t (by omega) (by omega) (by omega); omega
  · exact h a b hab (by omega) e
theorem only_drewN' {lo hi : Nat} (w : World) (q : Nat) : Only lo hi w (w.drewN q) := ⟨rfl, rfl, rfl, Nat.le_refl _, fun _ _ _ => rfl⟩
theorem isNaN_c (z : Int) (w : World) : Calls Tryz.prog 115 #[.int .i64 z] w fun e w' => e = .returned (.bool false) ∧ w = w' := by
  have h : (z != z) = false := by simp
  go_enter Tryz.func115, Tryz.ntmps115
  go_wp2
  go_ret
  exact ⟨rfl, rfl⟩
theorem cmpLess_c (z y : Int) (w : World) : Calls Tryz.prog 89 #[.int .i64 z, .int .i64 y] w fun e w' => e = .returned (.bool (decide (z < y))) ∧ w = w' := by
  go_enter Tryz.func89, Tryz.ntmps89
  go_wp2_with (go_at_call 115; refine (isNaN_c _ _).mono ?_; rintro e w' ⟨rfl, rfl⟩)
  go_ret
  exact ⟨rfl, rfl⟩
set_option maxHeartbeats 4000000 in
theorem insSort_c (g n c lo hi : Nat) (zs : List Int) (w : World) (h : Own w lo hi 2 1 (.slice (some ⟨g, 0, none⟩) n c) n (ints zs)) (hn : n ≤ 12) :
    Calls Tryz.prog 83 #[.slice (some ⟨g, 0, none⟩) n c, .int .i64 0, .int .i64 n] w fun e w' => e = .returned (.tuple #[]) ∧ ∃ ys, ys.Perm zs ∧ Srt ys n ∧ Own w' lo hi 2 1 (.slice (some ⟨g, 0, none⟩) n c) n (ints ys) ∧ Only lo hi w w' := by
  have HL := Lib.hid (show zs.length = n by have := h.reads.len; exact this)
  have HO0 := Lib.hid h
  clear h
  go_enter Tryz.func83, Tryz.ntmps83
  go_wp2
  go_loopw [6] (fun i wr => ∃ (k : Nat) (ys : List Int), 1 ≤ k ∧ i = .int .i64 k ∧ k ≤ 12 ∧ Hid (ys.Perm zs) ∧ Hid (Srt ys (min k n)) ∧ Hid (Own wr lo hi 2 1 (.slice (some ⟨g, 0, none⟩) n c) n (ints ys)) ∧ Hid (Only lo hi w wr)) (fun i _ => n + 1 - (intOf i).toNat)
  case atStart => exact ⟨1, zs, Nat.le_refl _, rfl, by omega, Lib.hid (List.Perm.refl _), Lib.hid (fun a b hab hb => by omega), HO0, Lib.hid (Only.refl _ _ _)⟩
  case round =>
    clear HO0
    obtain ⟨k, ys, hk1, rfl, hk12, HP, HS, HO, HW⟩ := hrel
    by_cases hlt : k < n
    · have hmin : min k n = k := by omega
      rw [hmin] at HS
      have HM0 := Lib.hid (Mid.start HS.out)
      have hkn : (k : Int) < (n : Int) := by omega
      clear hmin HS
      go_wp2
      go_loopw [7] (fun j wx => ∃ (t' : Nat) (xs : List Int), t' ≤ k ∧ j = .int .i64 t' ∧ Hid (xs.Perm zs) ∧ Hid (Mid xs t' k) ∧ Hid (Own wx lo hi 2 1 (.slice (some ⟨g, 0, none⟩) n c) n (ints xs)) ∧ Hid (Only lo hi w wx)) (fun j _ => (intOf j).toNat)
      case atStart => exact ⟨k, ys, Nat.le_refl _, rfl, HP, HM0, HO, HW⟩
      case round =>
        clear HP HM0 HO HW
        obtain ⟨t', xs, ht, rfl, HP, HM, HO, HW⟩ := hrel
        have hlx := Lib.hid (show xs.length = n by rw [HP.out.length_eq, HL.out])
        have hmin : Hid (min (k + 1) n = k + 1) := Lib.hid (by omega)
        rcases Nat.eq_zero_or_pos t' with h0 | h0
        · have HSN : Hid (Srt xs (min (k + 1) n)) := Lib.hid (by rw [hmin.out]; exact HM.out.stop ht (fun t e => by omega))
          have hg : ¬ ((0 : Int) < (t' : Int)) := by omega
          have hg2 : ¬ (0 < t') := by omega
          clear h0
          go_wp2
          go_quiet (fail)
          go_wp2
          go_roundw
          case rel => exact ⟨k + 1, xs, by omega, by go_num, by omega, HP, HSN, Lib.hid (HO.out.drewN _), Lib.hid (HW.out.trans (only_drewN' wr _))⟩
          case measure => simp [intOf]; omega
        · obtain ⟨t, rfl⟩ : ∃ t, t' = t + 1 := ⟨t' - 1, by omega⟩
          have c1 : wr.cell? ⟨g, t + 1, none⟩ = some (.int .i64 (zAt xs (t + 1))) := by rw [HO.out.1.cellAt _ (by omega)]; simp [ints, zAt_el (show t + 1 < xs.length by rw [hlx.out]; omega)]
          have c0 : wr.cell? ⟨g, t, none⟩ = some (.int .i64 (zAt xs t)) := by rw [HO.out.1.cellAt _ (by omega)]; simp [ints, zAt_el (show t < xs.length by rw [hlx.out]; omega)]
          have f1 : wr.frozen? ⟨g, t + 1, none⟩ = false := HO.out.1.frozenAt _
          have f0 : wr.frozen? ⟨g, t, none⟩ = false := HO.out.1.frozenAt _
          have htn : (t : Int) < (n : Int) := by omega
          have htn1 : (t : Int) + 1 < (n : Int) := by omega
          have HSW : Hid (zAt xs (t + 1) < zAt xs t → Mid (swp xs t) t k) := Lib.hid fun hl => HM.out.swap ht (by rw [hlx.out]; omega) hl
          have HSP := Lib.hid (show (swp xs t).Perm zs from (swp_perm (by rw [hlx.out]; omega)).trans HP.out)
          have HST : Hid (¬ zAt xs (t + 1) < zAt xs t → Srt xs (min (k + 1) n)) := Lib.hid fun hl => by rw [hmin.out]; exact HM.out.stop ht (fun t2 e => by have e2 : t = t2 := (by omega); subst e2; omega)
          have HSTO : Hid (∀ q, Own (((wr.drewN q).setCell ⟨g, t + 1, none⟩ (.int .i64 (zAt xs t))).setCell ⟨g, t, none⟩ (.int .i64 (zAt xs (t + 1)))) lo hi 2 1 (.slice (some ⟨g, 0, none⟩) n c) n (ints (swp xs t)) ∧ Only lo hi wr (((wr.drewN q).setCell ⟨g, t + 1, none⟩ (.int .i64 (zAt xs t))).setCell ⟨g, t, none⟩ (.int .i64 (zAt xs (t + 1))))) := Lib.hid fun q => by
            have h1 := (HO.out.drewN q).stored (j := t + 1) (.int .i64 (zAt xs t))
            have h2 := h1.1.stored (j := t) (.int .i64 (zAt xs (t + 1)))
            refine ⟨?_, (only_drewN' wr q).trans (h1.2.trans h2.2)⟩
            have e : ints (swp xs t) = ((ints xs).set (t + 1) (.int .i64 (zAt xs t))).set t (.int .i64 (zAt xs (t + 1))) := by simp [swp, ints, List.map_set]
            rw [e]; exact h2.1
          clear h0
          generalize zAt xs (t + 1) = z1 at *
          generalize zAt xs t = z0 at *
          by_cases hl : z1 < z0
          · have hd : decide (z1 < z0) = true := by simpa using hl
            have HSW2 := Lib.hid (HSW.out hl)
            clear hl HSW HST
            go_wp2
            go_quiet ((go_at_call 89; first | exact quiet_add_left (cmpLess_c _ _ _) | exact quiet_left (cmpLess_c _ _ _)))
            go_wp2
            go_region
            go_wp2
            go_roundw
            case rel => exact ⟨t, swp xs t, by omega, by go_num, HSP, HSW2, Lib.hid (HSTO.out _).1, Lib.hid (HW.out.trans (HSTO.out _).2)⟩
            case measure => simp [intOf]
          · have hd : decide (z1 < z0) = false := by simpa using hl
            have HST2 := Lib.hid (HST.out hl)
            clear hl HSW HST
            go_wp2
            go_quiet ((go_at_call 89; first | exact quiet_add_left (cmpLess_c _ _ _) | exact quiet_left (cmpLess_c _ _ _)))
            go_wp2
            go_roundw
            case rel => exact ⟨k + 1, xs, by omega, by go_num, by omega, HP, HST2, Lib.hid (HO.out.drewN _), Lib.hid (HW.out.trans (only_drewN' wr _))⟩
            case measure => simp [intOf]; omega
    · have HSS : Hid (Srt ys n) := Lib.hid (by have := HS.out; rwa [Nat.min_eq_right (by omega)] at this)
      go_wp2
      go_end0
      exact ⟨rfl, ys, HP.out, HSS.out, HO.out, HW.out⟩
set_option maxHeartbeats 2000000 in
theorem pdq_c (g n c lo hi : Nat) (lim : Int) (zs : List Int) (w : World) (h : Own w lo hi 2 1 (.slice (some ⟨g, 0, none⟩) n c) n (ints zs)) (hn : n ≤ 12) :
    Calls Tryz.prog 69 #[.slice (some ⟨g, 0, none⟩) n c, .int .i64 0, .int .i64 n, .int .i64 lim] w fun e w' => e = .returned (.tuple #[]) ∧ ∃ ys, ys.Perm zs ∧ Srt ys n ∧ Own w' lo hi 2 1 (.slice (some ⟨g, 0, none⟩) n c) n (ints ys) ∧ Only lo hi w w' := by
  have HC := Lib.hid (insSort_c g n c lo hi zs w h hn)
  clear h
  have hni : (n : Int) ≤ 12 := by omega
  go_enter Tryz.func69, Tryz.ntmps69
  go_wp2
  go_loopw [1, 2, 3] (fun a b l wr => a = .int .i64 0 ∧ b = .int .i64 n ∧ l = .int .i64 lim ∧ wr = w) (fun _ _ _ _ => 0)
  case atStart => exact ⟨rfl, rfl, rfl, rfl⟩
  case round =>
    obtain ⟨rfl, rfl, rfl, rfl⟩ := hrel
    go_wp2_with fail
    refine HC.out.mono ?_
    rintro e w' ⟨rfl, ys, h1, h2, h3, h4⟩
    have H1 := Lib.hid h1
    have H2 := Lib.hid h2
    have H3 := Lib.hid h3
    have H4 := Lib.hid h4
    clear h1 h2 h3 h4
    go_wp2
    refine bodyPost_ret (results_none rfl _ _ _) rfl ?_
    exact ⟨rfl, ys, H1.out, H2.out, H3.out, H4.out⟩
set_option maxHeartbeats 2000000 in
theorem sort_c (g n c lo hi : Nat) (zs : List Int) (w : World) (h : Own w lo hi 2 1 (.slice (some ⟨g, 0, none⟩) n c) n (ints zs)) (hn : n ≤ 12) (hnd : zs.Nodup) :
    Calls Tryz.prog 47 #[.slice (some ⟨g, 0, none⟩) n c] w fun e w' => e = .returned (.tuple #[]) ∧ Own w' lo hi 2 1 (.slice (some ⟨g, 0, none⟩) n c) n (ints (sortV zs)) ∧ Only lo hi w w' := by
  have HL := Lib.hid (show zs.length = n from h.reads.len)
  have HC := Lib.hid fun lim => pdq_c g n c lo hi lim zs w h hn
  have HN := Lib.hid hnd
  clear h hnd
  go_enter Tryz.func47, Tryz.ntmps47
  go_wp2_with fail
  refine (Tryz.bits_Len (n : Int) w (by omega) (by omega)).mono ?_
  rintro e w1 ⟨rfl, rfl⟩
  go_wp2_with fail
  refine (HC.out _).mono ?_
  rintro e w' ⟨rfl, ys, h1, h2, h3, h4⟩
  have hv : ys = sortV zs := sorted_sortV h1 HN.out (fun a b hab hb => by
    have hl : ys.length = n := by rw [h1.length_eq, HL.out]
    have h5 := h2 a b hab (by omega)
    rw [zAt_get (List.getElem?_eq_getElem hb), zAt_get (List.getElem?_eq_getElem (by omega : a < ys.length))] at h5
    exact h5)
  subst hv
  have H3 := Lib.hid h3
  have H4 := Lib.hid h4
  clear h1 h2 h3 h4
  go_wp2
  go_end0
  exact ⟨rfl, H3.out, H4.out⟩
end Go.Proofs.YteklfeeamjgplaaGreatDoor
