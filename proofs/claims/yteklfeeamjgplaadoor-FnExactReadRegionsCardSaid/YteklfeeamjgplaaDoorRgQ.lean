/- markRegionS and heldRegionS, the laws' own helpers. -/
import Derived.Test.YteklfeeamjgplaaDoorRgO
namespace Go.Proofs.YteklfeeamjgplaaDoor
open Go.ChangeShapes Go.WideShapes Go.ChangeAt Go.RowKit
set_option linter.unusedVariables false
theorem only_below {lo hi : Nat} {w w' : World} (h : Below w.heap.size w w') : Only lo hi w w' := ⟨h.os, h.tape, h.output, h.size, fun q hq hc => h.block q hq⟩
set_option maxHeartbeats 4000000 in
theorem markRegionS_c (A : Option Addr) (n c lo hi : Nat) (rs : List Rg) (k : Int) (w : World) (h : OwnRegs w lo hi (.slice A n c) n rs) (hx : ∀ x ∈ rs, x.n ≤ 1048576) (hh : hi ≤ w.heap.size) (hn : n ≤ 1048576) (hk0 : 1 ≤ k) (hk1 : k ≤ 1099511627776000) :
    Calls Tryd.prog 12 #[.slice A n c, .int .i64 k] w fun e w' => e = .returned (.int .i64 (k + mrk n rs)) ∧ OwnRegs w' lo hi (.slice A n c) n (mrkRs k rs) ∧ Only lo hi w w' := by
  have HL := Lib.hid h.regs.len
  have HX := Lib.hid hx
  have HM0 := Lib.hid (mrkTo_zero k rs)
  have HMB : Hid (∀ m, m ≤ n → 0 ≤ mrk m (rs.take m) ∧ mrk m (rs.take m) ≤ 1099513724928) := Lib.hid fun m hm => mrk_bd (fun x hxm => hx x (List.mem_of_mem_take hxm)) (by have := h.regs.len; rw [List.length_take]; omega) (by omega)
  have HO0 := Lib.hid h
  clear h hx
  go_enter Tryd.func12, Tryd.ntmps12
  go_wp2
  go_loopw [1, 5] (fun j i wr => ∃ (m : Nat) (z : Int), m ≤ n ∧ i = .int .i64 m ∧ j = .int .i64 z ∧ Hid (z = k + mrk m (rs.take m)) ∧ Hid (OwnRegs wr lo hi (.slice A n c) n (mrkTo k rs m)) ∧ Hid (Only lo hi w wr)) (fun _ i _ => n - (intOf i).toNat)
  case atStart => exact ⟨0, k, Nat.zero_le _, rfl, rfl, Lib.hid (by simp [mrk, sumN]), Lib.hid (by rw [HM0.out]; exact HO0.out), Lib.hid (Only.refl _ _ _)⟩
  case round =>
    clear HM0 HO0
    obtain ⟨m, z, hm, rfl, rfl, HZ, HO, HW⟩ := hrel
    have hwz := HW.out.size
    have hzb : 1 ≤ z ∧ z ≤ 1200000000000000 := by have := HMB.out m hm; have := HZ.out; omega
    obtain ⟨hz1, hz2⟩ := hzb
    by_cases hlt : m < n
    · have hxs : rs[m]? = some (rs[m]'(by have := HL.out; omega)) := List.getElem?_eq_getElem _
      generalize rs[m]'(by have := HL.out; omega) = x at hxs
      have HXS := Lib.hid hxs
      have hxn := HX.out x (List.mem_of_getElem? hxs)
      clear hxs
      go_wp2_with fail
      refine (markText_c z wr hz1 (by omega)).mono ?_
      rintro e w1 ⟨rfl, B1⟩
      have hs1 := B1.size
      have HO1 := Lib.hid (HO.out.below B1 (by omega))
      have HW1 := Lib.hid (HW.out.trans (only_below (lo := lo) (hi := hi) B1))
      clear B1 HO HW
      obtain ⟨g, hA, hg1, hg2, hg3⟩ := HO1.out.row.at_ (by omega)
      subst hA
      have HXM := Lib.hid (mrkTo_get k HXS.out)
      have hsetid := HO1.out.setTop (y := { x with id := mtx z }) (j := 0) (u := .string (mtx z)) HXM.out rfl (by omega) ⟨rfl, rfl, rfl, rfl⟩
      rw [Nat.add_zero] at hsetid
      obtain ⟨ho2, hw2⟩ := hsetid
      have hm1 : ((mrkTo k rs m).set m { x with id := mtx z })[m]? = some { x with id := mtx z } := List.getElem?_set_self (List.getElem?_eq_some_iff.1 HXM.out).1
      have hsetlv := ho2.setTop (y := { x with id := mtx z, lv := z + 1 }) (j := 1) (u := .int .i64 (z + 1)) hm1 rfl (by omega) ⟨rfl, rfl, rfl, rfl⟩
      rw [List.set_set] at hsetlv
      obtain ⟨ho3, hw3⟩ := hsetlv
      have HO3 := Lib.hid ho3
      have HW3 := Lib.hid (HW1.out.trans (hw2.trans hw3))
      have hc1 := HO1.out.regs.at_ hlt
      obtain ⟨ad', x', had, -, hx', -, d0, d1, d2⟩ := hc1
      obtain rfl : ad' = ⟨g, 0, none⟩ := by injection had with h; exact h.symm
      obtain rfl : x = x' := by have h := HXM.out; rw [hx'] at h; injection h with h; exact h.symm
      have f0 : w1.frozen? ⟨g, m * 3, none⟩ = false := HO1.out.row.1.frozenAt (m * 3)
      have f1 : w1.frozen? ⟨g, m * 3 + 1, none⟩ = false := HO1.out.row.1.frozenAt (m * 3 + 1)
      have ha0 : (⟨g, 0, none⟩ : Addr).add (m * 3) = ⟨g, m * 3, none⟩ := by unfold Addr.add; split <;> simp_all
      rw [ha0] at d0 d1 d2
      simp only at d1 d2
      have hmn : (m : Int) < (n : Int) := by omega
      generalize hM : mtx z = tx at *
      have HM := Lib.hid hM
      clear hM ho2 hw2 ho3 hw3 hm1 hx' had ha0
      go_wp2_with fail
      have hm3 : ((mrkTo k rs m).set m { x with id := tx, lv := z + 1 })[m]? = some { x with id := tx, lv := z + 1 } := List.getElem?_set_self (List.getElem?_eq_some_iff.1 HXM.out).1
      obtain ⟨b, d, hnb, hbd⟩ := (HO3.out.inn _ (List.mem_of_getElem? hm3)).narrow
      have hdz : d ≤ w1.heap.size := by
        rcases hbd with h | h
        · have := h.2.2.2.2; simpa using this
        · omega
      refine (markStringS_c x.A x.n x.c b d _ (z + 1 + 1) _ hnb (by simpa using hdz) hxn (by omega) (by omega)).mono ?_
      rintro e w4 ⟨rfl, hn4, ho4⟩
      have hsn := HO3.out.setNear (l := mts (z + 1 + 1) x.n) hm3 ho4 hn4 hbd
      rw [List.set_set] at hsn
      have HS : Hid (OwnRegs w4 lo hi (.slice (some ⟨g, 0, none⟩) n c) n (mrkTo k rs (m + 1))) := Lib.hid (by
        rw [← mrkTo_set k HXS.out, ← HZ.out, HM.out]
        have h := hsn.1
        rw [show z + 1 + 1 = z + 2 from by omega] at h
        exact h)
      have HS2 := Lib.hid (HW3.out.trans hsn.2)
      have HZ2 : Hid (z + 1 + 1 + x.n = k + mrk (m + 1) (rs.take (m + 1))) := Lib.hid (by rw [mrk_succ HXS.out, HZ.out]; omega)
      clear hsn hn4 ho4 hnb hbd hdz hm3 d0 d1 d2 f0 f1 HO3 HW3 HO1 HW1
      go_wp2
      go_roundw
      case rel => exact ⟨m + 1, _, by omega, by go_num, rfl, HZ2, HS, HS2⟩
      case measure => simp [intOf]; omega
    · obtain rfl : m = n := by omega
      have hfin : mrkTo k rs m = mrkRs k rs := by have := mrkTo_all k rs; rw [HL.out] at this; exact this
      have htk : rs.take m = rs := List.take_of_length_le (by have := HL.out; omega)
      rw [hfin] at HO
      rw [htk] at HZ
      clear hfin htk
      go_wp2
      go_ret
      exact ⟨ret_int HZ.out, HO.out, HW.out⟩
set_option maxHeartbeats 4000000 in
theorem heldRegionS_c (A : Option Addr) (n c B : Nat) (rs : List Rg) (k : Int) (w : World) (h : Regs w B A n (mrkRs k rs)) (hx : ∀ x ∈ rs, x.n ≤ 1048576) (hB : B ≤ w.heap.size) (hn : n ≤ 1048576) (hk0 : 1 ≤ k) (hk1 : k ≤ 1099511627776000) :
    Calls Tryd.prog 13 #[.slice A n c, .int .i64 k] w fun e w' => e = .returned (.int .i64 (k + mrk n rs)) ∧ Below w.heap.size w w' := by
  have HL := Lib.hid (show rs.length = n by have := h.len; rw [mrkRs_len] at this; exact this)
  have HX := Lib.hid hx
  have HMB : Hid (∀ m, m ≤ n → 0 ≤ mrk m (rs.take m) ∧ mrk m (rs.take m) ≤ 1099513724928) := Lib.hid fun m hm => mrk_bd (fun x hxm => hx x (List.mem_of_mem_take hxm)) (by have := HL.out; rw [List.length_take]; omega) (by omega)
  have HA := Lib.hid h
  clear h hx
  go_enter Tryd.func13, Tryd.ntmps13
  go_wp2
  go_loopw [1, 5] (fun j i wr => ∃ (m : Nat) (z : Int), m ≤ n ∧ i = .int .i64 m ∧ j = .int .i64 z ∧ Hid (z = k + mrk m (rs.take m)) ∧ Hid (Below w.heap.size w wr)) (fun _ i _ => n - (intOf i).toNat)
  case atStart => exact ⟨0, k, Nat.zero_le _, rfl, rfl, Lib.hid (by simp [mrk, sumN]), Lib.hid (Below.refl _ _)⟩
  case round =>
    obtain ⟨m, z, hm, rfl, rfl, HZ, HW⟩ := hrel
    have hwz := HW.out.size
    have hzb : 1 ≤ z ∧ z ≤ 1200000000000000 := by have := HMB.out m hm; have := HZ.out; omega
    obtain ⟨hz1, hz2⟩ := hzb
    by_cases hlt : m < n
    · have hxs : rs[m]? = some (rs[m]'(by have := HL.out; omega)) := List.getElem?_eq_getElem _
      generalize rs[m]'(by have := HL.out; omega) = x at hxs
      have HXS := Lib.hid hxs
      have hxn := HX.out x (List.mem_of_getElem? hxs)
      have hgx := mrkRs_get k hxs
      rw [← HZ.out] at hgx
      have HR := Lib.hid (HA.out.below (HW.out.mono hB))
      obtain ⟨ad, y, rfl, hbl, hs, hny, c0, c1, c2⟩ := HR.out.at_ hlt
      obtain rfl : { x with id := mtx z, lv := z + 1, near := mts (z + 2) x.n } = y := by rw [hgx] at hs; injection hs
      simp only at c0 c1 c2
      have HM := Lib.hid (fun W => markText_c z W hz1 (by omega))
      obtain ⟨tx, hM⟩ : ∃ tx, tx = mtx z := ⟨_, rfl⟩
      rw [← hM] at HM c0
      have hne : (tx.toList == tx.toList) = true := by simp
      have hnn : (tx.toList != tx.toList) = false := by simp
      have HS : Hid (∀ W', Below wr.heap.size wr W' → W'.cell? (ad.add (m * 3)) = some (.string tx)) := Lib.hid fun W' hW => (hW.cell (p := ad.add (m * 3)) (by rw [block_of_add]; omega)).trans c0
      have HC1 := Lib.hid c1
      have HC2 := Lib.hid c2
      have HNY := Lib.hid hny
      have hBr := Below.refl wr.heap.size wr
      have hmk : (m : Int) < (n : Int) := by omega
      have hmm : (0 : Int) ≤ (m : Int) := by omega
      clear hs hxs hgx hM c1 c2 hny
      go_wp2
      go_region_held3 (fun w' => Below wr.heap.size wr w' ∧ w'.cell? (ad.add (m * 3)) = some (.string tx)) (first | exact keepB HS.out (by assumption) (by first | assumption | exact And.left (by assumption)) | exact keepD HS.out (by assumption) | (go_keep; done))
        ((go_at_call 27; refine (HM.out _).mono ?_; rintro e w1 ⟨rfl, hb⟩))
      replace hb : Below wr.heap.size wr w1 := hBr.drew.trans hb
      have d1 := (hb.cell (p := ⟨(ad.add (m * 3)).block, (ad.add (m * 3)).off + 1, none⟩) (by show (ad.add (m * 3)).block < _; rw [block_of_add]; omega)).trans HC1.out
      have d2 := (hb.cell (p := ⟨(ad.add (m * 3)).block, (ad.add (m * 3)).off + 2, none⟩) (by show (ad.add (m * 3)).block < _; rw [block_of_add]; omega)).trans HC2.out
      have hwb : B ≤ wr.heap.size := by omega
      have HNY2 := Lib.hid (HNY.out.below (hb.mono hwb))
      have hs1 := hb.size
      have HB := Lib.hid (HW.out.trans (hb.mono HW.out.size))
      clear hBr c0 HS hb
      have h11 : (z + 1 != z + 1) = false := by simp
      go_wp2_with fail
      have hrd : Reads w1 B 1 x.A x.n (strs (mts (z + 1 + 1) x.n)) := by
        have h := HNY2.out
        unfold Near at h
        rw [show z + 1 + 1 = z + 2 from by omega]
        exact h
      refine (heldStringS_c x.A x.n x.c B (z + 1 + 1) w1 hrd (by omega) hxn (by omega) (by omega)).mono ?_
      rintro e w2 ⟨rfl, hb⟩
      have HB2 := Lib.hid (HB.out.trans (hb.mono HB.out.size))
      have HZ2 : Hid (z + 1 + 1 + x.n = k + mrk (m + 1) (rs.take (m + 1))) := Lib.hid (by rw [mrk_succ HXS.out, HZ.out]; omega)
      have hng : ¬ (z + 1 + 1 + (x.n : Int) < 0) := by omega
      clear hb hrd HNY2 d1 d2 h11 hne hnn
      go_wp2
      go_roundw
      case rel => exact ⟨m + 1, _, by omega, by go_num, rfl, HZ2, HB2⟩
      case measure => simp [intOf]; omega
    · obtain rfl : m = n := by omega
      have htk : rs.take m = rs := List.take_of_length_le (by have := HL.out; omega)
      rw [htk] at HZ
      clear htk
      go_wp2
      go_ret
      exact ⟨ret_int HZ.out, HW.out⟩
end Go.Proofs.YteklfeeamjgplaaDoor
