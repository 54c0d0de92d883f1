/- SameRegions by both. -/
import Derived.Test.YtdhopagmbbflkaaRgE
namespace Go.Proofs.Ytdhopagmbbflkaa
open Go.ChangeShapes Go.WideShapes Go.ChangeAt Go.RowKit
set_option linter.unusedVariables false

set_option maxHeartbeats 4000000 in
theorem equalFuncR_c (g : Nat) (lb : Array Value) (p : Rg → Rg → Bool) (A D : Option Addr) (n m c d BA BD : Nat) (rs ss : List Rg) (w : World) (ha : Regs w BA A n rs) (hd : Regs w BD D m ss) (hA : BA ≤ w.heap.size) (hD : BD ≤ w.heap.size)
    (hx : ∀ x ∈ rs, x.n ≤ 1048576) (hy : ∀ x ∈ ss, x.n ≤ 1048576) (hn : n ≤ 1048576) (hm : m ≤ 1048576) (hf : ClosRR g lb p w) :
    Calls Try.prog 44 #[.slice A n c, .slice D m d, .func (.func g) #[] lb] w fun e w' => e = .returned (.bool (allPairs p rs ss)) ∧ Below w.heap.size w w' := by
  by_cases hnm : n = m
  · subst hnm
    have HL1 := Lib.hid ha.len
    have HL2 := Lib.hid hd.len
    have HA := Lib.hid ha
    have HD := Lib.hid hd
    have HX := Lib.hid hx
    have HY := Lib.hid hy
    have HF := Lib.hid hf
    clear ha hd hx hy hf
    go_enter Try.func44, Try.ntmps44
    go_wp2
    go_loopw [17] (fun i wr => ∃ k : Nat, k ≤ n ∧ i = .int .i64 k ∧ Hid (((rs.zip ss).take k).all (fun q => p q.1 q.2) = true) ∧ Hid (Below w.heap.size w wr)) (fun i _ => n - (intOf i).toNat)
    case atStart => exact ⟨0, Nat.zero_le _, rfl, Lib.hid (by simp), Lib.hid (Below.refl _ _)⟩
    case round =>
      obtain ⟨k, hk, rfl, HT, HB⟩ := hrel
      by_cases hlt : k < n
      · obtain ⟨ad, x, rfl, _, hs, hnx, c0, c1, c2⟩ := (HA.out.below (HB.out.mono hA)).at_ hlt
        obtain ⟨ad', y, rfl, hbd, ht, hny, d0, d1, d2⟩ := (HD.out.below (HB.out.mono hD)).at_ hlt
        have hwz0 := HB.out.size
        have e0 : ∀ o, (wr.alloc o).cell? (ad'.add (k * 3)) = some (.string y.id) := fun o => (((Below.refl wr.heap.size wr).alloc (Nat.le_refl _) o).cell (p := ad'.add (k * 3)) (by rw [block_of_add]; omega)).trans d0
        have e1 : ∀ o, (wr.alloc o).cell? ⟨(ad'.add (k * 3)).block, (ad'.add (k * 3)).off + 1, none⟩ = some (.int .i64 y.lv) := fun o => (((Below.refl wr.heap.size wr).alloc (Nat.le_refl _) o).cell (p := ⟨(ad'.add (k * 3)).block, (ad'.add (k * 3)).off + 1, none⟩) (by show (ad'.add (k * 3)).block < _; rw [block_of_add]; omega)).trans d1
        have e2 : ∀ o, (wr.alloc o).cell? ⟨(ad'.add (k * 3)).block, (ad'.add (k * 3)).off + 2, none⟩ = some (.slice y.A y.n y.c) := fun o => (((Below.refl wr.heap.size wr).alloc (Nat.le_refl _) o).cell (p := ⟨(ad'.add (k * 3)).block, (ad'.add (k * 3)).off + 2, none⟩) (by show (ad'.add (k * 3)).block < _; rw [block_of_add]; omega)).trans d2
        have hxn := HX.out x (List.mem_of_getElem? hs)
        have hyn := HY.out y (List.mem_of_getElem? ht)
        have hwz := HB.out.size
        obtain ⟨W, hW⟩ : ∃ W, W = (wr.alloc (.cells #[.string x.id, .int .i64 x.lv, .slice x.A x.n x.c] 54)).alloc (.cells #[.string y.id, .int .i64 y.lv, .slice y.A y.n y.c] 54) := ⟨_, rfl⟩
        have BW : Below wr.heap.size wr W := by rw [hW]; exact ((Below.refl _ _).alloc (Nat.le_refl _) _).alloc (by simp) _
        have hsW : W.heap.size = wr.heap.size + 1 + 1 := by rw [hW]; simp
        have HC := Lib.hid (HF.out.2 x y BA BD W (HB.out.trans (BW.mono hwz)) (hnx.below (BW.mono (by omega))) (hny.below (BW.mono (by omega))) (by omega) (by omega) (by omega) (by omega))
        have HBW := Lib.hid (HB.out.trans (BW.mono hwz))
        have HTK := Lib.hid (allPairs_take (p := p) hs ht)
        have HNO := Lib.hid fun h => allPairs_no (p := p) hs ht h
        have HWE := Lib.hid hW
        have hkn : (k : Int) < (n : Int) := by omega
        have he := HF.out.1
        unfold Enters at he
        clear hs ht hnx hny BW hW
        go_wp2_with fail
        rw [← HWE.out]
        clear he c0 c1 c2 d0 d1 d2 e0 e1 e2
        refine HC.out.mono ?_
        rintro e w1 ⟨rfl, B1⟩
        have HB1 := Lib.hid (HBW.out.trans (B1.mono (by omega)))
        clear B1 HC HBW HWE
        cases hp : p x y
        · have HV := Lib.hid (HNO.out hp)
          clear hp HNO HTK
          go_wp2
          go_ret
          exact ⟨ret_bool HV.out.symm, HB1.out⟩
        · have HV := Lib.hid (show ((rs.zip ss).take (k + 1)).all (fun q => p q.1 q.2) = true by rw [HTK.out, HT.out, hp]; rfl)
          clear hp HNO HTK
          go_wp2
          go_roundw
          case rel => exact ⟨k + 1, by omega, by go_num, HV, HB1⟩
          case measure => simp [intOf]; omega
      · obtain rfl : k = n := by omega
        have HV : Hid (allPairs p rs ss = true) := Lib.hid (by
          have h := HT.out
          rw [List.take_of_length_le (by rw [List.length_zip, HL1.out, HL2.out]; omega)] at h
          rw [allPairs, h, HL1.out, HL2.out]; simp)
        go_wp2
        go_ret
        exact ⟨ret_bool HV.out.symm, HB.out⟩
  · have hf2 : Hid (allPairs p rs ss = false) := Lib.hid (by rw [allPairs, ha.len, hd.len, decide_eq_false hnm]; rfl)
    have hne : ((n : Int) != (m : Int)) = true := by rw [bne_iff_ne]; omega
    clear hnm ha hd hf
    go_enter Try.func44, Try.ntmps44
    go_wp2
    go_ret
    exact ⟨ret_bool hf2.out.symm, Below.refl _ _⟩
theorem iSameRegions_c (A D : Option Addr) (n m c d BA BD : Nat) (rs ss : List Rg) (w : World) (ha : Regs w BA A n rs) (hd : Regs w BD D m ss) (hA : BA ≤ w.heap.size) (hD : BD ≤ w.heap.size)
    (hx : ∀ x ∈ rs, x.n ≤ 1048576) (hy : ∀ x ∈ ss, x.n ≤ 1048576) (hn : n ≤ 1048576) (hm : m ≤ 1048576) :
    Calls Try.prog 15 #[.slice A n c, .slice D m d] w fun e w' => e = .returned (.bool (allPairs sameB rs ss)) ∧ Below w.heap.size w w' := by
  have HE := Lib.hid (equalFuncR_c 45 #[] sameB A D n m c d BA BD rs ss w ha hd hA hD hx hy hn hm (sameR1_clos w))
  clear ha hd hx hy
  go_enter Try.func15, Try.ntmps15
  go_wp2_with fail
  refine HE.out.mono ?_
  rintro e w1 ⟨rfl, B1⟩
  have HB := Lib.hid B1; clear B1
  go_wp2
  go_ret
  exact ⟨rfl, HB.out⟩
/-- the region x lies at the address p -/
def RgP (w : World) (p : Addr) (x : Rg) : Prop := w.cell? p = some (.string x.id) ∧ w.cell? ⟨p.block, p.off + 1, none⟩ = some (.int .i64 x.lv) ∧ w.cell? ⟨p.block, p.off + 2, none⟩ = some (.slice x.A x.n x.c)
set_option maxHeartbeats 2000000 in
theorem l18Place_c (p q : Addr) (x y : Rg) (BX BY : Nat) (w : World) (hp : RgP w p x) (hq : RgP w q y) (hx : Near w BX x) (hy : Near w BY y) (hn : x.n ≤ 1048576) (hm : y.n ≤ 1048576) :
    Calls Try.prog 42 #[.pointer (some p), .pointer (some q)] w fun e w' => e = .returned (.bool (placeB x y)) ∧ ∃ k, w' = w.drewN k := by
  obtain ⟨p0, p1, p2⟩ := hp
  obtain ⟨q0, q1, q2⟩ := hq
  have HP := Lib.hid (show placeB x y = (eqS x.id y.id && eqL x.near y.near) from rfl)
  have HLX := Lib.hid (Reads.strLen hx)
  have HLY := Lib.hid (Reads.strLen hy)
  have HX := Lib.hid hx
  have HY := Lib.hid hy
  clear hx hy
  simp only [eqS] at HP
  cases hb : (x.id.toList == y.id.toList)
  · have HPP : Hid (placeB x y = false) := Lib.hid (by rw [HP.out, hb]; rfl)
    have hb2 : (!(x.id.toList == y.id.toList)) = true := by rw [hb]; rfl
    clear HP
    go_enter Try.func42, Try.ntmps42
    go_wp2
    go_quiet (fail)
    go_wp2
    go_ret
    exact ⟨ret_bool HPP.out.symm, _, rfl⟩
  · have HPP : Hid (placeB x y = eqL x.near y.near) := Lib.hid (by rw [HP.out, hb]; rfl)
    clear HP
    by_cases hnm : x.n = y.n
    · have hne : ((x.n : Int) != (y.n : Int)) = false := by rw [hnm]; simp
      have HNM := Lib.hid hnm
      clear hnm
      go_enter Try.func42, Try.ntmps42
      go_wp2
      go_quiet (fail)
      clear hne hb
      go_wp2
      go_loopw [5] (fun i wr => ∃ k q : Nat, k ≤ x.n ∧ i = .int .i64 k ∧ Hid ((tl x.near).take k = (tl y.near).take k) ∧ wr = w.drewN q) (fun i _ => x.n - (intOf i).toNat)
      case atStart => exact ⟨0, _, Nat.zero_le _, rfl, Lib.hid (by simp), rfl⟩
      case round =>
        obtain ⟨k, r, hk, rfl, HT, rfl⟩ := hrel
        by_cases hlt : k < x.n
        · obtain ⟨ad, z, hA, _, hzk, hc⟩ := Reads.str HX.out hlt
          obtain ⟨ad', z', hA', _, hyk, hc'⟩ := Reads.str HY.out (show k < y.n by rw [← HNM.out]; exact hlt)
          rw [hA] at p2
          rw [hA'] at q2
          have hkn : (k : Int) < (x.n : Int) := by omega
          have hkm : (k : Int) < (y.n : Int) := by rw [← HNM.out]; omega
          have HZ := Lib.hid hzk; clear hzk
          have HY2 := Lib.hid hyk; clear hyk hA hA'
          by_cases he : z.toList = z'.toList
          · have hb : (z.toList == z'.toList) = true := by simp [he]
            have HE := Lib.hid he; clear he
            go_wp2
            go_quiet (fail)
            go_wp2
            go_roundw
            case rel => exact ⟨k + 1, _, by omega, by go_num, Lib.hid (by rw [tl_take_snoc HZ.out, tl_take_snoc HY2.out, HT.out, HE.out]), rfl⟩
            case measure => simp [intOf]; omega
          · have hb : (z.toList == z'.toList) = false := by simp [he]
            have HN := Lib.hid he; clear he
            go_wp2
            go_quiet (fail)
            go_wp2
            go_ret
            exact ⟨ret_bool (by rw [HPP.out]; exact (eqL_ne HZ.out HY2.out HN.out).symm), _, by rw [World.drewN_drewN]⟩
        · have HE : Hid (placeB x y = true) := Lib.hid (by
            have h := HT.out
            have hkk : k = x.n := by omega
            rw [List.take_of_length_le (by rw [tl_len, HLX.out]; omega), List.take_of_length_le (by rw [tl_len, HLY.out, ← HNM.out]; omega)] at h
            rw [HPP.out]; simp [eqL, h])
          clear HT
          go_wp2
          go_ret
          exact ⟨ret_bool HE.out.symm, _, rfl⟩
    · have hne : ((x.n : Int) != (y.n : Int)) = true := by rw [bne_iff_ne]; omega
      have HV : Hid (placeB x y = false) := Lib.hid (by rw [HPP.out]; exact eqL_len (by rw [HLX.out, HLY.out]; exact hnm))
      clear hnm
      go_enter Try.func42, Try.ntmps42
      go_wp2
      go_quiet (fail)
      go_wp2
      go_ret
      exact ⟨ret_bool HV.out.symm, _, rfl⟩
set_option maxHeartbeats 2000000 in
theorem sSameRegions_c (A D : Option Addr) (n m c d BA BD : Nat) (rs ss : List Rg) (w : World) (ha : Regs w BA A n rs) (hd : Regs w BD D m ss)
    (hx : ∀ x ∈ rs, x.n ≤ 1048576) (hy : ∀ x ∈ ss, x.n ≤ 1048576) (hn : n ≤ 1048576) (hm : m ≤ 1048576) :
    Calls Try.prog 13 #[.slice A n c, .slice D m d] w fun e w' => e = .returned (.bool (allPairs sameB rs ss)) ∧ Below w.heap.size w w' := by
  by_cases hnm : n = m
  · subst hnm
    have HL1 := Lib.hid ha.len
    have HL2 := Lib.hid hd.len
    have HA := Lib.hid ha
    have HD := Lib.hid hd
    have HX := Lib.hid hx
    have HY := Lib.hid hy
    clear ha hd hx hy
    go_enter Try.func13, Try.ntmps13
    go_wp2
    go_loopw [5] (fun i wr => ∃ k q : Nat, k ≤ n ∧ i = .int .i64 k ∧ Hid (((rs.zip ss).take k).all (fun q => sameB q.1 q.2) = true) ∧ wr = w.drewN q) (fun i _ => n - (intOf i).toNat)
    case atStart => exact ⟨0, 0, Nat.zero_le _, rfl, Lib.hid (by simp), rfl⟩
    case round =>
      obtain ⟨k, q, hk, rfl, HT, rfl⟩ := hrel
      by_cases hlt : k < n
      · obtain ⟨ad, x, rfl, _, hs, hnx, c0, c1, c2⟩ := HA.out.at_ hlt
        obtain ⟨ad', y, rfl, _, ht, hny, d0, d1, d2⟩ := HD.out.at_ hlt
        have hxn := HX.out x (List.mem_of_getElem? hs)
        have hyn := HY.out y (List.mem_of_getElem? ht)
        have HPL := Lib.hid fun q => l18Place_c (ad.add (k * 3)) (ad'.add (k * 3)) x y BA BD (w.drewN q) ⟨c0, c1, c2⟩ ⟨d0, d1, d2⟩ hnx hny hxn hyn
        have HTK := Lib.hid (allPairs_take (p := sameB) hs ht)
        have HNO := Lib.hid fun h => allPairs_no (p := sameB) hs ht h
        have HSB := Lib.hid (show sameB x y = (decide (x.lv = y.lv) && placeB x y) from rfl)
        have hkn : (k : Int) < (n : Int) := by omega
        clear hs ht hnx hny
        generalize placeB x y = pb at *
        by_cases hlv : x.lv = y.lv
        · have hlv2 : (x.lv != y.lv) = false := by simp [hlv]
          have HLV := Lib.hid hlv; clear hlv
          cases pb
          · have HV := Lib.hid (HNO.out (by rw [HSB.out]; simp))
            clear HNO HTK
            go_wp2
            go_quiet ((go_at_call 42; exact quiet_add (HPL.out _)))
            go_wp2
            go_ret
            exact ⟨ret_bool HV.out.symm, below_drewN (below_drewN (Below.refl _ _) _) _⟩
          · have HV := Lib.hid (show ((rs.zip ss).take (k + 1)).all (fun q => sameB q.1 q.2) = true by rw [HTK.out, HT.out, HSB.out, HLV.out]; simp)
            clear HNO HTK
            go_wp2
            go_quiet ((go_at_call 42; exact quiet_add (HPL.out _)))
            go_wp2
            go_roundw
            case rel => exact ⟨k + 1, _, by omega, by go_num, HV, rfl⟩
            case measure => simp [intOf]; omega
        · have hlv2 : (x.lv != y.lv) = true := by simp [hlv]
          have HV := Lib.hid (HNO.out (by rw [HSB.out]; simp [hlv]))
          clear HNO HTK hlv HPL
          go_wp2
          go_quiet (fail)
          go_wp2
          go_ret
          exact ⟨ret_bool HV.out.symm, below_drewN (below_drewN (Below.refl _ _) _) _⟩
      · obtain rfl : k = n := by omega
        have HV : Hid (allPairs sameB rs ss = true) := Lib.hid (by
          have h := HT.out
          rw [List.take_of_length_le (by rw [List.length_zip, HL1.out, HL2.out]; omega)] at h
          rw [allPairs, h, HL1.out, HL2.out]; simp)
        go_wp2
        go_ret
        exact ⟨ret_bool HV.out.symm, below_drewN (Below.refl _ _) _⟩
  · have hf2 : Hid (allPairs sameB rs ss = false) := Lib.hid (by rw [allPairs, ha.len, hd.len, decide_eq_false hnm]; rfl)
    have hne : ((n : Int) != (m : Int)) = true := by rw [bne_iff_ne]; omega
    clear hnm ha hd
    go_enter Try.func13, Try.ntmps13
    go_wp2
    go_ret
    exact ⟨ret_bool hf2.out.symm, Below.refl _ _⟩
end Go.Proofs.Ytdhopagmbbflkaa
