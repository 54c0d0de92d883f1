/- XRgE, XRgF, XRgG, XRgH: merged texts. -/
import Derived.Test.YteklfeeamjgplaaGreatDoorRgX
import Derived.Shelf.Abstract
/- Equal lists of texts, equal places, SameRegions by both. -/
namespace Go.Proofs.YteklfeeamjgplaaGreatDoor
open Go.ChangeShapes Go.WideShapes Go.ChangeAt Go.RowKit
set_option linter.unusedVariables false

def tl (l : List ByteArray) : List (List UInt8) := l.map ByteArray.toList
def eqL (l m : List ByteArray) : Bool := decide (tl l = tl m)
def eqS (a b : ByteArray) : Bool := a.toList == b.toList
theorem tl_len (l : List ByteArray) : (tl l).length = l.length := by simp [tl]
theorem tl_take_snoc {l : List ByteArray} {k : Nat} {s : ByteArray} (h : l[k]? = some s) : (tl l).take (k + 1) = (tl l).take k ++ [s.toList] := by
  rw [List.take_add_one]; simp [tl, h]
theorem eqL_ne {l m : List ByteArray} {k : Nat} {a b : ByteArray} (h : l[k]? = some a) (h' : m[k]? = some b) (hne : a.toList ≠ b.toList) : eqL l m = false := by
  simp only [eqL, decide_eq_false_iff_not]
  intro e
  have h1 : (tl l)[k]? = some a.toList := by simp [tl, h]
  have h2 : (tl m)[k]? = some b.toList := by simp [tl, h']
  rw [e, h2] at h1
  injection h1 with h1
  exact hne h1.symm
theorem eqL_len {l m : List ByteArray} (h : l.length ≠ m.length) : eqL l m = false := by
  simp only [eqL, decide_eq_false_iff_not]
  intro e
  have := congrArg List.length e
  rw [tl_len, tl_len] at this; exact h this
set_option maxHeartbeats 2000000 in
theorem equalStr_c (A D : Option Addr) (n m c d BA BD : Nat) (l l' : List ByteArray) (w : World) (ha : Reads w BA 1 A n (strs l)) (hd : Reads w BD 1 D m (strs l')) (hn : n ≤ 1152921504606846976) (hm : m ≤ 1152921504606846976) :
    Calls Tryz.prog 58 #[.slice A n c, .slice D m d] w fun e w' => e = .returned (.bool (eqL l l')) ∧ Below w.heap.size w w' := by
  by_cases hnm : n = m
  · subst hnm
    have HLA := Lib.hid ha.strLen
    have HLD := Lib.hid hd.strLen
    go_enter Tryz.func58, Tryz.ntmps58
    go_wp2
    go_loopw [13] (fun i wr => ∃ k q : Nat, k ≤ n ∧ i = .int .i64 k ∧ Hid ((tl l).take k = (tl l').take k) ∧ wr = w.drewN q) (fun i _ => n - (intOf i).toNat)
    case atStart => exact ⟨0, 0, Nat.zero_le _, rfl, Lib.hid (by simp), rfl⟩
    case round =>
      obtain ⟨k, q, hk, rfl, HT, rfl⟩ := hrel
      by_cases hlt : k < n
      · obtain ⟨ad, z, rfl, _, hzk, hc⟩ := ha.str hlt
        obtain ⟨ad', y, rfl, _, hyk, hc'⟩ := hd.str hlt
        have hkn : (k : Int) < (n : Int) := by omega
        have HZ := Lib.hid hzk; clear hzk
        have HY := Lib.hid hyk; clear hyk
        clear ha hd
        by_cases he : z.toList = y.toList
        · have hb : (z.toList == y.toList) = true := by simp [he]
          have HE := Lib.hid he; clear he
          go_wp2
          go_quiet (fail)
          go_wp2
          go_roundw
          case rel => exact ⟨k + 1, _, by omega, by go_num, Lib.hid (by rw [tl_take_snoc HZ.out, tl_take_snoc HY.out, HT.out, HE.out]), rfl⟩
          case measure => simp [intOf]; omega
        · have hb : (z.toList == y.toList) = false := by simp [he]
          have HN := Lib.hid he; clear he
          go_wp2
          go_quiet (fail)
          go_wp2
          go_ret
          exact ⟨ret_bool (eqL_ne HZ.out HY.out HN.out).symm, below_drewN (below_drewN (Below.refl _ _) _) _⟩
      · have HE : Hid (eqL l l' = true) := Lib.hid (by
          have h := HT.out
          rw [List.take_of_length_le (by rw [tl_len, HLA.out]; omega), List.take_of_length_le (by rw [tl_len, HLD.out]; omega)] at h
          simp [eqL, h])
        clear HT ha hd
        go_wp2
        go_ret
        exact ⟨ret_bool HE.out.symm, below_drewN (Below.refl _ _) _⟩
  · have hf := Lib.hid (eqL_len (l := l) (m := l') (by rw [ha.strLen, hd.strLen]; exact hnm))
    have hne : ((n : Int) != (m : Int)) = true := by rw [bne_iff_ne]; omega
    clear hnm ha hd
    go_enter Tryz.func58, Tryz.ntmps58
    go_wp2
    go_ret
    exact ⟨ret_bool hf.out.symm, Below.refl _ _⟩
def placeB (x y : Rg) : Bool := eqS x.id y.id && eqL x.near y.near
set_option maxHeartbeats 2000000 in
theorem sameMap_c (x y : Rg) (BX BY : Nat) (w : World) (hx : Near w BX x) (hy : Near w BY y) (hX : BX ≤ w.heap.size) (hY : BY ≤ w.heap.size) (hn : x.n ≤ 1152921504606846976) (hm : y.n ≤ 1152921504606846976) :
    Calls Tryz.prog 33 #[x.val, y.val] w fun e w' => e = .returned (.bool (placeB x y)) ∧ Below w.heap.size w w' := by
  have HE := Lib.hid fun W (hW : Below w.heap.size w W) => equalStr_c x.A y.A x.n y.n x.c y.c BX BY x.near y.near W (Reads.below hx (hW.mono hX)) (Reads.below hy (hW.mono hY)) hn hm
  have HP := Lib.hid (show placeB x y = (eqS x.id y.id && eqL x.near y.near) from rfl)
  generalize placeB x y = pb at *
  generalize eqL x.near y.near = el at *
  clear hx hy
  obtain ⟨id, lv, A, n, c, near⟩ := x
  obtain ⟨id', lv', A', n', c', near'⟩ := y
  simp only [Rg.val, eqS] at *
  cases hb : (id.toList == id'.toList)
  · have HPP : Hid (pb = false) := Lib.hid (by rw [HP.out, hb]; rfl)
    clear HP HE
    go_enter Tryz.func33, Tryz.ntmps33
    go_wp2
    go_ret
    exact ⟨ret_bool HPP.out.symm, by go_grown⟩
  · have HPP : Hid (pb = el) := Lib.hid (by rw [HP.out, hb]; rfl)
    clear HP
    go_enter Tryz.func33, Tryz.ntmps33
    go_wp2_with fail
    refine (HE.out _ (((Below.refl _ _).alloc (Nat.le_refl _) _).alloc (by simp) _)).mono ?_
    rintro e w1 ⟨rfl, B1⟩
    have HB := Lib.hid B1; clear B1
    go_wp2
    go_ret
    exact ⟨ret_bool HPP.out.symm, (((Below.refl _ _).alloc (Nat.le_refl _) _).alloc (by simp) _).trans (HB.out.mono (by simp; omega))⟩
def sameB (x y : Rg) : Bool := decide (x.lv = y.lv) && placeB x y
set_option maxHeartbeats 2000000 in
theorem sameR1_c (x y : Rg) (BX BY : Nat) (w : World) (hx : Near w BX x) (hy : Near w BY y) (hX : BX ≤ w.heap.size) (hY : BY ≤ w.heap.size) (hn : x.n ≤ 1152921504606846976) (hm : y.n ≤ 1152921504606846976) :
    Calls Tryz.prog 32 #[x.val, y.val] w fun e w' => e = .returned (.bool (sameB x y)) ∧ Below w.heap.size w w' := by
  have HE := Lib.hid fun W (hW : Below w.heap.size w W) => sameMap_c x y BX BY W (hx.below (hW.mono hX)) (hy.below (hW.mono hY)) (by have := hW.size; omega) (by have := hW.size; omega) hn hm
  have HP := Lib.hid (show sameB x y = (decide (x.lv = y.lv) && placeB x y) from rfl)
  generalize sameB x y = pb at *
  generalize placeB x y = el at *
  clear hx hy
  obtain ⟨id, lv, A, n, c, near⟩ := x
  obtain ⟨id', lv', A', n', c', near'⟩ := y
  simp only [Rg.val] at *
  by_cases hb : lv = lv'
  · have HPP : Hid (pb = el) := Lib.hid (by rw [HP.out]; simp [hb])
    have hb2 : (lv == lv') = true := by simp [hb]
    clear HP hb
    go_enter Tryz.func32, Tryz.ntmps32
    go_wp2_with fail
    refine (HE.out _ (((Below.refl _ _).alloc (Nat.le_refl _) _).alloc (by simp) _)).mono ?_
    rintro e w1 ⟨rfl, B1⟩
    have HB := Lib.hid B1; clear B1
    go_wp2
    go_ret
    exact ⟨ret_bool HPP.out.symm, (((Below.refl _ _).alloc (Nat.le_refl _) _).alloc (by simp) _).trans (HB.out.mono (by simp; omega))⟩
  · have HPP : Hid (pb = false) := Lib.hid (by rw [HP.out]; simp [hb])
    have hb2 : (lv == lv') = false := by simp [hb]
    clear HP hb HE
    go_enter Tryz.func32, Tryz.ntmps32
    go_wp2
    go_ret
    exact ⟨ret_bool HPP.out.symm, by go_grown⟩
/-- the first k pairs pass p -/
def allPairs (p : Rg → Rg → Bool) (rs ss : List Rg) : Bool := decide (rs.length = ss.length) && (rs.zip ss).all fun q => p q.1 q.2
theorem allPairs_take {p : Rg → Rg → Bool} {rs ss : List Rg} {k : Nat} {x y : Rg} (h1 : rs[k]? = some x) (h2 : ss[k]? = some y) : ((rs.zip ss).take (k + 1)).all (fun q => p q.1 q.2) = (((rs.zip ss).take k).all (fun q => p q.1 q.2) && p x y) := by
  rw [List.take_add_one, List.all_append]
  have : (rs.zip ss)[k]? = some (x, y) := by rw [List.getElem?_zip_eq_some]; exact ⟨h1, h2⟩
  rw [this]; simp
theorem allPairs_no {p : Rg → Rg → Bool} {rs ss : List Rg} {k : Nat} {x y : Rg} (h1 : rs[k]? = some x) (h2 : ss[k]? = some y) (h : p x y = false) : allPairs p rs ss = false := by
  have : (rs.zip ss)[k]? = some (x, y) := by rw [List.getElem?_zip_eq_some]; exact ⟨h1, h2⟩
  have e : ((rs.zip ss).all fun q => p q.1 q.2) = false := List.all_eq_false.2 ⟨(x, y), List.mem_of_getElem? this, by simp [h]⟩
  rw [allPairs, e, Bool.and_false]
def ClosRR (g : Nat) (lb : Array Value) (p : Rg → Rg → Bool) (w : World) : Prop :=
  Enters Tryz.prog g ∧ ∀ (x y : Rg) (BX BY : Nat) (W : World), Below w.heap.size w W → Near W BX x → Near W BY y → BX ≤ W.heap.size → BY ≤ W.heap.size → x.n ≤ 1152921504606846976 → y.n ≤ 1152921504606846976 → Calls Tryz.prog g (#[x.val, y.val] ++ lb) W fun e W' => e = .returned (.bool (p x y)) ∧ Below W.heap.size W W'
theorem sameR1_clos (w : World) : ClosRR 32 #[] sameB w :=
  ⟨enters_of Tryz.func32 (by kernel_rfl) rfl, fun x y BX BY W _ hx hy hX hY hn hm => sameR1_c x y BX BY W hx hy hX hY hn hm⟩
theorem sameMap_clos (w : World) : ClosRR 33 #[] placeB w :=
  ⟨enters_of Tryz.func33 (by kernel_rfl) rfl, fun x y BX BY W _ hx hy hX hY hn hm => sameMap_c x y BX BY W hx hy hX hY hn hm⟩
end Go.Proofs.YteklfeeamjgplaaGreatDoor

/- SameRegions by both. -/
namespace Go.Proofs.YteklfeeamjgplaaGreatDoor
open Go.ChangeShapes Go.WideShapes Go.ChangeAt Go.RowKit
set_option linter.unusedVariables false

set_option maxHeartbeats 4000000 in
theorem equalFuncR_c (g : Nat) (lb : Array Value) (p : Rg → Rg → Bool) (A D : Option Addr) (n m c d BA BD : Nat) (rs ss : List Rg) (w : World) (ha : Regs w BA A n rs) (hd : Regs w BD D m ss) (hA : BA ≤ w.heap.size) (hD : BD ≤ w.heap.size)
    (hx : ∀ x ∈ rs, x.n ≤ 1048576) (hy : ∀ x ∈ ss, x.n ≤ 1048576) (hn : n ≤ 1048576) (hm : m ≤ 1048576) (hf : ClosRR g lb p w) :
    Calls Tryz.prog 31 #[.slice A n c, .slice D m d, .func (.func g) #[] lb] w fun e w' => e = .returned (.bool (allPairs p rs ss)) ∧ Below w.heap.size w w' := by
  by_cases hnm : n = m
  · subst hnm
    have HL1 := Lib.hid ha.len
    have HL2 := Lib.hid hd.len
    have HA := Lib.hid ha
    have HD := Lib.hid hd
    have HX := Lib.hid hx
    have HY := Lib.hid hy
    have HF := Lib.hid hf
    clear ha hd hx hy hf
    go_enter Tryz.func31, Tryz.ntmps31
    go_wp2
    go_loopw [17] (fun i wr => ∃ k : Nat, k ≤ n ∧ i = .int .i64 k ∧ Hid (((rs.zip ss).take k).all (fun q => p q.1 q.2) = true) ∧ Hid (Below w.heap.size w wr)) (fun i _ => n - (intOf i).toNat)
    case atStart => exact ⟨0, Nat.zero_le _, rfl, Lib.hid (by simp), Lib.hid (Below.refl _ _)⟩
    case round =>
      obtain ⟨k, hk, rfl, HT, HB⟩ := hrel
      by_cases hlt : k < n
      · obtain ⟨ad, x, rfl, _, hs, hnx, c0, c1, c2⟩ := (HA.out.below (HB.out.mono hA)).at_ hlt
        obtain ⟨ad', y, rfl, hbd, ht, hny, d0, d1, d2⟩ := (HD.out.below (HB.out.mono hD)).at_ hlt
        have hwz0 := HB.out.size
        have e0 : ∀ o, (wr.alloc o).cell? (ad'.add (k * 3)) = some (.string y.id) := fun o => (((Below.refl wr.heap.size wr).alloc (Nat.le_refl _) o).cell (p := ad'.add (k * 3)) (by rw [block_of_add]; omega)).trans d0
        have e1 : ∀ o, (wr.alloc o).cell? ⟨(ad'.add (k * 3)).block, (ad'.add (k * 3)).off + 1, none⟩ = some (.int .i64 y.lv) := fun o => (((Below.refl wr.heap.size wr).alloc (Nat.le_refl _) o).cell (p := ⟨(ad'.add (k * 3)).block, (ad'.add (k * 3)).off + 1, none⟩) (by show (ad'.add (k * 3)).block < _; rw [block_of_add]; omega)).trans d1
        have e2 : ∀ o, (wr.alloc o).cell? ⟨(ad'.add (k * 3)).block, (ad'.add (k * 3)).off + 2, none⟩ = some (.slice y.A y.n y.c) := fun o => (((Below.refl wr.heap.size wr).alloc (Nat.le_refl _) o).cell (p := ⟨(ad'.add (k * 3)).block, (ad'.add (k * 3)).off + 2, none⟩) (by show (ad'.add (k * 3)).block < _; rw [block_of_add]; omega)).trans d2
        have hxn := HX.out x (List.mem_of_getElem? hs)
        have hyn := HY.out y (List.mem_of_getElem? ht)
        have hwz := HB.out.size
        obtain ⟨W, hW⟩ : ∃ W, W = (wr.alloc (.cells #[.string x.id, .int .i64 x.lv, .slice x.A x.n x.c] 37)).alloc (.cells #[.string y.id, .int .i64 y.lv, .slice y.A y.n y.c] 37) := ⟨_, rfl⟩
        have BW : Below wr.heap.size wr W := by rw [hW]; exact ((Below.refl _ _).alloc (Nat.le_refl _) _).alloc (by simp) _
        have hsW : W.heap.size = wr.heap.size + 1 + 1 := by rw [hW]; simp
        have HC := Lib.hid (HF.out.2 x y BA BD W (HB.out.trans (BW.mono hwz)) (hnx.below (BW.mono (by omega))) (hny.below (BW.mono (by omega))) (by omega) (by omega) (by omega) (by omega))
        have HBW := Lib.hid (HB.out.trans (BW.mono hwz))
        have HTK := Lib.hid (allPairs_take (p := p) hs ht)
        have HNO := Lib.hid fun h => allPairs_no (p := p) hs ht h
        have HWE := Lib.hid hW
        have hkn : (k : Int) < (n : Int) := by omega
        have he := HF.out.1
        unfold Enters at he
        clear hs ht hnx hny BW hW
        go_wp2_with fail
        rw [← HWE.out]
        clear he c0 c1 c2 d0 d1 d2 e0 e1 e2
        refine HC.out.mono ?_
        rintro e w1 ⟨rfl, B1⟩
        have HB1 := Lib.hid (HBW.out.trans (B1.mono (by omega)))
        clear B1 HC HBW HWE
        cases hp : p x y
        · have HV := Lib.hid (HNO.out hp)
          clear hp HNO HTK
          go_wp2
          go_ret
          exact ⟨ret_bool HV.out.symm, HB1.out⟩
        · have HV := Lib.hid (show ((rs.zip ss).take (k + 1)).all (fun q => p q.1 q.2) = true by rw [HTK.out, HT.out, hp]; rfl)
          clear hp HNO HTK
          go_wp2
          go_roundw
          case rel => exact ⟨k + 1, by omega, by go_num, HV, HB1⟩
          case measure => simp [intOf]; omega
      · obtain rfl : k = n := by omega
        have HV : Hid (allPairs p rs ss = true) := Lib.hid (by
          have h := HT.out
          rw [List.take_of_length_le (by rw [List.length_zip, HL1.out, HL2.out]; omega)] at h
          rw [allPairs, h, HL1.out, HL2.out]; simp)
        go_wp2
        go_ret
        exact ⟨ret_bool HV.out.symm, HB.out⟩
  · have hf2 : Hid (allPairs p rs ss = false) := Lib.hid (by rw [allPairs, ha.len, hd.len, decide_eq_false hnm]; rfl)
    have hne : ((n : Int) != (m : Int)) = true := by rw [bne_iff_ne]; omega
    clear hnm ha hd hf
    go_enter Tryz.func31, Tryz.ntmps31
    go_wp2
    go_ret
    exact ⟨ret_bool hf2.out.symm, Below.refl _ _⟩
theorem iSameRegions_c (A D : Option Addr) (n m c d BA BD : Nat) (rs ss : List Rg) (w : World) (ha : Regs w BA A n rs) (hd : Regs w BD D m ss) (hA : BA ≤ w.heap.size) (hD : BD ≤ w.heap.size)
    (hx : ∀ x ∈ rs, x.n ≤ 1048576) (hy : ∀ x ∈ ss, x.n ≤ 1048576) (hn : n ≤ 1048576) (hm : m ≤ 1048576) :
    Calls Tryz.prog 13 #[.slice A n c, .slice D m d] w fun e w' => e = .returned (.bool (allPairs sameB rs ss)) ∧ Below w.heap.size w w' := by
  have HE := Lib.hid (equalFuncR_c 32 #[] sameB A D n m c d BA BD rs ss w ha hd hA hD hx hy hn hm (sameR1_clos w))
  clear ha hd hx hy
  go_enter Tryz.func13, Tryz.ntmps13
  go_wp2_with fail
  refine HE.out.mono ?_
  rintro e w1 ⟨rfl, B1⟩
  have HB := Lib.hid B1; clear B1
  go_wp2
  go_ret
  exact ⟨rfl, HB.out⟩
/-- the region x lies at the address p -/
def RgP (w : World) (p : Addr) (x : Rg) : Prop := w.cell? p = some (.string x.id) ∧ w.cell? ⟨p.block, p.off + 1, none⟩ = some (.int .i64 x.lv) ∧ w.cell? ⟨p.block, p.off + 2, none⟩ = some (.slice x.A x.n x.c)
set_option maxHeartbeats 2000000 in
theorem l18Place_c (p q : Addr) (x y : Rg) (BX BY : Nat) (w : World) (hp : RgP w p x) (hq : RgP w q y) (hx : Near w BX x) (hy : Near w BY y) (hn : x.n ≤ 1048576) (hm : y.n ≤ 1048576) :
    Calls Tryz.prog 37 #[.pointer (some p), .pointer (some q)] w fun e w' => e = .returned (.bool (placeB x y)) ∧ ∃ k, w' = w.drewN k := by
  obtain ⟨p0, p1, p2⟩ := hp
  obtain ⟨q0, q1, q2⟩ := hq
  have HP := Lib.hid (show placeB x y = (eqS x.id y.id && eqL x.near y.near) from rfl)
  have HLX := Lib.hid (Reads.strLen hx)
  have HLY := Lib.hid (Reads.strLen hy)
  have HX := Lib.hid hx
  have HY := Lib.hid hy
  clear hx hy
  simp only [eqS] at HP
  cases hb : (x.id.toList == y.id.toList)
  · have HPP : Hid (placeB x y = false) := Lib.hid (by rw [HP.out, hb]; rfl)
    have hb2 : (!(x.id.toList == y.id.toList)) = true := by rw [hb]; rfl
    clear HP
    go_enter Tryz.func37, Tryz.ntmps37
    go_wp2
    go_quiet (fail)
    go_wp2
    go_ret
    exact ⟨ret_bool HPP.out.symm, _, rfl⟩
  · have HPP : Hid (placeB x y = eqL x.near y.near) := Lib.hid (by rw [HP.out, hb]; rfl)
    clear HP
    by_cases hnm : x.n = y.n
    · have hne : ((x.n : Int) != (y.n : Int)) = false := by rw [hnm]; simp
      have HNM := Lib.hid hnm
      clear hnm
      go_enter Tryz.func37, Tryz.ntmps37
      go_wp2
      go_quiet (fail)
      clear hne hb
      go_wp2
      go_loopw [5] (fun i wr => ∃ k q : Nat, k ≤ x.n ∧ i = .int .i64 k ∧ Hid ((tl x.near).take k = (tl y.near).take k) ∧ wr = w.drewN q) (fun i _ => x.n - (intOf i).toNat)
      case atStart => exact ⟨0, _, Nat.zero_le _, rfl, Lib.hid (by simp), rfl⟩
      case round =>
        obtain ⟨k, r, hk, rfl, HT, rfl⟩ := hrel
        by_cases hlt : k < x.n
        · obtain ⟨ad, z, hA, _, hzk, hc⟩ := Reads.str HX.out hlt
          obtain ⟨ad', z', hA', _, hyk, hc'⟩ := Reads.str HY.out (show k < y.n by rw [← HNM.out]; exact hlt)
          rw [hA] at p2
          rw [hA'] at q2
          have hkn : (k : Int) < (x.n : Int) := by omega
          have hkm : (k : Int) < (y.n : Int) := by rw [← HNM.out]; omega
          have HZ := Lib.hid hzk; clear hzk
          have HY2 := Lib.hid hyk; clear hyk hA hA'
          by_cases he : z.toList = z'.toList
          · have hb : (z.toList == z'.toList) = true := by simp [he]
            have HE := Lib.hid he; clear he
            go_wp2
            go_quiet (fail)
            go_wp2
            go_roundw
            case rel => exact ⟨k + 1, _, by omega, by go_num, Lib.hid (by rw [tl_take_snoc HZ.out, tl_take_snoc HY2.out, HT.out, HE.out]), rfl⟩
            case measure => simp [intOf]; omega
          · have hb : (z.toList == z'.toList) = false := by simp [he]
            have HN := Lib.hid he; clear he
            go_wp2
            go_quiet (fail)
            go_wp2
            go_ret
            exact ⟨ret_bool (by rw [HPP.out]; exact (eqL_ne HZ.out HY2.out HN.out).symm), _, by rw [World.drewN_drewN]⟩
        · have HE : Hid (placeB x y = true) := Lib.hid (by
            have h := HT.out
            have hkk : k = x.n := by omega
            rw [List.take_of_length_le (by rw [tl_len, HLX.out]; omega), List.take_of_length_le (by rw [tl_len, HLY.out, ← HNM.out]; omega)] at h
            rw [HPP.out]; simp [eqL, h])
          clear HT
          go_wp2
          go_ret
          exact ⟨ret_bool HE.out.symm, _, rfl⟩
    · have hne : ((x.n : Int) != (y.n : Int)) = true := by rw [bne_iff_ne]; omega
      have HV : Hid (placeB x y = false) := Lib.hid (by rw [HPP.out]; exact eqL_len (by rw [HLX.out, HLY.out]; exact hnm))
      clear hnm
      go_enter Tryz.func37, Tryz.ntmps37
      go_wp2
      go_quiet (fail)
      go_wp2
      go_ret
      exact ⟨ret_bool HV.out.symm, _, rfl⟩
set_option maxHeartbeats 2000000 in
theorem sSameRegions_c (A D : Option Addr) (n m c d BA BD : Nat) (rs ss : List Rg) (w : World) (ha : Regs w BA A n rs) (hd : Regs w BD D m ss)
    (hx : ∀ x ∈ rs, x.n ≤ 1048576) (hy : ∀ x ∈ ss, x.n ≤ 1048576) (hn : n ≤ 1048576) (hm : m ≤ 1048576) :
    Calls Tryz.prog 17 #[.slice A n c, .slice D m d] w fun e w' => e = .returned (.bool (allPairs sameB rs ss)) ∧ Below w.heap.size w w' := by
  by_cases hnm : n = m
  · subst hnm
    have HL1 := Lib.hid ha.len
    have HL2 := Lib.hid hd.len
    have HA := Lib.hid ha
    have HD := Lib.hid hd
    have HX := Lib.hid hx
    have HY := Lib.hid hy
    clear ha hd hx hy
    go_enter Tryz.func17, Tryz.ntmps17
    go_wp2
    go_loopw [5] (fun i wr => ∃ k q : Nat, k ≤ n ∧ i = .int .i64 k ∧ Hid (((rs.zip ss).take k).all (fun q => sameB q.1 q.2) = true) ∧ wr = w.drewN q) (fun i _ => n - (intOf i).toNat)
    case atStart => exact ⟨0, 0, Nat.zero_le _, rfl, Lib.hid (by simp), rfl⟩
    case round =>
      obtain ⟨k, q, hk, rfl, HT, rfl⟩ := hrel
      by_cases hlt : k < n
      · obtain ⟨ad, x, rfl, _, hs, hnx, c0, c1, c2⟩ := HA.out.at_ hlt
        obtain ⟨ad', y, rfl, _, ht, hny, d0, d1, d2⟩ := HD.out.at_ hlt
        have hxn := HX.out x (List.mem_of_getElem? hs)
        have hyn := HY.out y (List.mem_of_getElem? ht)
        have HPL := Lib.hid fun q => l18Place_c (ad.add (k * 3)) (ad'.add (k * 3)) x y BA BD (w.drewN q) ⟨c0, c1, c2⟩ ⟨d0, d1, d2⟩ hnx hny hxn hyn
        have HTK := Lib.hid (allPairs_take (p := sameB) hs ht)
        have HNO := Lib.hid fun h => allPairs_no (p := sameB) hs ht h
        have HSB := Lib.hid (show sameB x y = (decide (x.lv = y.lv) && placeB x y) from rfl)
        have hkn : (k : Int) < (n : Int) := by omega
        clear hs ht hnx hny
        generalize placeB x y = pb at *
        by_cases hlv : x.lv = y.lv
        · have hlv2 : (x.lv != y.lv) = false := by simp [hlv]
          have HLV := Lib.hid hlv; clear hlv
          cases pb
          · have HV := Lib.hid (HNO.out (by rw [HSB.out]; simp))
            clear HNO HTK
            go_wp2
            go_quiet ((go_at_call 37; exact quiet_add (HPL.out _)))
            go_wp2
            go_ret
            exact ⟨ret_bool HV.out.symm, below_drewN (below_drewN (Below.refl _ _) _) _⟩
          · have HV := Lib.hid (show ((rs.zip ss).take (k + 1)).all (fun q => sameB q.1 q.2) = true by rw [HTK.out, HT.out, HSB.out, HLV.out]; simp)
            clear HNO HTK
            go_wp2
            go_quiet ((go_at_call 37; exact quiet_add (HPL.out _)))
            go_wp2
            go_roundw
            case rel => exact ⟨k + 1, _, by omega, by go_num, HV, rfl⟩
            case measure => simp [intOf]; omega
        · have hlv2 : (x.lv != y.lv) = true := by simp [hlv]
          have HV := Lib.hid (HNO.out (by rw [HSB.out]; simp [hlv]))
          clear HNO HTK hlv HPL
          go_wp2
          go_quiet (fail)
          go_wp2
          go_ret
          exact ⟨ret_bool HV.out.symm, below_drewN (below_drewN (Below.refl _ _) _) _⟩
      · obtain rfl : k = n := by omega
        have HV : Hid (allPairs sameB rs ss = true) := Lib.hid (by
          have h := HT.out
          rw [List.take_of_length_le (by rw [List.length_zip, HL1.out, HL2.out]; omega)] at h
          rw [allPairs, h, HL1.out, HL2.out]; simp)
        go_wp2
        go_ret
        exact ⟨ret_bool HV.out.symm, below_drewN (Below.refl _ _) _⟩
  · have hf2 : Hid (allPairs sameB rs ss = false) := Lib.hid (by rw [allPairs, ha.len, hd.len, decide_eq_false hnm]; rfl)
    have hne : ((n : Int) != (m : Int)) = true := by rw [bne_iff_ne]; omega
    clear hnm ha hd
    go_enter Tryz.func17, Tryz.ntmps17
    go_wp2
    go_ret
    exact ⟨ret_bool hf2.out.symm, Below.refl _ _⟩
end Go.Proofs.YteklfeeamjgplaaGreatDoor

/- Values that hang on the data alone; SameRegions in that form. -/
namespace Go.Proofs.YteklfeeamjgplaaGreatDoor
open Go.ChangeShapes Go.WideShapes Go.ChangeAt Go.RowKit
set_option linter.unusedVariables false

abbrev Dat := ByteArray × Int × List ByteArray
theorem dat_mem {ps rs : List Rg} (e : ps.map Rg.dat = rs.map Rg.dat) {x : Rg} (h : x ∈ ps) : ∃ y, y ∈ rs ∧ y.dat = x.dat := by
  have : x.dat ∈ rs.map Rg.dat := by rw [← e]; exact List.mem_map_of_mem h
  obtain ⟨y, hy, e⟩ := List.mem_map.1 this
  exact ⟨y, hy, e⟩
theorem own_fit {w w' : World} {lo hi n B n' M : Nat} {v : Value} {A' : Option Addr} {ps rs : List Rg} (h : OwnRegs w lo hi v n ps) (hr : Regs w' B A' n' rs) (e : ps.map Rg.dat = rs.map Rg.dat) (hx : ∀ x ∈ rs, x.n ≤ M) : ∀ x ∈ ps, x.n ≤ M := by
  intro x hxp
  obtain ⟨y, hy, e2⟩ := dat_mem e hxp
  have h1 : x.near.length = x.n := (Own.reads (h.inn x hxp)).strLen
  have h2 : y.near.length = y.n := Reads.strLen (hr.near y hy)
  have h3 : y.near = x.near := congrArg (fun q => q.2.2) e2
  have h4 := hx y hy
  rw [h3] at h2
  omega
def sameD (a b : Dat) : Bool := decide (a.2.1 = b.2.1) && (eqS a.1 b.1 && eqL a.2.2 b.2.2)
def placeD (a b : Dat) : Bool := eqS a.1 b.1 && eqL a.2.2 b.2.2
def pairsD (p : Dat → Dat → Bool) (l m : List Dat) : Bool := decide (l.length = m.length) && (l.zip m).all fun q => p q.1 q.2
theorem allPairs_dat (p : Dat → Dat → Bool) (rs ss : List Rg) : allPairs (fun x y => p x.dat y.dat) rs ss = pairsD p (rs.map Rg.dat) (ss.map Rg.dat) := by
  unfold allPairs pairsD
  rw [List.length_map, List.length_map, List.zip_map, List.all_map]
  rfl
def sameRegionsV (l m : List Dat) : Bool := pairsD sameD l m
theorem sameV (rs ss : List Rg) : allPairs sameB rs ss = sameRegionsV (rs.map Rg.dat) (ss.map Rg.dat) := allPairs_dat sameD rs ss
end Go.Proofs.YteklfeeamjgplaaGreatDoor

/- Names: IsName and l01Name. -/
namespace Go.Proofs.YteklfeeamjgplaaGreatDoor
open Go.ChangeShapes Go.WideShapes Go.ChangeAt Go.RowKit
set_option linter.unusedVariables false

theorem toList_len (s : ByteArray) : s.toList.length = s.size := by rw [ByteArray.toList_eq]; rfl
def byteAt (s : ByteArray) (i : Nat) : Int := ((s[i]?).getD 0).toNat
theorem byteAt_bd (s : ByteArray) (i : Nat) : 0 ≤ byteAt s i ∧ byteAt s i ≤ 255 := by
  unfold byteAt; have := ((s[i]?).getD 0).toNat_lt; omega
theorem byteAt_eq {s : ByteArray} {k : Nat} (h : k < s.size) : (((s[k]'h).toNat : Nat) : Int) = byteAt s k := by rw [byteAt, getElem?_pos s k h]; rfl
def smallU (b : Int) : Bool := decide (97 ≤ b ∧ b ≤ 122)
def digitU (b : Int) : Bool := decide (48 ≤ b ∧ b ≤ 57)
def okU (b : Int) : Bool := smallU b || digitU b
def okN (s : ByteArray) (k : Nat) : Bool := (List.range k).all fun i => okU (byteAt s i)
theorem okN_succ (s : ByteArray) (k : Nat) : okN s (k + 1) = (okN s k && okU (byteAt s k)) := by simp [okN, List.range_succ]
theorem okN_no {s : ByteArray} {k n : Nat} (hk : k < n) (h : okU (byteAt s k) = false) : okN s n = false := by
  unfold okN
  exact List.all_eq_false.2 ⟨k, List.mem_range.2 hk, by simp [h]⟩
def nameV (s : ByteArray) : Bool := decide (1 ≤ s.size ∧ s.size ≤ 10) && smallU (byteAt s 0) && okN s s.size
set_option maxHeartbeats 1000000 in
theorem onlyNameBytes_c (s : ByteArray) (w : World) (hs : s.size ≤ 1152921504606846976) :
    Calls Tryz.prog 67 #[.string s] w fun e w' => e = .returned (.bool (okN s s.size)) ∧ w = w' := by
  go_enter Tryz.func67, Tryz.ntmps67
  go_wp2
  go_loop [7] (fun i => ∃ k : Nat, k ≤ s.size ∧ i = .int .i64 k ∧ Hid (okN s k = true)) (fun i => s.size - (intOf i).toNat)
  case atStart => exact ⟨0, Nat.zero_le _, rfl, Lib.hid rfl⟩
  case round =>
    obtain ⟨k, hk, rfl, HT⟩ := hrel
    by_cases hlt : k < s.size
    · have hkn : (k : Int) < (s.size : Int) := by omega
      have HBE := Lib.hid (byteAt_eq hlt)
      go_wp2
      all_goals have hbe := HBE.out
      all_goals first
        | (exfalso; omega)
        | (go_ret; exact ⟨ret_bool (okN_no hlt (by simp only [okU, smallU, digitU, Bool.or_eq_false_iff, decide_eq_false_iff_not]; omega)).symm, rfl⟩)
        | (go_round
           case rel => exact ⟨k + 1, by omega, by go_num, Lib.hid (by rw [okN_succ, HT.out]; simp only [okU, smallU, digitU, Bool.true_and, Bool.or_eq_true, decide_eq_true_eq]; omega)⟩
           case measure => simp [intOf]; omega)
    · obtain rfl : k = s.size := by omega
      go_wp2
      go_ret
      exact ⟨ret_bool HT.out.symm, rfl⟩
set_option maxHeartbeats 1000000 in
theorem iIsName_c (s : ByteArray) (w : World) :
    Calls Tryz.prog 44 #[.string s] w fun e w' => e = .returned (.bool (nameV s)) ∧ w = w' := by
  have HN := Lib.hid (show nameV s = (decide (1 ≤ s.size ∧ s.size ≤ 10) && smallU (byteAt s 0) && okN s s.size) from rfl)
  by_cases h1 : 1 ≤ s.size ∧ s.size ≤ 10
  · have h0 : 0 < s.size := by omega
    have HBE := Lib.hid (byteAt_eq h0)
    have HL := Lib.hid (onlyNameBytes_c s w (by omega))
    by_cases hsm : 97 ≤ byteAt s 0 ∧ byteAt s 0 ≤ 122
    · have HV : Hid (nameV s = okN s s.size) := Lib.hid (by rw [HN.out, decide_eq_true h1, smallU, decide_eq_true hsm]; simp)
      clear HN
      go_enter Tryz.func44, Tryz.ntmps44
      go_wp2_with fail
      all_goals have hbe := HBE.out
      all_goals first
        | (exfalso; omega)
        | skip
      all_goals
        refine HL.out.mono ?_
        rintro e w' ⟨rfl, rfl⟩
        clear hbe
        go_wp2
        go_ret
        exact ⟨ret_bool HV.out.symm, rfl⟩
    · have HV : Hid (nameV s = false) := Lib.hid (by rw [HN.out, smallU, decide_eq_false hsm]; simp)
      clear HN
      go_enter Tryz.func44, Tryz.ntmps44
      go_wp2_with fail
      all_goals have hbe := HBE.out
      all_goals first
        | (exfalso; omega)
        | (go_ret; exact ⟨ret_bool HV.out.symm, rfl⟩)
  · have HV : Hid (nameV s = false) := Lib.hid (by rw [HN.out, decide_eq_false h1]; simp)
    clear HN
    go_enter Tryz.func44, Tryz.ntmps44
    go_wp2
    all_goals first
      | (exfalso; omega)
      | (go_ret; exact ⟨ret_bool HV.out.symm, rfl⟩)
theorem l01Small_c (z : Int) (w : World) : Calls Tryz.prog 80 #[.int .u8 z] w fun e w' => e = .returned (.bool (smallU z)) ∧ w = w' := by
  go_enter Tryz.func80, Tryz.ntmps80
  go_wp2
  all_goals (go_ret; exact ⟨ret_bool (by simp [smallU]; omega), rfl⟩)
theorem l01Digit_c (z : Int) (w : World) : Calls Tryz.prog 81 #[.int .u8 z] w fun e w' => e = .returned (.bool (digitU z)) ∧ w = w' := by
  go_enter Tryz.func81, Tryz.ntmps81
  go_wp2
  all_goals (go_ret; exact ⟨ret_bool (by simp [digitU]; omega), rfl⟩)
set_option maxHeartbeats 1000000 in
theorem l01Name_c (s : ByteArray) (w : World) :
    Calls Tryz.prog 61 #[.string s] w fun e w' => e = .returned (.bool (nameV s)) ∧ w = w' := by
  have HN := Lib.hid (show nameV s = (decide (1 ≤ s.size ∧ s.size ≤ 10) && smallU (byteAt s 0) && okN s s.size) from rfl)
  have hemp : (s.toList == []) = decide (s.size = 0) := by
    have e : s.toList.length = s.size := toList_len s
    rw [Bool.eq_iff_iff, beq_iff_eq, decide_eq_true_iff]
    constructor
    · intro h; rw [h] at e; simpa using e.symm
    · intro h; rw [h] at e; exact List.eq_nil_of_length_eq_zero e
  by_cases h1 : 1 ≤ s.size ∧ s.size ≤ 10
  · have h0 : 0 < s.size := by omega
    have h0' : (0 : Int) < (s.size : Int) := by omega
    rw [decide_eq_false (by omega)] at hemp
    have HBE := Lib.hid fun k (h : k < s.size) => byteAt_eq h
    cases hsm : smallU (byteAt s 0)
    · have HV : Hid (nameV s = false) := Lib.hid (by rw [HN.out, hsm]; simp)
      have HSM := Lib.hid hsm
      clear HN
      go_enter Tryz.func61, Tryz.ntmps61
      go_wp2_with fail
      refine (l01Small_c _ _).mono ?_
      rintro e w' ⟨rfl, rfl⟩
      rw [HBE.out 0 h0, HSM.out]
      go_wp2
      go_ret
      exact ⟨ret_bool HV.out.symm, rfl⟩
    · have HV : Hid (nameV s = okN s s.size) := Lib.hid (by rw [HN.out, decide_eq_true h1, hsm]; simp)
      have HSM := Lib.hid hsm
      clear HN
      go_enter Tryz.func61, Tryz.ntmps61
      go_wp2_with fail
      refine (l01Small_c _ _).mono ?_
      rintro e w' ⟨rfl, rfl⟩
      rw [HBE.out 0 h0, HSM.out]
      clear hemp
      go_wp2
      go_loop [3] (fun i => ∃ k : Nat, k ≤ s.size ∧ i = .int .i64 k ∧ Hid (okN s k = true)) (fun i => s.size - (intOf i).toNat)
      case atStart => exact ⟨0, Nat.zero_le _, rfl, Lib.hid rfl⟩
      case round =>
        obtain ⟨k, hk, rfl, HT⟩ := hrel
        by_cases hlt : k < s.size
        · have hkn : (k : Int) < (s.size : Int) := by omega
          go_wp2_with fail
          refine (l01Small_c _ _).mono ?_
          rintro e w' ⟨rfl, rfl⟩
          rw [HBE.out k hlt]
          cases h2 : smallU (byteAt s k)
          · go_wp2_with fail
            refine (l01Digit_c _ _).mono ?_
            rintro e w' ⟨rfl, rfl⟩
            rw [HBE.out k hlt]
            cases h3 : digitU (byteAt s k)
            · have HNO := Lib.hid (okN_no hlt (show okU (byteAt s k) = false by rw [okU, h2, h3]; rfl))
              clear h2 h3
              go_wp2
              go_ret
              exact ⟨ret_bool (by rw [HV.out, HNO.out]), rfl⟩
            · have HYES : Hid (okN s (k + 1) = true) := Lib.hid (by rw [okN_succ, HT.out, okU, h2, h3]; rfl)
              clear h2 h3
              go_wp2
              go_round
              case rel => exact ⟨k + 1, by omega, by go_num, HYES⟩
              case measure => simp [intOf]; omega
          · have HYES : Hid (okN s (k + 1) = true) := Lib.hid (by rw [okN_succ, HT.out, okU, h2]; rfl)
            clear h2
            go_wp2
            go_round
            case rel => exact ⟨k + 1, by omega, by go_num, HYES⟩
            case measure => simp [intOf]; omega
        · obtain rfl : k = s.size := by omega
          go_wp2
          go_ret
          exact ⟨ret_bool (by rw [HV.out, HT.out]), rfl⟩
  · have HV : Hid (nameV s = false) := Lib.hid (by rw [HN.out, decide_eq_false h1]; simp)
    clear HN
    by_cases h2 : s.size = 0
    · rw [decide_eq_true h2] at hemp
      go_enter Tryz.func61, Tryz.ntmps61
      go_wp2
      go_ret
      exact ⟨ret_bool HV.out.symm, rfl⟩
    · rw [decide_eq_false h2] at hemp
      have h3 : (10 : Int) < (s.size : Int) := by omega
      go_enter Tryz.func61, Tryz.ntmps61
      go_wp2
      go_ret
      exact ⟨ret_bool HV.out.symm, rfl⟩
end Go.Proofs.YteklfeeamjgplaaGreatDoor
