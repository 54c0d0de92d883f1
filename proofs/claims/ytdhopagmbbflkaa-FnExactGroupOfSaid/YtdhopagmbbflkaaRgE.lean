/- Equal lists of texts, equal places, SameRegions by both. -/
import Derived.Test.YtdhopagmbbflkaaRgD
import Derived.Shelf.Abstract
namespace Go.Proofs.Ytdhopagmbbflkaa
open Go.ChangeShapes Go.WideShapes Go.ChangeAt Go.RowKit
set_option linter.unusedVariables false

def tl (l : List ByteArray) : List (List UInt8) := l.map ByteArray.toList
def eqL (l m : List ByteArray) : Bool := decide (tl l = tl m)
def eqS (a b : ByteArray) : Bool := a.toList == b.toList
theorem tl_len (l : List ByteArray) : (tl l).length = l.length := by simp [tl]
theorem tl_take_snoc {l : List ByteArray} {k : Nat} {s : ByteArray} (h : l[k]? = some s) : (tl l).take (k + 1) = (tl l).take k ++ [s.toList] := by
  rw [List.take_add_one]; simp [tl, h]
theorem eqL_ne {l m : List ByteArray} {k : Nat} {a b : ByteArray} (h : l[k]? = some a) (h' : m[k]? = some b) (hne : a.toList ≠ b.toList) : eqL l m = false := by
  simp only [eqL, decide_eq_false_iff_not]
  intro e
  have h1 : (tl l)[k]? = some a.toList := by simp [tl, h]
  have h2 : (tl m)[k]? = some b.toList := by simp [tl, h']
  rw [e, h2] at h1
  injection h1 with h1
  exact hne h1.symm
theorem eqL_len {l m : List ByteArray} (h : l.length ≠ m.length) : eqL l m = false := by
  simp only [eqL, decide_eq_false_iff_not]
  intro e
  have := congrArg List.length e
  rw [tl_len, tl_len] at this; exact h this
set_option maxHeartbeats 2000000 in
theorem equalStr_c (A D : Option Addr) (n m c d BA BD : Nat) (l l' : List ByteArray) (w : World) (ha : Reads w BA 1 A n (strs l)) (hd : Reads w BD 1 D m (strs l')) (hn : n ≤ 1152921504606846976) (hm : m ≤ 1152921504606846976) :
    Calls Try.prog 71 #[.slice A n c, .slice D m d] w fun e w' => e = .returned (.bool (eqL l l')) ∧ Below w.heap.size w w' := by
  by_cases hnm : n = m
  · subst hnm
    have HLA := Lib.hid ha.strLen
    have HLD := Lib.hid hd.strLen
    go_enter Try.func71, Try.ntmps71
    go_wp2
    go_loopw [13] (fun i wr => ∃ k q : Nat, k ≤ n ∧ i = .int .i64 k ∧ Hid ((tl l).take k = (tl l').take k) ∧ wr = w.drewN q) (fun i _ => n - (intOf i).toNat)
    case atStart => exact ⟨0, 0, Nat.zero_le _, rfl, Lib.hid (by simp), rfl⟩
    case round =>
      obtain ⟨k, q, hk, rfl, HT, rfl⟩ := hrel
      by_cases hlt : k < n
      · obtain ⟨ad, z, rfl, _, hzk, hc⟩ := ha.str hlt
        obtain ⟨ad', y, rfl, _, hyk, hc'⟩ := hd.str hlt
        have hkn : (k : Int) < (n : Int) := by omega
        have HZ := Lib.hid hzk; clear hzk
        have HY := Lib.hid hyk; clear hyk
        clear ha hd
        by_cases he : z.toList = y.toList
        · have hb : (z.toList == y.toList) = true := by simp [he]
          have HE := Lib.hid he; clear he
          go_wp2
          go_quiet (fail)
          go_wp2
          go_roundw
          case rel => exact ⟨k + 1, _, by omega, by go_num, Lib.hid (by rw [tl_take_snoc HZ.out, tl_take_snoc HY.out, HT.out, HE.out]), rfl⟩
          case measure => simp [intOf]; omega
        · have hb : (z.toList == y.toList) = false := by simp [he]
          have HN := Lib.hid he; clear he
          go_wp2
          go_quiet (fail)
          go_wp2
          go_ret
          exact ⟨ret_bool (eqL_ne HZ.out HY.out HN.out).symm, below_drewN (below_drewN (Below.refl _ _) _) _⟩
      · have HE : Hid (eqL l l' = true) := Lib.hid (by
          have h := HT.out
          rw [List.take_of_length_le (by rw [tl_len, HLA.out]; omega), List.take_of_length_le (by rw [tl_len, HLD.out]; omega)] at h
          simp [eqL, h])
        clear HT ha hd
        go_wp2
        go_ret
        exact ⟨ret_bool HE.out.symm, below_drewN (Below.refl _ _) _⟩
  · have hf := Lib.hid (eqL_len (l := l) (m := l') (by rw [ha.strLen, hd.strLen]; exact hnm))
    have hne : ((n : Int) != (m : Int)) = true := by rw [bne_iff_ne]; omega
    clear hnm ha hd
    go_enter Try.func71, Try.ntmps71
    go_wp2
    go_ret
    exact ⟨ret_bool hf.out.symm, Below.refl _ _⟩
def placeB (x y : Rg) : Bool := eqS x.id y.id && eqL x.near y.near
set_option maxHeartbeats 2000000 in
theorem sameMap_c (x y : Rg) (BX BY : Nat) (w : World) (hx : Near w BX x) (hy : Near w BY y) (hX : BX ≤ w.heap.size) (hY : BY ≤ w.heap.size) (hn : x.n ≤ 1152921504606846976) (hm : y.n ≤ 1152921504606846976) :
    Calls Try.prog 46 #[x.val, y.val] w fun e w' => e = .returned (.bool (placeB x y)) ∧ Below w.heap.size w w' := by
  have HE := Lib.hid fun W (hW : Below w.heap.size w W) => equalStr_c x.A y.A x.n y.n x.c y.c BX BY x.near y.near W (Reads.below hx (hW.mono hX)) (Reads.below hy (hW.mono hY)) hn hm
  have HP := Lib.hid (show placeB x y = (eqS x.id y.id && eqL x.near y.near) from rfl)
  generalize placeB x y = pb at *
  generalize eqL x.near y.near = el at *
  clear hx hy
  obtain ⟨id, lv, A, n, c, near⟩ := x
  obtain ⟨id', lv', A', n', c', near'⟩ := y
  simp only [Rg.val, eqS] at *
  cases hb : (id.toList == id'.toList)
  · have HPP : Hid (pb = false) := Lib.hid (by rw [HP.out, hb]; rfl)
    clear HP HE
    go_enter Try.func46, Try.ntmps46
    go_wp2
    go_ret
    exact ⟨ret_bool HPP.out.symm, by go_grown⟩
  · have HPP : Hid (pb = el) := Lib.hid (by rw [HP.out, hb]; rfl)
    clear HP
    go_enter Try.func46, Try.ntmps46
    go_wp2_with fail
    refine (HE.out _ (((Below.refl _ _).alloc (Nat.le_refl _) _).alloc (by simp) _)).mono ?_
    rintro e w1 ⟨rfl, B1⟩
    have HB := Lib.hid B1; clear B1
    go_wp2
    go_ret
    exact ⟨ret_bool HPP.out.symm, (((Below.refl _ _).alloc (Nat.le_refl _) _).alloc (by simp) _).trans (HB.out.mono (by simp; omega))⟩
def sameB (x y : Rg) : Bool := decide (x.lv = y.lv) && placeB x y
set_option maxHeartbeats 2000000 in
theorem sameR1_c (x y : Rg) (BX BY : Nat) (w : World) (hx : Near w BX x) (hy : Near w BY y) (hX : BX ≤ w.heap.size) (hY : BY ≤ w.heap.size) (hn : x.n ≤ 1152921504606846976) (hm : y.n ≤ 1152921504606846976) :
    Calls Try.prog 45 #[x.val, y.val] w fun e w' => e = .returned (.bool (sameB x y)) ∧ Below w.heap.size w w' := by
  have HE := Lib.hid fun W (hW : Below w.heap.size w W) => sameMap_c x y BX BY W (hx.below (hW.mono hX)) (hy.below (hW.mono hY)) (by have := hW.size; omega) (by have := hW.size; omega) hn hm
  have HP := Lib.hid (show sameB x y = (decide (x.lv = y.lv) && placeB x y) from rfl)
  generalize sameB x y = pb at *
  generalize placeB x y = el at *
  clear hx hy
  obtain ⟨id, lv, A, n, c, near⟩ := x
  obtain ⟨id', lv', A', n', c', near'⟩ := y
  simp only [Rg.val] at *
  by_cases hb : lv = lv'
  · have HPP : Hid (pb = el) := Lib.hid (by rw [HP.out]; simp [hb])
    have hb2 : (lv == lv') = true := by simp [hb]
    clear HP hb
    go_enter Try.func45, Try.ntmps45
    go_wp2_with fail
    refine (HE.out _ (((Below.refl _ _).alloc (Nat.le_refl _) _).alloc (by simp) _)).mono ?_
    rintro e w1 ⟨rfl, B1⟩
    have HB := Lib.hid B1; clear B1
    go_wp2
    go_ret
    exact ⟨ret_bool HPP.out.symm, (((Below.refl _ _).alloc (Nat.le_refl _) _).alloc (by simp) _).trans (HB.out.mono (by simp; omega))⟩
  · have HPP : Hid (pb = false) := Lib.hid (by rw [HP.out]; simp [hb])
    have hb2 : (lv == lv') = false := by simp [hb]
    clear HP hb HE
    go_enter Try.func45, Try.ntmps45
    go_wp2
    go_ret
    exact ⟨ret_bool HPP.out.symm, by go_grown⟩
/-- the first k pairs pass p -/
def allPairs (p : Rg → Rg → Bool) (rs ss : List Rg) : Bool := decide (rs.length = ss.length) && (rs.zip ss).all fun q => p q.1 q.2
theorem allPairs_take {p : Rg → Rg → Bool} {rs ss : List Rg} {k : Nat} {x y : Rg} (h1 : rs[k]? = some x) (h2 : ss[k]? = some y) : ((rs.zip ss).take (k + 1)).all (fun q => p q.1 q.2) = (((rs.zip ss).take k).all (fun q => p q.1 q.2) && p x y) := by
  rw [List.take_add_one, List.all_append]
  have : (rs.zip ss)[k]? = some (x, y) := by rw [List.getElem?_zip_eq_some]; exact ⟨h1, h2⟩
  rw [this]; simp
theorem allPairs_no {p : Rg → Rg → Bool} {rs ss : List Rg} {k : Nat} {x y : Rg} (h1 : rs[k]? = some x) (h2 : ss[k]? = some y) (h : p x y = false) : allPairs p rs ss = false := by
  have : (rs.zip ss)[k]? = some (x, y) := by rw [List.getElem?_zip_eq_some]; exact ⟨h1, h2⟩
  have e : ((rs.zip ss).all fun q => p q.1 q.2) = false := List.all_eq_false.2 ⟨(x, y), List.mem_of_getElem? this, by simp [h]⟩
  rw [allPairs, e, Bool.and_false]
def ClosRR (g : Nat) (lb : Array Value) (p : Rg → Rg → Bool) (w : World) : Prop :=
  Enters Try.prog g ∧ ∀ (x y : Rg) (BX BY : Nat) (W : World), Below w.heap.size w W → Near W BX x → Near W BY y → BX ≤ W.heap.size → BY ≤ W.heap.size → x.n ≤ 1152921504606846976 → y.n ≤ 1152921504606846976 → Calls Try.prog g (#[x.val, y.val] ++ lb) W fun e W' => e = .returned (.bool (p x y)) ∧ Below W.heap.size W W'
theorem sameR1_clos (w : World) : ClosRR 45 #[] sameB w :=
  ⟨enters_of Try.func45 (by kernel_rfl) rfl, fun x y BX BY W _ hx hy hX hY hn hm => sameR1_c x y BX BY W hx hy hX hY hn hm⟩
theorem sameMap_clos (w : World) : ClosRR 46 #[] placeB w :=
  ⟨enters_of Try.func46 (by kernel_rfl) rfl, fun x y BX BY W _ hx hy hX hY hn hm => sameMap_c x y BX BY W hx hy hX hY hn hm⟩
end Go.Proofs.Ytdhopagmbbflkaa
