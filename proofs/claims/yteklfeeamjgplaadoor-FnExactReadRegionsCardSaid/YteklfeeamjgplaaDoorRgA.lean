/- Lists of texts: the laws' own helpers (copying, comparing, measuring). -/
import Derived.Test.YteklfeeamjgplaaDoorOwn
import Derived.Test.YteklfeeamjgplaaDoorTa
import Derived.Test.YteklfeeamjgplaaDoorOpen
import Derived.Deep.LoopGhost
import Derived.Deep.RegionHeld3
import Derived.Deep.Fields
import Derived.Deep.DeepCutAuto
namespace Go.Proofs.YteklfeeamjgplaaDoor
open Go.ChangeShapes Go.WideShapes Go.ChangeAt Go.RowKit
set_option linter.unusedVariables false

def strs (l : List ByteArray) : List Value := l.map Value.string
theorem strs_len (l : List ByteArray) : (strs l).length = l.length := by simp [strs]
theorem strs_app (a b : List ByteArray) : strs (a ++ b) = strs a ++ strs b := by simp [strs]
theorem strs_get {l : List ByteArray} {k : Nat} {u : Value} (h : (strs l)[k]? = some u) : ∃ s, l[k]? = some s ∧ u = .string s := by
  simp only [strs, List.getElem?_map, Option.map_eq_some_iff] at h
  obtain ⟨z, hz, rfl⟩ := h
  exact ⟨z, hz, rfl⟩
theorem Reads.strLen {w : World} {B n : Nat} {A : Option Addr} {l : List ByteArray} (h : Reads w B 1 A n (strs l)) : l.length = n := by
  have := h.1
  simpa [strs] using this
theorem Reads.str {w : World} {B n k : Nat} {A : Option Addr} {l : List ByteArray} (h : Reads w B 1 A n (strs l)) (hk : k < n) :
    ∃ ad s, A = some ad ∧ ad.block < B ∧ l[k]? = some s ∧ w.cell? (ad.add k) = some (.string s) := by
  obtain ⟨ad, u, h1, h2, h3, h4⟩ := h.at_ hk
  obtain ⟨z, hz, rfl⟩ := strs_get h3
  exact ⟨ad, z, h1, h2, hz, h4⟩
theorem info_str : (Tryd.prog.info? 9).map (fun i => (i.zero, i.size, i.bytes)) = some (some (.string ⟨#[]⟩), 1, 16) := by kernel_rfl
theorem made_size (z : Array Value) (m : Nat) : (madeCells z m).size = m := by simp [madeCells]
theorem list_of_cells {C : Array Value} {l : List Value} (hs : C.size = l.length) (h : ∀ (i : Nat) (u : Value), l[i]? = some u → C[i]? = some u) : C.toList = l := by
  apply List.ext_getElem?
  intro i
  rw [Array.getElem?_toList]
  by_cases hi : i < l.length
  · rw [List.getElem?_eq_getElem hi]; exact h i _ (List.getElem?_eq_getElem hi)
  · rw [List.getElem?_eq_none (by omega), Array.getElem?_eq_none (by omega)]
set_option maxHeartbeats 1000000 in
theorem toStringS_own (A : Option Addr) (n c BA : Nat) (l : List ByteArray) (w : World) (ha : Reads w BA 1 A n (strs l)) (hB : BA ≤ w.heap.size) (hn : n ≤ 1048576) :
    Calls Tryd.prog 36 #[.slice A n c] w fun e w' => ∃ D d, e = .returned (.slice D n d) ∧ Own w' w.heap.size w'.heap.size 9 1 (.slice D n d) n (strs l) ∧ Below w.heap.size w w' := by
  obtain ⟨i0, hi, hz, hs, hb⟩ := info_parts info_str
  have hmk : ∀ W : World, (Instr.makeSlice 34 (.int .i64 (n : Int)) (.int .i64 (n : Int))).run Tryd.prog W = .ok (.slice (some ⟨W.heap.size, 0, none⟩) n n) (W.alloc (.cells (madeCells #[.string ⟨#[]⟩] n) 9)) := fun W => by
    have h := run_make_rowN (P := Tryd.prog) 34 9 i0 _ Tryd.underlying34 hi hz .i64 .i64 n n (Nat.le_refl _) (by rw [hb]; omega) (by omega) W
    rw [hs, Nat.mul_one] at h
    exact h
  have hlen := Lib.hid ha.strLen
  have HA := Lib.hid ha
  clear hi hz hs hb i0 ha
  go_enter Tryd.func36, Tryd.ntmps36
  go_wp2
  clear hmk
  go_loopw [4] (fun i wr => ∃ (k : Nat) (C : Array Value), k ≤ n ∧ i = .int .i64 k ∧ Hid (Blk wr w.heap.size 9 C) ∧ Hid (C.size = n) ∧ Hid (∀ j s, j < k → l[j]? = some s → C[j]? = some (.string s)) ∧ Hid (Below w.heap.size w wr)) (fun i _ => n - (intOf i).toNat)
  case atStart => exact ⟨0, _, Nat.zero_le _, rfl, Lib.hid (Blk.new _ _ _), Lib.hid (made_size _ _), Lib.hid (fun j s h => by omega), Lib.hid ((Below.refl _ _).alloc (Nat.le_refl _) _)⟩
  case round =>
    obtain ⟨k, C, hk, rfl, HB, HC, HE, HW⟩ := hrel
    by_cases hlt : k < n
    · obtain ⟨ad, s, rfl, hbl, hsk, hc⟩ := (HA.out.below (HW.out.mono hB)).str hlt
      have hcell : wr.cell? ⟨w.heap.size, k, none⟩ = some (C[k]'(by rw [HC.out]; exact hlt)) := (HB.out.cell k).trans (Array.getElem?_eq_getElem _)
      have hfr : wr.frozen? ⟨w.heap.size, k, none⟩ = false := HB.out.frozen k
      have HZ := Lib.hid hsk
      clear hsk
      go_wp2
      go_roundw
      case rel =>
        refine ⟨k + 1, C.setIfInBounds k (.string s), by omega, by go_num, Lib.hid (HB.out.set_ k _), Lib.hid (by simp [HC.out]), Lib.hid (fun j t hj ht => ?_), Lib.hid (HW.out.setCell (Nat.le_refl _) _)⟩
        by_cases e : j = k
        · subst e
          rw [HZ.out] at ht; injection ht with ht; subst ht
          rw [Array.getElem?_setIfInBounds, if_pos rfl, if_pos (by rw [HC.out]; exact hlt)]
        · rw [Array.getElem?_setIfInBounds, if_neg (by omega)]
          exact HE.out j t (by omega) ht
      case measure => simp [intOf]; omega
    · obtain rfl : k = n := by omega
      go_wp2
      go_ret
      have hC : C.toList = strs l := list_of_cells (by rw [HC.out, strs_len, hlen.out]) (fun i u hu => by
        obtain ⟨s, h1, rfl⟩ := strs_get hu
        exact HE.out i s (by have := (List.getElem?_eq_some_iff.1 h1).1; rw [hlen.out] at this; exact this) h1)
      have ho := Own.of_blk (lo := w.heap.size) (hi := wr.heap.size) (n := k) (s := 1) HB.out (by rw [HC.out]; omega) (Nat.le_refl _) HB.out.lt (by simp [maxLen]; omega)
      rw [hC] at ho
      exact ⟨_, k, rfl, ho, HW.out⟩
set_option maxHeartbeats 1000000 in
theorem eqStringS_same (A D : Option Addr) (n m c d BA BD : Nat) (l : List ByteArray) (w : World) (ha : Reads w BA 1 A n (strs l)) (hd : Reads w BD 1 D m (strs l)) (hn : n ≤ 1152921504606846976) :
    Calls Tryd.prog 44 #[.slice A n c, .slice D m d] w fun e w' => e = .returned (.bool true) ∧ Below w.heap.size w w' := by
  obtain rfl : n = m := by rw [← ha.strLen, hd.strLen]
  go_enter Tryd.func44, Tryd.ntmps44
  go_wp2
  go_loopw [5] (fun i wr => ∃ k q : Nat, k ≤ n ∧ i = .int .i64 k ∧ wr = w.drewN q) (fun i _ => n - (intOf i).toNat)
  case atStart => exact ⟨0, 0, Nat.zero_le _, rfl, rfl⟩
  case round =>
    obtain ⟨k, q, hk, rfl, rfl⟩ := hrel
    by_cases hlt : k < n
    · obtain ⟨ad, z, rfl, _, hz, hc⟩ := ha.str hlt
      obtain ⟨ad2, z2, rfl, _, hz2, hc2⟩ := hd.str hlt
      obtain rfl : z = z2 := by rw [hz] at hz2; injection hz2
      have hkn : (k : Int) < (n : Int) := by omega
      clear ha hd hz hz2
      go_wp2
      go_quiet (fail)
      go_wp2
      go_roundw
      case rel => exact ⟨k + 1, _, by omega, by go_num, rfl⟩
      case measure => simp [intOf]; omega
    · clear ha hd
      go_wp2
      go_ret
      exact ⟨rfl, below_drewN (Below.refl _ _) _⟩
def SzPost (left : Int) (n : Nat) (w : World) (e : Ending) (w' : World) : Prop := ∃ v : Int, e = .returned (.int .i64 v) ∧ (v = -1 ∨ (0 ≤ v ∧ v + n ≤ left)) ∧ Below w.heap.size w w'
set_option maxHeartbeats 1000000 in
theorem szStringS_c (A : Option Addr) (n c BA : Nat) (l : List ByteArray) (left : Int) (w : World) (ha : Reads w BA 1 A n (strs l)) (hsz : ∀ s ∈ l, s.size ≤ maxLen) (h0 : 0 ≤ left) (h1 : left ≤ 1048576) (hn : n ≤ 9223372036854775807) :
    Calls Tryd.prog 30 #[.slice A n c, .int .i64 left] w (SzPost left n w) := by
  by_cases h : left < (n : Int)
  · clear ha
    go_enter Tryd.func30, Tryd.ntmps30
    go_wp2
    go_ret
    exact ⟨-1, rfl, .inl rfl, Below.refl _ _⟩
  · have HSZ := Lib.hid hsz
    have HA := Lib.hid ha
    clear hsz ha
    go_enter Tryd.func30, Tryd.ntmps30
    go_wp2
    go_loopw [1, 5] (fun v i wr => ∃ (k : Nat) (z : Int), k ≤ n ∧ i = .int .i64 k ∧ v = .int .i64 z ∧ 0 ≤ z ∧ z + n ≤ left ∧ wr = w) (fun _ i _ => n - (intOf i).toNat)
    case atStart => exact ⟨0, left - n, Nat.zero_le _, rfl, rfl, by omega, by omega, rfl⟩
    case round =>
      obtain ⟨k, z, hk, rfl, rfl, hz0, hz1, rfl⟩ := hrel
      by_cases hlt : k < n
      · obtain ⟨ad, s, rfl, _, hs, hc⟩ := HA.out.str hlt
        have hb := HSZ.out s (List.mem_of_getElem? hs)
        simp only [maxLen] at hb
        clear hs
        by_cases hq : z < (s.size : Int)
        · go_wp2
          go_ret
          exact ⟨-1, rfl, .inl rfl, Below.refl _ _⟩
        · go_wp2
          go_roundw
          case rel => exact ⟨k + 1, _, by omega, by go_num, rfl, by omega, by omega, by first | rfl | trivial⟩
          case measure => simp [intOf]; omega
      · go_wp2
        go_ret
        exact ⟨z, rfl, .inr ⟨hz0, hz1⟩, Below.refl _ _⟩
end Go.Proofs.YteklfeeamjgplaaDoor
