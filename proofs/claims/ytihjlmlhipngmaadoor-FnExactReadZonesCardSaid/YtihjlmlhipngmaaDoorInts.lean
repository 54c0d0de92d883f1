/- The laws' own helpers over lists of integers: copying, comparing, marking, holding. -/
import Derived.Test.YtihjlmlhipngmaaDoorMem
import Derived.Deep.LoopGhost
namespace Go.Proofs.YtihjlmlhipngmaaDoor
open Go.ChangeShapes Go.WideShapes Go.ChangeAt Go.RowKit
set_option linter.unusedVariables false

def ints (zs : List Int) : List Value := zs.map (Value.int .i64)

theorem drop_cons_get' {α : Type} {l : List α} {k : Nat} {z : α} (h : l[k]? = some z) : l = l.take k ++ z :: l.drop (k + 1) := by
  obtain ⟨hk, rfl⟩ := List.getElem?_eq_some_iff.1 h
  rw [← List.drop_eq_getElem_cons hk, List.take_append_drop]
theorem ints_len (zs : List Int) : (ints zs).length = zs.length := by simp [ints]
theorem ints_app (a b : List Int) : ints (a ++ b) = ints a ++ ints b := by simp [ints]
theorem ints_get {zs : List Int} {k : Nat} {u : Value} (h : (ints zs)[k]? = some u) : ∃ z, zs[k]? = some z ∧ u = .int .i64 z := by
  simp only [ints, List.getElem?_map, Option.map_eq_some_iff] at h
  obtain ⟨z, hz, rfl⟩ := h
  exact ⟨z, hz, rfl⟩

theorem Reads.len {w : World} {B n : Nat} {A : Option Addr} {zs : List Int} (h : Reads w B 1 A n (ints zs)) : zs.length = n := by
  have := h.1
  simpa [ints] using this

theorem Reads.int {w : World} {B n k : Nat} {A : Option Addr} {zs : List Int} (h : Reads w B 1 A n (ints zs)) (hk : k < n) :
    ∃ ad z, A = some ad ∧ ad.block < B ∧ zs[k]? = some z ∧ w.cell? (ad.add k) = some (.int .i64 z) := by
  obtain ⟨ad, u, h1, h2, h3, h4⟩ := h.at_ hk
  obtain ⟨z, hz, rfl⟩ := ints_get h3
  exact ⟨ad, z, h1, h2, hz, h4⟩

def eqB (zs ys : List Int) : Bool := decide (zs = ys)
theorem eqB_self (zs : List Int) : eqB zs zs = true := by simp [eqB]
theorem take_snoc_int {zs : List Int} {k : Nat} {z : Int} (h : zs[k]? = some z) : zs.take (k + 1) = zs.take k ++ [z] := by
  rw [List.take_add_one, h]; rfl
theorem eqB_ne {zs ys : List Int} {k : Nat} {z y : Int} (h : zs[k]? = some z) (h' : ys[k]? = some y) (hne : z ≠ y) : eqB zs ys = false := by
  simp only [eqB, decide_eq_false_iff_not]
  rintro rfl
  rw [h] at h'
  exact hne (by injection h')

set_option maxHeartbeats 400000 in
theorem eqInt64S_c (A D : Option Addr) (n m c d BA BD : Nat) (zs ys : List Int) (w : World) (ha : Reads w BA 1 A n (ints zs)) (hd : Reads w BD 1 D m (ints ys)) (hn : n ≤ 1152921504606846976) (hm : m ≤ 1152921504606846976) :
    Calls Tryd.prog 7 #[.slice A n c, .slice D m d] w fun e w' => e = .returned (.bool (eqB zs ys)) ∧ Below w.heap.size w w' := by
  by_cases hnm : n = m
  · subst hnm
    go_enter Tryd.func7, Tryd.ntmps7
    go_wp2
    go_loopw [5] (fun i wr => ∃ k q : Nat, k ≤ n ∧ i = .int .i64 k ∧ Hid (zs.take k = ys.take k) ∧ wr = w.drewN q) (fun i _ => n - (intOf i).toNat)
    case atStart => exact ⟨0, 0, Nat.zero_le _, rfl, Lib.hid (by simp), rfl⟩
    case round =>
      obtain ⟨k, q, hk, rfl, HT, rfl⟩ := hrel
      by_cases hlt : k < n
      · obtain ⟨ad, z, rfl, _, hzk, hc⟩ := ha.int hlt
        obtain ⟨ad', y, rfl, _, hyk, hc'⟩ := hd.int hlt
        have HZ := Lib.hid hzk; clear hzk
        have HY := Lib.hid hyk; clear hyk
        clear ha hd
        by_cases he : z = y
        · subst he
          go_wp2
          go_quiet (fail)
          go_wp2
          go_roundw
          case rel => exact ⟨k + 1, _, by omega, by go_num, Lib.hid (by rw [take_snoc_int HZ.out, take_snoc_int HY.out, HT.out]), rfl⟩
          case measure => simp [intOf]; omega
        · have hne : (z != y) = true := by simp [he]
          have HN := Lib.hid he; clear he
          go_wp2
          go_quiet (fail)
          go_wp2
          go_ret
          exact ⟨ret_bool (eqB_ne HZ.out HY.out HN.out).symm, below_drewN (below_drewN (Below.refl _ _) _) _⟩
      · have hl := ha.len
        have hl' := hd.len
        have HE : Hid (zs = ys) := Lib.hid (by have := HT.out; rwa [List.take_of_length_le (by omega), List.take_of_length_le (by omega)] at this)
        clear hl hl' HT ha hd
        go_wp2
        go_ret
        exact ⟨ret_bool (by rw [HE.out, eqB_self]), below_drewN (Below.refl _ _) _⟩
  · have hf : eqB zs ys = false := by
      have hl := ha.len
      have hl' := hd.len
      simp only [eqB, decide_eq_false_iff_not]
      rintro rfl
      omega
    have hne : ((n : Int) != (m : Int)) = true := by rw [bne_iff_ne]; omega
    rw [hf]
    clear hf hnm ha hd
    go_enter Tryd.func7, Tryd.ntmps7
    go_wp2
    go_ret
    exact ⟨rfl, Below.refl _ _⟩

def heldFrom (k : Int) : List Int → Int
  | [] => k
  | z :: r => if z = k then heldFrom (k + 1) r else -1
/-- the marks k, k + 1, .. (n of them) -/
def marks (k : Int) : Nat → List Int
  | 0 => []
  | n + 1 => k :: marks (k + 1) n
theorem marks_length (k : Int) (n : Nat) : (marks k n).length = n := by
  induction n generalizing k with
  | zero => rfl
  | succ n ih => simp [marks, ih]
theorem heldFrom_marks (k : Int) (n : Nat) : heldFrom k (marks k n) = k + n := by
  induction n generalizing k with
  | zero => simp [marks, heldFrom]
  | succ n ih => simp [marks, heldFrom, ih]; omega
theorem marks_get (k : Int) (n i : Nat) (h : i < n) : (marks k n)[i]? = some (k + i) := by
  induction n generalizing k i with
  | zero => omega
  | succ n ih =>
    cases i with
    | zero => simp [marks]
    | succ i => simp only [marks, List.getElem?_cons_succ]; rw [ih (k + 1) i (by omega)]; congr 1; omega

set_option maxHeartbeats 400000 in
theorem heldInt64S_c (A : Option Addr) (n c BA : Nat) (k : Int) (w : World) (ha : Reads w BA 1 A n (ints (marks k n))) (hn : n ≤ 1152921504606846976) (hk0 : 0 ≤ k) (hk1 : k ≤ 1152921504606846976) :
    Calls Tryd.prog 9 #[.slice A n c, .int .i64 k] w fun e w' => e = .returned (.int .i64 (k + n)) ∧ Below w.heap.size w w' := by
  go_enter Tryd.func9, Tryd.ntmps9
  go_wp2
  go_loopw [1, 5] (fun j i wr => ∃ m q : Nat, m ≤ n ∧ i = .int .i64 m ∧ j = .int .i64 (k + m) ∧ wr = w.drewN q) (fun _ i _ => n - (intOf i).toNat)
  case atStart => exact ⟨0, 0, Nat.zero_le _, rfl, by go_num, rfl⟩
  case round =>
    obtain ⟨m, q, hm, rfl, rfl, rfl⟩ := hrel
    by_cases hlt : m < n
    · obtain ⟨ad, z, rfl, _, hzk, hc⟩ := ha.int hlt
      rw [marks_get k n m hlt] at hzk
      obtain rfl : k + m = z := by injection hzk
      clear hzk ha
      go_wp2
      go_roundw
      case rel => exact ⟨m + 1, _, by omega, by go_num, by go_num, rfl⟩
      case measure => simp [intOf]; omega
    · obtain rfl : m = n := by omega
      clear ha
      go_wp2
      go_ret
      exact ⟨rfl, below_drewN (Below.refl _ _) _⟩


/-- what a row of n integers holds when the first k have been copied -/
def partRow (zs : List Int) (n k : Nat) : Array Value := (ints (zs.take k) ++ List.replicate (n - k) (Value.int .i64 0)).toArray
theorem partRow_get {zs : List Int} {n k : Nat} (hl : zs.length = n) (hk : k < n) : (partRow zs n k)[k]? = some (.int .i64 0) := by
  simp only [partRow, List.getElem?_toArray]
  rw [List.getElem?_append_right (by simp [ints_len]; omega)]
  simp [List.getElem?_replicate, ints_len]
  omega
theorem partRow_set {zs : List Int} {n k : Nat} {z : Int} (hl : zs.length = n) (hk : k < n) (hz : zs[k]? = some z) : (partRow zs n k).setIfInBounds k (.int .i64 z) = partRow zs n (k + 1) := by
  simp only [partRow, List.setIfInBounds_toArray]
  congr 1
  have e : n - k = (n - (k + 1)) + 1 := by omega
  rw [take_snoc_int hz, e, List.replicate_succ]
  simp only [ints, List.map_append, List.map_cons, List.map_nil, List.append_assoc, List.singleton_append]
  rw [List.set_append_right _ _ (by simp; omega)]
  congr 1
  have : k - (List.map (Value.int .i64) (List.take k zs)).length = 0 := by simp; omega
  rw [this]; rfl
theorem partRow_zero (zs : List Int) (n : Nat) : partRow zs n 0 = madeCells #[.int .i64 0] n := by
  apply Array.ext'
  rw [toList_madeCells_one]
  simp [partRow, ints]
theorem partRow_all (zs : List Int) (n : Nat) (hl : zs.length = n) : partRow zs n n = (ints zs).toArray := by
  simp [partRow, List.take_of_length_le (show zs.length ≤ n by omega)]

theorem info_i64 : (Tryd.prog.info? 2).map (fun i => (i.zero, i.size, i.bytes)) = some (some (.int .i64 0), 1, 8) := by kernel_rfl


end Go.Proofs.YtihjlmlhipngmaaDoor
