/- Contracts of generic library functions over slices of int64 with closures, and of allWithin. -/
import Derived.Test.YtjmnhmghpikknaaDoorOwn
import Derived.Test.YtjmnhmghpikknaaDoorTa
import Derived.Shelf.Abstract
namespace Go.Proofs.YtjmnhmghpikknaaDoor
open Go.ChangeShapes Go.WideShapes Go.ChangeAt Go.RowKit
set_option linter.unusedVariables false

/-- the first index from k on at which p holds, or -1 -/
def idxFrom {α : Type} (p : α → Bool) (k : Nat) : List α → Int
  | [] => -1
  | z :: r => if p z then (k : Int) else idxFrom p (k + 1) r
def idxOf {α : Type} (p : α → Bool) (l : List α) : Int := idxFrom p 0 l
theorem idxFrom_append {α : Type} (p : α → Bool) (k : Nat) (l r : List α) (h : l.all (fun z => !p z) = true) : idxFrom p k (l ++ r) = idxFrom p (k + l.length) r := by
  induction l generalizing k with
  | nil => simp
  | cons z l ih =>
    simp only [List.all_cons, Bool.and_eq_true, Bool.not_eq_true'] at h
    simp only [List.cons_append, idxFrom, h.1, Bool.false_eq_true, if_false]
    rw [ih (k + 1) h.2, List.length_cons]
    congr 1; omega
theorem idxFrom_none {α : Type} (p : α → Bool) (k : Nat) (l : List α) (h : l.all (fun z => !p z) = true) : idxFrom p k l = -1 := by
  have := idxFrom_append p k l [] h
  simpa [idxFrom] using this
theorem idxFrom_at {α : Type} (p : α → Bool) (l r : List α) (z : α) (h : l.all (fun z => !p z) = true) (hp : p z = true) : idxOf p (l ++ z :: r) = l.length := by
  unfold idxOf
  rw [idxFrom_append p 0 l _ h]
  simp [idxFrom, hp]
theorem idxFrom_bd {α : Type} (p : α → Bool) (k : Nat) (l : List α) : -1 ≤ idxFrom p k l ∧ idxFrom p k l < (k : Int) + l.length ∧ (0 ≤ idxFrom p k l ↔ l.any p = true) := by
  induction l generalizing k with
  | nil => simp [idxFrom]; omega
  | cons z l ih =>
    simp only [idxFrom]
    by_cases hp : p z = true
    · simp [hp]; omega
    · have := ih (k + 1)
      simp only [hp, Bool.false_eq_true, if_false, List.any_cons, Bool.false_or, List.length_cons]
      refine ⟨this.1, ?_, this.2.2⟩
      have := this.2.1
      simp at this ⊢
      omega
theorem drop_cons_get {α : Type} {l : List α} {k : Nat} {z : α} (h : l[k]? = some z) : l = l.take k ++ z :: l.drop (k + 1) := by
  obtain ⟨hk, rfl⟩ := List.getElem?_eq_some_iff.1 h
  rw [← List.drop_eq_getElem_cons hk, List.take_append_drop]
theorem take_snoc' {α : Type} {zs : List α} {k : Nat} {z : α} (h : zs[k]? = some z) : zs.take (k + 1) = zs.take k ++ [z] := by
  rw [List.take_add_one, h]; rfl

/-- A closure's contract: in every world in which all that lay in w still lies, it answers p and turns nothing that is there. -/
def ClosI (g : Nat) (lb : Array Value) (p : Int → Bool) (w : World) : Prop :=
  Enters Tryd.prog g ∧ ∀ (z : Int) (W : World), Below w.heap.size w W → Calls Tryd.prog g (#[.int .i64 z] ++ lb) W fun e W' => e = .returned (.bool (p z)) ∧ Below W.heap.size W W'

set_option maxHeartbeats 400000 in
theorem indexFuncI_c (g : Nat) (lb : Array Value) (p : Int → Bool) (A : Option Addr) (n c BA : Nat) (zs : List Int) (w : World) (ha : Reads w BA 1 A n (ints zs)) (hB : BA ≤ w.heap.size) (hn : n ≤ 1152921504606846976) (hf : ClosI g lb p w) :
    Calls Tryd.prog 45 #[.slice A n c, .func (.func g) #[] lb] w fun e w' => e = .returned (.int .i64 (idxOf p zs)) ∧ Below w.heap.size w w' := by
  have HL := Lib.hid ha.len
  have HF := Lib.hid hf; clear hf
  go_enter Tryd.func45, Tryd.ntmps45
  go_wp2
  go_loopw [8] (fun i wr => ∃ k : Nat, k ≤ n ∧ i = .int .i64 k ∧ Hid ((zs.take k).all (fun z => !p z) = true) ∧ Hid (Below w.heap.size w wr)) (fun i _ => n - (intOf i).toNat)
  case atStart => exact ⟨0, Nat.zero_le _, rfl, Lib.hid (by simp), Lib.hid (Below.refl _ _)⟩
  case round =>
    obtain ⟨k, hk, rfl, HA, HW⟩ := hrel
    by_cases hlt : k < n
    · obtain ⟨ad, z, rfl, hbl, hzk, hc0⟩ := ha.int hlt
      have hc : wr.cell? (ad.add k) = some (.int .i64 z) := (HW.out.cell (p := ad.add k) (by rw [block_of_add]; omega)).trans hc0
      have HZ := Lib.hid hzk
      clear hzk ha hc0
      have he := HF.out.1
      unfold Enters at he
      go_wp2_with fail
      clear he
      refine (HF.out.2 z wr HW.out).mono ?_
      rintro e w1 ⟨rfl, hb1⟩
      have HB1 := Lib.hid hb1; clear hb1
      cases hp : p z
      · have HP := Lib.hid hp; clear hp
        go_wp2
        go_roundw
        case rel => exact ⟨k + 1, by omega, by go_num, Lib.hid (by rw [take_snoc' HZ.out]; simp [HA.out, HP.out]), Lib.hid (HW.out.trans (HB1.out.mono HW.out.size))⟩
        case measure => simp [intOf]; omega
      · have HP := Lib.hid hp; clear hp
        go_wp2
        go_ret
        refine ⟨ret_int ?_, HW.out.trans (HB1.out.mono HW.out.size)⟩
        rw [drop_cons_get HZ.out, idxFrom_at p _ _ z HA.out HP.out]
        simp; have := HL.out; omega
    · obtain rfl : k = n := by omega
      clear ha
      go_wp2
      go_ret
      refine ⟨ret_int ?_, HW.out⟩
      have h := HA.out
      rw [List.take_of_length_le (by have := HL.out; omega)] at h
      exact (idxFrom_none p 0 zs h).symm

theorem idxOf_any {α : Type} (p : α → Bool) (l : List α) : decide (0 ≤ idxOf p l) = l.any p := by
  have := (idxFrom_bd p 0 l).2.2
  unfold idxOf
  rw [Bool.eq_iff_iff, decide_eq_true_iff]
  exact this
theorem containsFuncI_c (g : Nat) (lb : Array Value) (p : Int → Bool) (A : Option Addr) (n c BA : Nat) (zs : List Int) (w : World) (ha : Reads w BA 1 A n (ints zs)) (hB : BA ≤ w.heap.size) (hn : n ≤ 1152921504606846976) (hf : ClosI g lb p w) :
    Calls Tryd.prog 38 #[.slice A n c, .func (.func g) #[] lb] w fun e w' => e = .returned (.bool (zs.any p)) ∧ Below w.heap.size w w' := by
  have hc := indexFuncI_c g lb p A n c BA zs w ha hB hn hf
  have HA := Lib.hid (idxOf_any p zs)
  clear ha hf
  go_enter Tryd.func38, Tryd.ntmps38
  go_wp2_with fail
  refine hc.mono ?_
  rintro e w1 ⟨rfl, hb1⟩
  clear hc
  go_wp2
  go_ret
  exact ⟨ret_bool HA.out, hb1⟩

def allInB (low high : Int) (zs : List Int) : Bool := zs.all fun z => inB z low high
theorem allWithin1_c (low high : Int) (a b : Addr) (w : World) (hla : w.cell? a = some (.int .i64 low)) (hlb : w.cell? b = some (.int .i64 high)) (ha : a.block < w.heap.size) (hb : b.block < w.heap.size) :
    ClosI 39 #[.pointer (some a), .pointer (some b)] (fun z => !inB z low high) w := by
  refine ⟨enters_of Tryd.func39 (by kernel_rfl) rfl, fun z W hW => ?_⟩
  have h1 := (hW.cell ha).trans hla
  have h2 := (hW.cell hb).trans hlb
  clear hla hlb hW
  show Calls _ _ #[_, _, _] _ _
  go_enter Tryd.func39, Tryd.ntmps39
  go_wp2_with (go_at_call 17; refine (within_c _ _ _ _).mono ?_; rintro e w' ⟨rfl, rfl⟩)
  go_ret
  exact ⟨ret_bool rfl, Below.refl _ _⟩

theorem any_not_all {α : Type} (p : α → Bool) (l : List α) : (!(l.any fun z => !p z)) = l.all p := by
  induction l with
  | nil => rfl
  | cons z l ih => simp only [List.any_cons, List.all_cons, Bool.not_or, Bool.not_not, ih]
theorem allWithin_c (A : Option Addr) (n c BA : Nat) (zs : List Int) (low high : Int) (w : World) (ha : Reads w BA 1 A n (ints zs)) (hB : BA ≤ w.heap.size) (hn : n ≤ 1152921504606846976) :
    Calls Tryd.prog 33 #[.slice A n c, .int .i64 low, .int .i64 high] w fun e w' => e = .returned (.bool (allInB low high zs)) ∧ Below w.heap.size w w' := by
  have hc := fun (W : World) (hW : Reads W BA 1 A n (ints zs)) (hBW : BA ≤ W.heap.size) (a b : Addr) (h1 : W.cell? a = some (.int .i64 low)) (h2 : W.cell? b = some (.int .i64 high)) (h3 : a.block < W.heap.size) (h4 : b.block < W.heap.size) =>
    containsFuncI_c 39 #[.pointer (some a), .pointer (some b)] (fun z => !inB z low high) A n c BA zs W hW hBW hn (allWithin1_c low high a b W h1 h2 h3 h4)
  have HC := Lib.hid hc; clear hc
  have HA := Lib.hid ha; clear ha
  have HP := Lib.hid (any_not_all (fun z => inB z low high) zs)
  go_enter Tryd.func33, Tryd.ntmps33
  go_wp2_with fail
  refine (HC.out _ ((HA.out.alloc hB _).alloc (by simp; omega) _) (by simp; omega) _ _ ?_ ?_ ?_ ?_).mono ?_
  rotate_left 4
  · rintro e w1 ⟨rfl, hb1⟩
    go_wp2
    go_ret
    exact ⟨ret_bool HP.out, (((Below.refl _ _).alloc (Nat.le_refl _) _).alloc (by simp) _).trans (hb1.mono (by simp; omega))⟩
  all_goals go_simp
end Go.Proofs.YtjmnhmghpikknaaDoor
