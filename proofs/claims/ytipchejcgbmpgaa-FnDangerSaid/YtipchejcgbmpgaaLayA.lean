/- Layers and profiles: validity, thickness, load, strength: the program's functions and the reference's compute the same. -/
import Derived.Test.YtipchejcgbmpgaaLayS
import Derived.Test.YtipchejcgbmpgaaNum
import Derived.Shelf.Abstract
namespace Go.Proofs.Ytipchejcgbmpgaa
open Go.ChangeShapes Go.WideShapes Go.ChangeAt Go.RowKit
set_option linter.unusedVariables false

def Lay.ok (s : Lay) : Bool := inB s.form 1 6 && inB s.ice 1 1000000 && inB s.water 0 1000000 && inB s.density 30 900 && inB s.degrees (-4000) 0 && inB s.hardness 1 6 && inB s.age 0 10000
theorem Lay.ok_bd {s : Lay} (h : s.ok = true) : (1 ≤ s.form ∧ s.form ≤ 6) ∧ (1 ≤ s.ice ∧ s.ice ≤ 1000000) ∧ (0 ≤ s.water ∧ s.water ≤ 1000000) ∧ (30 ≤ s.density ∧ s.density ≤ 900) := by
  simp only [Lay.ok, Bool.and_eq_true, inB, decide_eq_true_eq] at h
  omega
def proB (ls : List Lay) : Bool := ls.all Lay.ok && decide (ls.length ≤ 16)
theorem proB_get {ls : List Lay} {k : Nat} {s : Lay} (h : proB ls = true) (hs : ls[k]? = some s) : s.ok = true := by
  simp only [proB, Bool.and_eq_true] at h
  exact List.all_eq_true.1 h.1 s (List.mem_of_getElem? hs)
theorem proB_len {ls : List Lay} (h : proB ls = true) : ls.length ≤ 16 := by
  simp only [proB, Bool.and_eq_true, decide_eq_true_eq] at h
  exact h.2

set_option maxHeartbeats 2000000 in
theorem iValidLayer_c (s : Lay) (w : World) : Calls Try.prog 86 #[s.val] w fun e w' => e = .returned (.bool s.ok) ∧ Below w.heap.size w w' := by
  obtain ⟨a, b, c, d, e, f, g⟩ := s
  simp only [Lay.val, Lay.ok]
  go_enter Try.func86, Try.ntmps86
  go_wp2_with (go_at_call 65; refine (within_c _ _ _ _).mono ?_; rintro e w' ⟨rfl, rfl⟩)
  all_goals go_ret
  all_goals (refine ⟨ret_bool ?_, by go_grown⟩; simp_all)
set_option maxHeartbeats 2000000 in
theorem l03One_c (ad : Addr) (k : Nat) (s : Lay) (w : World) (h : LayAt w ad k s) : Calls Try.prog 79 #[.pointer (some (ad.add (k * 7)))] w fun e w' => e = .returned (.bool s.ok) ∧ w = w' := by
  unfold LayAt at h
  obtain ⟨h0, h1, h2, h3, h4, h5, h6⟩ := h
  obtain ⟨a, b, c, d, e, f, g⟩ := s
  simp only [Lay.ok]
  go_enter Try.func79, Try.ntmps79
  go_wp2_with (go_at_call 52; refine (l00In_c _ _ _ _).mono ?_; rintro e w' ⟨rfl, rfl⟩)
  all_goals go_ret
  all_goals (refine ⟨ret_bool ?_, rfl⟩; clear h0 h1 h2 h3 h4 h5 h6; simp_all)
set_option maxHeartbeats 1000000 in
theorem l03Ok_c (A : Option Addr) (n c BA : Nat) (ls : List Lay) (w : World) (ha : Reads w BA 7 A n (lays ls)) (hn : n ≤ 1152921504606846976) :
    Calls Try.prog 51 #[.slice A n c] w fun e w' => e = .returned (.bool (proB ls)) ∧ w = w' := by
  have HL := Lib.hid ha.layLen
  go_enter Try.func51, Try.ntmps51
  go_wp2
  go_loop [3] (fun i => ∃ k : Nat, k ≤ n ∧ i = .int .i64 k ∧ Hid ((ls.take k).all Lay.ok = true)) (fun i => n - (intOf i).toNat)
  case atStart => exact ⟨0, Nat.zero_le _, rfl, Lib.hid (by simp)⟩
  case round =>
    obtain ⟨k, hk, rfl, HA⟩ := hrel
    by_cases hlt : k < n
    · obtain ⟨ad, s, rfl, hbl, hs, hc⟩ := ha.lay hlt
      have HS := Lib.hid hs
      have HC := Lib.hid hc
      clear hs hc ha
      cases hok : s.ok
      · have HK := Lib.hid hok; clear hok
        go_wp2_with fail
        refine (l03One_c ad k s _ HC.out).mono ?_
        rintro e w' ⟨rfl, rfl⟩
        rw [HK.out]
        go_wp2
        go_ret
        refine ⟨ret_bool ?_, rfl⟩
        have : ls.all Lay.ok = false := List.all_eq_false.2 ⟨s, List.mem_of_getElem? HS.out, by simp [HK.out]⟩
        simp [proB, this]
      · have HK := Lib.hid hok; clear hok
        go_wp2_with fail
        refine (l03One_c ad k s _ HC.out).mono ?_
        rintro e w' ⟨rfl, rfl⟩
        rw [HK.out]
        go_wp2
        go_round
        case rel => exact ⟨k + 1, by omega, by go_num, Lib.hid (by rw [List.take_add_one, HS.out, List.all_append, HA.out]; simp [HK.out])⟩
        case measure => simp [intOf]; omega
    · obtain rfl : k = n := by omega
      clear ha
      go_wp2
      go_ret
      refine ⟨ret_bool ?_, rfl⟩
      have h := HA.out
      rw [List.take_of_length_le (by have := HL.out; omega)] at h
      rw [proB, h, HL.out]; simp; omega
/-- A closure's contract: in every world in which all that lay in w still lies, it answers p and turns nothing that is there. -/
def ClosL (g : Nat) (lb : Array Value) (p : Lay → Bool) (w : World) : Prop :=
  Enters Try.prog g ∧ ∀ (z : Lay) (W : World), Below w.heap.size w W → Calls Try.prog g (#[z.val] ++ lb) W fun e W' => e = .returned (.bool (p z)) ∧ Below W.heap.size W W'
theorem anyIdx_none {α : Type} {p : α → Bool} {l : List α} (h : l.all (fun z => !p z) = true) : l.any p = false := by
  simpa using h
def IdxPost {α : Type} (p : α → Bool) (l : List α) (w : World) (e : Ending) (w' : World) : Prop := ∃ z : Int, e = .returned (.int .i64 z) ∧ (decide (0 ≤ z) = l.any p) ∧ Below w.heap.size w w'
set_option maxHeartbeats 1000000 in
theorem indexFuncL_c (g : Nat) (lb : Array Value) (p : Lay → Bool) (A : Option Addr) (n c BA : Nat) (zs : List Lay) (w : World) (ha : Reads w BA 7 A n (lays zs)) (hB : BA ≤ w.heap.size) (hn : n ≤ 1152921504606846976) (hf : ClosL g lb p w) :
    Calls Try.prog 98 #[.slice A n c, .func (.func g) #[] lb] w (IdxPost p zs w) := by
  have HL := Lib.hid ha.layLen
  have HF := Lib.hid hf; clear hf
  go_enter Try.func98, Try.ntmps98
  go_wp2
  go_loopw [8] (fun i wr => ∃ k : Nat, k ≤ n ∧ i = .int .i64 k ∧ Hid ((zs.take k).all (fun z => !p z) = true) ∧ Hid (Below w.heap.size w wr)) (fun i _ => n - (intOf i).toNat)
  case atStart => exact ⟨0, Nat.zero_le _, rfl, Lib.hid (by simp), Lib.hid (Below.refl _ _)⟩
  case round =>
    obtain ⟨k, hk, rfl, HA, HW⟩ := hrel
    by_cases hlt : k < n
    · obtain ⟨ad, z, rfl, hbl, hzk, hc⟩ := (ha.below (HW.out.mono hB)).lay hlt
      unfold LayAt at hc
      obtain ⟨c0, c1, c2, c3, c4, c5, c6⟩ := hc
      have HZ := Lib.hid hzk
      clear hzk ha
      have he := HF.out.1
      unfold Enters at he
      go_wp2_with fail
      clear he
      refine (HF.out.2 z wr HW.out).mono ?_
      rintro e w1 ⟨rfl, hb1⟩
      have HB1 := Lib.hid hb1; clear hb1 c0 c1 c2 c3 c4 c5 c6
      cases hp : p z
      · have HP := Lib.hid hp; clear hp
        go_wp2
        go_roundw
        case rel => exact ⟨k + 1, by omega, by go_num, Lib.hid (by rw [List.take_add_one, HZ.out]; simp [HA.out, HP.out]), Lib.hid (HW.out.trans (HB1.out.mono HW.out.size))⟩
        case measure => simp [intOf]; omega
      · have HP := Lib.hid hp; clear hp
        go_wp2
        go_ret
        refine ⟨k, rfl, ?_, HW.out.trans (HB1.out.mono HW.out.size)⟩
        rw [List.any_eq_true.2 ⟨z, List.mem_of_getElem? HZ.out, HP.out⟩]
        simp
    · obtain rfl : k = n := by omega
      clear ha
      go_wp2
      go_ret
      refine ⟨-1, rfl, ?_, HW.out⟩
      have h := HA.out
      rw [List.take_of_length_le (by have := HL.out; omega)] at h
      rw [anyIdx_none h]; rfl
theorem containsFuncL_c (g : Nat) (lb : Array Value) (p : Lay → Bool) (A : Option Addr) (n c BA : Nat) (zs : List Lay) (w : World) (ha : Reads w BA 7 A n (lays zs)) (hB : BA ≤ w.heap.size) (hn : n ≤ 1152921504606846976) (hf : ClosL g lb p w) :
    Calls Try.prog 84 #[.slice A n c, .func (.func g) #[] lb] w fun e w' => e = .returned (.bool (zs.any p)) ∧ Below w.heap.size w w' := by
  have hc := indexFuncL_c g lb p A n c BA zs w ha hB hn hf
  clear ha hf
  go_enter Try.func84, Try.ntmps84
  go_wp2_with fail
  refine hc.mono ?_
  rintro e w1 ⟨z, rfl, hz, hb1⟩
  have HZ := Lib.hid hz
  clear hc hz
  go_wp2
  go_ret
  exact ⟨ret_bool HZ.out, hb1⟩
theorem validProfile1_c (w : World) : ClosL 85 #[] (fun z => !z.ok) w := by
  refine ⟨enters_of Try.func85 (by kernel_rfl) rfl, fun z W _ => ?_⟩
  have hc := fun W' => iValidLayer_c z W'
  obtain ⟨a, b, c, d, e, f, g⟩ := z
  simp only [Lay.val] at hc ⊢
  show Calls _ _ #[_] _ _
  go_enter Try.func85, Try.ntmps85
  go_wp2_with fail
  refine (hc _).mono ?_
  rintro e w1 ⟨rfl, hb1⟩
  clear hc
  go_wp2
  go_ret
  exact ⟨rfl, ((Below.refl _ _).alloc (Nat.le_refl _) _).trans (hb1.mono (by simp))⟩
theorem any_not_all' {α : Type} (p : α → Bool) (l : List α) : (!(l.any fun z => !p z)) = l.all p := by
  induction l with
  | nil => rfl
  | cons z l ih => simp only [List.any_cons, List.all_cons, Bool.not_or, Bool.not_not, ih]
theorem iValidProfile_c (A : Option Addr) (n c BA : Nat) (ls : List Lay) (w : World) (ha : Reads w BA 7 A n (lays ls)) (hB : BA ≤ w.heap.size) (hn : n ≤ 1152921504606846976) :
    Calls Try.prog 62 #[.slice A n c] w fun e w' => e = .returned (.bool (proB ls)) ∧ Below w.heap.size w w' := by
  have HL := Lib.hid ha.layLen
  by_cases h16 : n ≤ 16
  · have hc := containsFuncL_c _ #[] _ A n c BA ls w ha hB hn (validProfile1_c w)
    have HP := Lib.hid (any_not_all' Lay.ok ls)
    clear ha
    go_enter Try.func62, Try.ntmps62
    go_wp2_with fail
    refine hc.mono ?_
    rintro e w1 ⟨rfl, hb1⟩
    clear hc
    go_wp2
    go_ret
    exact ⟨ret_bool (by rw [HP.out, proB, HL.out]; simp; omega), hb1⟩
  · clear ha
    go_enter Try.func62, Try.ntmps62
    go_wp2
    go_ret
    exact ⟨ret_bool (by rw [proB, HL.out]; simp; omega), Below.refl _ _⟩
end Go.Proofs.Ytipchejcgbmpgaa
