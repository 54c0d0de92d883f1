/- Bulletins: their texts, by both. -/
import Derived.Test.YthbnliepgjjbdaaDoorSnT
import Derived.Test.YthbnliepgjjbdaaDoorBul
namespace Go.Proofs.YthbnliepgjjbdaaDoor
open Go.ChangeShapes Go.WideShapes Go.ChangeAt Go.RowKit
set_option linter.unusedVariables false
theorem str_nil (x : List UInt8) : (⟨#[]⟩ : ByteArray) ++ ⟨x.toArray⟩ = ⟨x.toArray⟩ := by rw [show (⟨#[]⟩ : ByteArray) = ⟨([] : List UInt8).toArray⟩ from rfl, str_add]; rfl
def joinS (l : Nat) (ss : List Sen) : List UInt8 := Lib.join (ss.map (Sen.text l)) [47]
theorem joinS_nil (l : Nat) : joinS l [] = [] := rfl
theorem joinS_one (l : Nat) (s : Sen) : joinS l [s] = s.text l := by unfold joinS; rw [List.map_singleton, Lib.join_one]
theorem joinS_snoc (l : Nat) (P : List Sen) (s : Sen) (h : P ≠ []) : joinS l (P ++ [s]) = joinS l P ++ ([47] ++ s.text l) := by
  unfold joinS
  rw [List.map_append, List.map_singleton, join_snoc 47 _ _ (by simpa using h)]; rfl
theorem sen_text_len {l : Nat} (hl : 1 ≤ l ∧ l ≤ 4) {s : Sen} (h : s.ok = true) : (s.text l).length ≤ 160 := by
  obtain ⟨k, a, b⟩ := s
  obtain ⟨kn, rfl, q1, q7, ha, hb, _⟩ := okS_num h
  exact text_len ⟨q1, q7⟩ hl ha hb
theorem joinS_len {l : Nat} (hl : 1 ≤ l ∧ l ≤ 4) : ∀ ss : List Sen, (∀ s ∈ ss, s.ok = true) → (joinS l ss).length ≤ 161 * ss.length
  | [], _ => by rw [joinS_nil]; simp
  | [s], h => by
    rw [joinS_one]
    have := sen_text_len hl (h s (by simp))
    simp; omega
  | s :: t :: r, h => by
    have ih := joinS_len hl (t :: r) (fun x hx => h x (List.mem_cons_of_mem _ hx))
    have h1 := sen_text_len hl (h s (by simp))
    unfold joinS at ih ⊢
    simp only [List.map_cons] at ih ⊢
    rw [join_two]
    simp only [List.length_append, List.length_cons] at ih ⊢
    omega
theorem stepB_ok {ss : List Sen} {i : Nat} {s : Sen} (hs : ss[i]? = some s) (h : stepB ss i = true) : s.ok = true := by
  unfold stepB at h
  rw [hs] at h
  simp only [Bool.and_eq_true] at h
  exact h.1
theorem bulB_all {ss : List Sen} (h : bulB ss = true) : (∀ s ∈ ss, s.ok = true) ∧ ss.length ≤ 7 := by
  unfold bulB at h
  simp only [Bool.and_eq_true, decide_eq_true_eq] at h
  refine ⟨fun s hs => ?_, h.2⟩
  obtain ⟨i, hi⟩ := List.getElem?_of_mem hs
  have h1 := h.1
  simp only [bulOk, List.all_eq_true, List.mem_range] at h1
  exact stepB_ok hi (h1 i (List.getElem?_eq_some_iff.1 hi).1)
def bulT (l : Nat) (ss : List Sen) : List UInt8 := if ss = [] then [45] else joinS l ss
def btV (ss : List Sen) (n : Int) : ByteArray × Int := if bulB ss = false then (⟨#[]⟩, 1) else if inB n 1 4 = false then (⟨#[]⟩, 2) else (⟨(bulT n.toNat ss).toArray⟩, 0)
set_option maxHeartbeats 1000000 in
theorem l19All_c (A : Option Addr) (n c BA : Nat) (ss : List Sen) (l : Nat) (hl0 : 1 ≤ l ∧ l ≤ 4) (hall : ∀ s ∈ ss, s.ok = true) (h7 : n ≤ 7) (w : World) (ha : Reads w BA 3 A n (sens ss)) (hA : BA ≤ w.heap.size) :
    Calls Tryd.prog 41 #[.slice A n c, .int .i64 l] w fun e w' => e = .returned (.string ⟨(bulT l ss).toArray⟩) ∧ Below w.heap.size w w' := by
  have HL := Lib.hid ha.senLen
  have HA := Lib.hid ha
  have HALL := Lib.hid hall
  have hl := Lib.hid hl0
  clear hl0 hall
  by_cases h0 : n = 0
  · subst h0
    have HV : Hid (bulT l ss = [45]) := Lib.hid (by unfold bulT; rw [if_pos (List.eq_nil_of_length_eq_zero HL.out)])
    clear ha
    go_enter Tryd.func41, Tryd.ntmps41
    go_wp2
    go_ret
    exact ⟨by rw [HV.out]; rfl, Below.refl _ _⟩
  · have HV : Hid (bulT l ss = joinS l ss) := Lib.hid (by unfold bulT; rw [if_neg (fun e => h0 (by have := HL.out; rw [e] at this; exact this.symm))])
    have hn0 : ((n : Int) == 0) = false := by simpa using h0
    clear ha
    go_enter Tryd.func41, Tryd.ntmps41
    go_wp2
    go_loopw [5, 6] (fun ov iv wr => ∃ k : Nat, k ≤ n ∧ iv = .int .i64 k ∧ ov = .string ⟨(joinS l (ss.take k)).toArray⟩ ∧ Hid (Below w.heap.size w wr)) (fun _ iv _ => n - (intOf iv).toNat)
    case atStart => exact ⟨0, Nat.zero_le _, rfl, rfl, Lib.hid (Below.refl _ _)⟩
    case round =>
      obtain ⟨k, hk, rfl, rfl, HB⟩ := hrel
      by_cases hlt : k < n
      · obtain ⟨ad, s, rfl, hbl, hs, c0, c1, c2⟩ := (HA.out.below (HB.out.mono hA)).sen hlt
        have hok := HALL.out s (List.mem_of_getElem? hs)
        have HT : Hid (ss.take (k + 1) = ss.take k ++ [s]) := Lib.hid (by rw [List.take_add_one, hs]; rfl)
        have hlen : (joinS l (ss.take k)).length ≤ 161 * k := Nat.le_trans (joinS_len hl.out (ss.take k) (fun x hx => HALL.out x (List.mem_of_mem_take hx))) (Nat.mul_le_mul_left _ (by rw [List.length_take]; omega))
        have hlen2 := sen_text_len hl.out hok
        obtain ⟨kk, sa, sb⟩ := s
        obtain ⟨kn, rfl, q1, q7, hna, hnb, hzz⟩ := okS_num hok
        have HTX := Lib.hid (l19Text_c kn l sa sb ⟨q1, q7⟩ hl.out hna hnb (ad.add (k * 3)) wr c0 c1 c2)
        have het : (⟨kn, sa, sb⟩ : Sen).text l = textT kn l sa sb := rfl
        rw [← het] at HTX
        have HTL : Hid (k = 0 → joinS l (ss.take (k + 1)) = (⟨kn, sa, sb⟩ : Sen).text l) := Lib.hid (fun h => by rw [HT.out, h, List.take_zero, List.nil_append, joinS_one])
        have HTM : Hid (k ≠ 0 → joinS l (ss.take (k + 1)) = joinS l (ss.take k) ++ ([47] ++ (⟨kn, sa, sb⟩ : Sen).text l)) := Lib.hid (fun h => by
          rw [HT.out, joinS_snoc]
          intro e
          have e2 := congrArg List.length e
          rw [List.length_take, List.length_nil] at e2
          have := HL.out
          omega)
        generalize (⟨kn, sa, sb⟩ : Sen).text l = tx at *
        obtain ⟨ob, hob⟩ : ∃ b : ByteArray, b = ⟨(joinS l (ss.take k)).toArray⟩ := ⟨_, rfl⟩
        obtain ⟨tb, htb⟩ : ∃ b : ByteArray, b = ⟨tx.toArray⟩ := ⟨_, rfl⟩
        have z1 : ob.size ≤ 1200 := by rw [hob]; show (joinS l (ss.take k)).length ≤ 1200; omega
        have z2 : tb.size ≤ 160 := by rw [htb]; exact hlen2
        have s1 : ¬ (9223372036854775807 < ob.size + 1) := by omega
        have s2 : ¬ (9223372036854775807 < ob.size + 1 + tb.size) := by omega
        have s3 : ¬ (9223372036854775807 < ob.size + tb.size) := by omega
        have HOB := Lib.hid hob
        have HTB := Lib.hid htb
        rw [← hob]
        rw [← htb] at HTX
        clear hs hok hlen hlen2 q1 q7 hna hnb hzz het hob htb z1 z2
        by_cases hk0 : k = 0
        · have HR : Hid (joinS l (ss.take (k + 1)) = tx) := Lib.hid (HTL.out hk0)
          have HOE : Hid (ob = ⟨#[]⟩) := Lib.hid (by rw [HOB.out, hk0]; rfl)
          have hkz : ¬ ((0 : Int) < (k : Int)) := by omega
          clear hk0
          go_wp2_with fail
          refine HTX.out.mono ?_
          rintro e w2 ⟨rfl, B⟩
          have T2 := Lib.hid (HB.out.trans (B.mono HB.out.size))
          clear B HTX c0 c1 c2
          go_wp2
          go_roundw
          case rel => exact ⟨k + 1, by omega, by go_num, by rw [HR.out, HOE.out, HTB.out, str_nil], T2⟩
          case measure => simp [intOf]; omega
        · have HR := Lib.hid (HTM.out hk0)
          have hkz : (0 : Int) < (k : Int) := by omega
          clear hk0
          go_wp2_with fail
          refine HTX.out.mono ?_
          rintro e w2 ⟨rfl, B⟩
          have T2 := Lib.hid (HB.out.trans (B.mono HB.out.size))
          clear B HTX c0 c1 c2
          go_wp2
          go_roundw
          case rel => exact ⟨k + 1, by omega, by go_num, by rw [HR.out, HOB.out, HTB.out, show (⟨#[47]⟩ : ByteArray) = ⟨([47] : List UInt8).toArray⟩ from rfl, str_add, str_add, List.append_assoc], T2⟩
          case measure => simp [intOf]; omega
      · obtain rfl : k = n := by omega
        rw [List.take_of_length_le (by have := HL.out; omega)]
        go_wp2
        go_ret
        exact ⟨by rw [HV.out]; rfl, HB.out⟩
end Go.Proofs.YthbnliepgjjbdaaDoor
