/- FnZones: plain facts: zones of pressures, parts of a line, texts read back; ZoneOf. -/
import Derived.Test.YtjmnhmghpikknaaDoorFzA
namespace Go.Proofs.YtjmnhmghpikknaaDoor
open Go.ChangeShapes Go.WideShapes Go.ChangeAt Go.RowKit
set_option linter.unusedVariables false
/-! ### zones of pressures -/
def zoneOfV (p y : Int) : Int := if 30000 ≤ p ∨ (3000 ≤ p ∧ y ≤ 30) then 3 else if 3000 ≤ p ∨ (0 < p ∧ y ≤ 30) then 2 else if 0 < p then 1 else 0
def zoneV (p y : Int) : Int × Int := if inB p 0 1000000 = true ∧ inB y 1 300 = true then (zoneOfV p y, 0) else (0, 2)
theorem zoneV_ok {p y : Int} : ((zoneV p y).2 = 0 ∧ (0 ≤ p ∧ p ≤ 1000000) ∧ (1 ≤ y ∧ y ≤ 300) ∧ (zoneV p y).1 = zoneOfV p y) ∨ zoneV p y = (0, 2) := by
  unfold zoneV
  by_cases h : inB p 0 1000000 = true ∧ inB y 1 300 = true
  · rw [if_pos h]
    obtain ⟨h1, h2⟩ := h
    simp only [inB, decide_eq_true_eq] at h1 h2
    exact .inl ⟨rfl, h1, h2, rfl⟩
  · rw [if_neg h]; exact .inr rfl
theorem zoneOf_bd (p y : Int) : 0 ≤ zoneOfV p y ∧ zoneOfV p y ≤ 3 := by unfold zoneOfV; repeat' split <;> omega
theorem zoneOf_p (p y : Int) : zoneOfV p y ≤ zoneOfV (p + 1) y := by unfold zoneOfV; repeat' split <;> omega
theorem zoneOf_y (p y : Int) : zoneOfV p y ≤ zoneOfV p (y - 1) := by unfold zoneOfV; repeat' split <;> omega
theorem zoneOf_0 {p : Int} (y : Int) (h : 0 ≤ p) : zoneOfV p y = 0 ↔ p = 0 := by unfold zoneOfV; repeat' split <;> omega
theorem zoneOf_c (p y : Int) (w : World) : Calls Tryd.prog 18 #[.int .i64 p, .int .i64 y] w fun e w' => e = .returned (.int .i64 (zoneOfV p y)) ∧ w = w' := by
  go_enter Tryd.func18, Tryd.ntmps18
  go_wp2
  all_goals (go_ret; exact ⟨ret_int (by unfold zoneOfV; repeat' split <;> omega), rfl⟩)
theorem iZoneOf_c (p y : Int) (w : World) : Calls Tryd.prog 6 #[.int .i64 p, .int .i64 y] w fun e w' => e = .returned (.tuple #[.int .i64 (zoneV p y).1, .int .i64 (zoneV p y).2]) ∧ w = w' := by
  have HV := Lib.hid (show zoneV p y = if inB p 0 1000000 = true ∧ inB y 1 300 = true then (zoneOfV p y, 0) else (0, 2) from rfl)
  cases h1 : inB p 0 1000000
  · have HW : Hid (zoneV p y = (0, 2)) := Lib.hid (by rw [HV.out, if_neg (by simp [h1])])
    go_enter Tryd.func6, Tryd.ntmps6
    go_wp2_with fail
    refine (within_c p 0 1000000 w).mono ?_
    rintro e w1 ⟨rfl, rfl⟩
    rw [h1]
    go_wp2
    go_ret2
    exact ⟨by rw [HW.out]; rfl, rfl⟩
  · cases h2 : inB y 1 300
    · have HW : Hid (zoneV p y = (0, 2)) := Lib.hid (by rw [HV.out, if_neg (by simp [h2])])
      go_enter Tryd.func6, Tryd.ntmps6
      go_wp2_with fail
      refine (within_c p 0 1000000 w).mono ?_
      rintro e w1 ⟨rfl, rfl⟩
      rw [h1]
      go_wp2_with fail
      refine (within_c y 1 300 w).mono ?_
      rintro e w1 ⟨rfl, rfl⟩
      rw [h2]
      go_wp2
      go_ret2
      exact ⟨by rw [HW.out]; rfl, rfl⟩
    · have HW : Hid (zoneV p y = (zoneOfV p y, 0)) := Lib.hid (by rw [HV.out, if_pos ⟨h1, h2⟩])
      go_enter Tryd.func6, Tryd.ntmps6
      go_wp2_with fail
      refine (within_c p 0 1000000 w).mono ?_
      rintro e w1 ⟨rfl, rfl⟩
      rw [h1]
      go_wp2_with fail
      refine (within_c y 1 300 w).mono ?_
      rintro e w1 ⟨rfl, rfl⟩
      rw [h2]
      go_wp2_with fail
      refine (zoneOf_c p y w).mono ?_
      rintro e w1 ⟨rfl, rfl⟩
      go_wp2
      go_ret2
      exact ⟨by rw [HW.out]; rfl, rfl⟩
/-! ### parts of a line -/
structure Pt where
  z : Int
  f : Nat
  l : Nat
def Pt.xs (p : Pt) : List Value := ints [p.z, (p.f : Int), (p.l : Int)]
def iA (zs : List Int) (k : Nat) : Int := (zs[k]?).getD 0
theorem iA_some {zs : List Int} {k : Nat} {z : Int} (h : zs[k]? = some z) : iA zs k = z := by rw [iA, h]; rfl
def newP (zs : List Int) (k : Nat) : Bool := decide (k = 0) || decide (iA zs k ≠ iA zs (k - 1))
def baseK (zs : List Int) (k : Nat) (P : List Pt) : List Pt := if newP zs k = true then P ++ [⟨iA zs k, k, k⟩] else P
def lastP (P : List Pt) : Pt := (P[P.length - 1]?).getD ⟨0, 0, 0⟩
def setLast (P : List Pt) (k : Nat) : List Pt := P.set (P.length - 1) ⟨(lastP P).z, (lastP P).f, k⟩
def partsK (zs : List Int) : Nat → List Pt
  | 0 => []
  | k + 1 => setLast (baseK zs k (partsK zs k)) k
theorem setLast_len (P : List Pt) (k : Nat) : (setLast P k).length = P.length := by simp [setLast]
theorem partsK_le (zs : List Int) : ∀ k, (partsK zs k).length ≤ k
  | 0 => by simp [partsK]
  | k + 1 => by
    have := partsK_le zs k
    rw [partsK, setLast_len, baseK]
    split
    · simp; omega
    · omega
structure PInv (zs : List Int) (k : Nat) (P : List Pt) : Prop where
  nil : k = 0 → P = []
  ne : 0 < k → 0 < P.length
  at_ : ∀ (i : Nat) p, P[i]? = some p → p.f ≤ p.l ∧ p.l < k ∧ (∀ j, p.f ≤ j → j ≤ p.l → iA zs j = p.z) ∧ (i = 0 → p.f = 0)
  next : ∀ (i : Nat) p q, P[i]? = some p → P[i + 1]? = some q → q.f = p.l + 1 ∧ q.z ≠ p.z
  last : ∀ p, P[P.length - 1]? = some p → p.l + 1 = k
theorem lastP_get {P : List Pt} (h : 0 < P.length) : P[P.length - 1]? = some (lastP P) := by
  have h1 := List.getElem?_eq_getElem (l := P) (i := P.length - 1) (by omega)
  unfold lastP
  rw [h1]; rfl
theorem setLast_at {P : List Pt} {k i : Nat} {p : Pt} (h : (setLast P k)[i]? = some p) : (i + 1 < P.length ∧ P[i]? = some p) ∨ (i + 1 = P.length ∧ p = ⟨(lastP P).z, (lastP P).f, k⟩) := by
  have hi := (List.getElem?_eq_some_iff.1 h).1
  rw [setLast_len] at hi
  unfold setLast at h
  by_cases e : i + 1 = P.length
  · right
    refine ⟨e, ?_⟩
    rw [show P.length - 1 = i by omega, List.getElem?_set_self hi] at h
    exact (Option.some.inj h).symm
  · left
    rw [List.getElem?_set_ne (by omega)] at h
    exact ⟨by omega, h⟩
theorem PInv.step {zs : List Int} {k : Nat} {P : List Pt} (h : PInv zs k P) : PInv zs (k + 1) (setLast (baseK zs k P) k) := by
  unfold baseK
  by_cases hn : newP zs k = true
  · rw [if_pos hn]
    have hnew := hn
    unfold newP at hnew
    simp only [Bool.or_eq_true, decide_eq_true_eq] at hnew
    have hlast : lastP (P ++ [⟨iA zs k, k, k⟩]) = ⟨iA zs k, k, k⟩ := by simp [lastP]
    have hl : (P ++ [(⟨iA zs k, k, k⟩ : Pt)]).length = P.length + 1 := by simp
    have at2 : ∀ (i : Nat) p, (setLast (P ++ [⟨iA zs k, k, k⟩]) k)[i]? = some p → (i < P.length ∧ P[i]? = some p) ∨ (i = P.length ∧ p = ⟨iA zs k, k, k⟩) := fun i p hp => by
      rcases setLast_at hp with ⟨h1, h2⟩ | ⟨h1, h2⟩
      · rw [hl] at h1
        rw [List.getElem?_append_left (by omega)] at h2
        exact .inl ⟨by omega, h2⟩
      · rw [hl] at h1
        rw [hlast] at h2
        exact .inr ⟨by omega, h2⟩
    refine ⟨fun e => by omega, fun _ => by rw [setLast_len, hl]; omega, fun i p hp => ?_, fun i p q hp hq => ?_, fun p hp => ?_⟩
    · rcases at2 i p hp with ⟨h1, h2⟩ | ⟨h1, rfl⟩
      · obtain ⟨g1, g2, g3, g4⟩ := h.at_ i p h2
        exact ⟨g1, by omega, g3, g4⟩
      · refine ⟨Nat.le_refl _, by show k < k + 1; omega, fun j h2 h3 => by rw [show j = k by simp only at h2 h3; omega], fun e => ?_⟩
        show k = 0
        rcases Nat.eq_zero_or_pos k with h0 | h0
        · exact h0
        · have := h.ne h0; omega
    · have hq2 := at2 _ q hq
      rcases at2 i p hp with ⟨h1, h2⟩ | ⟨h1, rfl⟩
      · rcases hq2 with ⟨g1, g2⟩ | ⟨g1, rfl⟩
        · exact h.next i p q h2 g2
        · have hl2 := h.last p (by rw [show P.length - 1 = i by omega]; exact h2)
          obtain ⟨q1, q2, q3, q4⟩ := h.at_ i p h2
          refine ⟨by show k = p.l + 1; omega, ?_⟩
          show iA zs k ≠ p.z
          rcases hnew with h0 | h0
          · omega
          · rw [← q3 (k - 1) (by omega) (by omega)]; exact h0
      · rcases hq2 with ⟨g1, g2⟩ | ⟨g1, g2⟩ <;> omega
    · rw [setLast_len, hl] at hp
      rcases at2 _ p hp with ⟨h1, h2⟩ | ⟨h1, rfl⟩
      · omega
      · rfl
  · rw [if_neg hn]
    have hnew := hn
    unfold newP at hnew
    simp only [Bool.or_eq_true, decide_eq_true_eq, not_or] at hnew
    have h0 : 0 < k := by omega
    have hne := h.ne h0
    have hlg := lastP_get hne
    obtain ⟨q1, q2, q3, q4⟩ := h.at_ _ _ hlg
    have hll := h.last _ hlg
    have heq : iA zs k = (lastP P).z := by
      rw [← q3 (k - 1) (by omega) (by omega)]
      exact Classical.byContradiction fun e => hnew.2 e
    refine ⟨fun e => by omega, fun _ => by rw [setLast_len]; exact hne, fun i p hp => ?_, fun i p q hp hq => ?_, fun p hp => ?_⟩
    · rcases setLast_at hp with ⟨h1, h2⟩ | ⟨h1, rfl⟩
      · obtain ⟨g1, g2, g3, g4⟩ := h.at_ i p h2
        exact ⟨g1, by omega, g3, g4⟩
      · refine ⟨by show (lastP P).f ≤ k; omega, by show k < k + 1; omega, fun j h2 h3 => ?_, fun e => ?_⟩
        · show iA zs j = (lastP P).z
          simp only at h2 h3
          rcases Nat.lt_or_ge j k with h4 | h4
          · exact q3 j h2 (by omega)
          · rw [show j = k by omega]; exact heq
        · exact q4 (by omega)
    · rcases setLast_at hp with ⟨h1, h2⟩ | ⟨h1, rfl⟩
      · rcases setLast_at hq with ⟨g1, g2⟩ | ⟨g1, rfl⟩
        · exact h.next i p q h2 g2
        · have := h.next i p (lastP P) h2 (by rw [show i + 1 = P.length - 1 by omega]; exact hlg)
          exact this
      · rcases setLast_at hq with ⟨g1, g2⟩ | ⟨g1, g2⟩ <;> omega
    · rw [setLast_len] at hp
      rcases setLast_at hp with ⟨h1, h2⟩ | ⟨h1, rfl⟩
      · omega
      · rfl
theorem parts_inv (zs : List Int) : ∀ k, PInv zs k (partsK zs k)
  | 0 => ⟨fun _ => rfl, fun h => by omega, fun i p h => by simp [partsK] at h, fun i p q h => by simp [partsK] at h, fun p h => by simp [partsK] at h⟩
  | k + 1 => (parts_inv zs k).step
/-- where part i begins -/
def startP (P : List Pt) (i : Nat) : Nat := if i = 0 then 0 else ((P[i - 1]?).map fun p => p.l + 1).getD 0
theorem startP_at {zs : List Int} {k : Nat} {P : List Pt} (h : PInv zs k P) {i : Nat} {p : Pt} (hp : P[i]? = some p) : startP P i = p.f ∧ startP P (i + 1) = p.l + 1 := by
  refine ⟨?_, ?_⟩
  · unfold startP
    by_cases h0 : i = 0
    · rw [if_pos h0]; exact ((h.at_ i p hp).2.2.2 h0).symm
    · have hi := (List.getElem?_eq_some_iff.1 hp).1
      have hq : P[i - 1]? = some (P[i - 1]'(by omega)) := List.getElem?_eq_getElem _
      rw [if_neg h0, hq]
      exact (h.next (i - 1) _ p hq (by rw [show i - 1 + 1 = i by omega]; exact hp)).1.symm
  · unfold startP
    rw [if_neg (by omega), show i + 1 - 1 = i by omega, hp]; rfl
theorem startP_end {zs : List Int} {k : Nat} {P : List Pt} (h : PInv zs k P) : startP P P.length = k := by
  rcases Nat.eq_zero_or_pos k with h0 | h0
  · subst h0; rw [h.nil rfl]; rfl
  · have hne := h.ne h0
    have hlg := lastP_get hne
    unfold startP
    rw [if_neg (by omega), hlg]
    exact h.last _ hlg
/-! ### lists of zones -/
def okZ (zs : List Int) : Bool := decide (zs.length ≤ 64) && allInB 0 3 zs
theorem okZ_iff {zs : List Int} : okZ zs = true ↔ zs.length ≤ 64 ∧ ∀ z ∈ zs, 0 ≤ z ∧ z ≤ 3 := by
  unfold okZ allInB inB
  simp
def zmax (a b : List Int) : List Int := List.zipWith max a b
theorem zmax_len {a b : List Int} (h : a.length = b.length) : (zmax a b).length = a.length := by simp [zmax, h]
theorem zmax_get {a b : List Int} {k : Nat} {x y : Int} (hx : a[k]? = some x) (hy : b[k]? = some y) : (zmax a b)[k]? = some (max x y) := by simp [zmax, List.getElem?_zipWith, hx, hy]
theorem zmax_ok {a b : List Int} (ha : okZ a = true) (hb : okZ b = true) (h : a.length = b.length) : okZ (zmax a b) = true := by
  rw [okZ_iff] at *
  refine ⟨by rw [zmax_len h]; exact ha.1, fun z hz => ?_⟩
  obtain ⟨k, hk⟩ := List.getElem?_of_mem hz
  have hkl := (List.getElem?_eq_some_iff.1 hk).1
  rw [zmax_len h] at hkl
  have hx := List.getElem?_eq_getElem (l := a) (i := k) hkl
  have hy := List.getElem?_eq_getElem (l := b) (i := k) (by omega)
  rw [zmax_get hx hy] at hk
  have h1 := ha.2 _ (List.mem_of_getElem? hx)
  have h2 := hb.2 _ (List.mem_of_getElem? hy)
  have := Option.some.inj hk
  omega
def worstV (a b : List Int) : List Int × Int := if okZ a = false ∨ okZ b = false then ([], 2) else if a.length ≠ b.length then ([], 7) else (zmax a b, 0)
theorem zn_nameZ {z : Int} (h : 0 ≤ z ∧ z ≤ 3) : zn (nameZ z) = z := by
  have h4 : z = 0 ∨ z = 1 ∨ z = 2 ∨ z = 3 := by omega
  rcases h4 with rfl | rfl | rfl | rfl <;> decide
theorem name_len {z : Int} (h : 0 ≤ z ∧ z ≤ 3) : 3 ≤ (nameZ z).size ∧ (nameZ z).size ≤ 6 := by
  have h4 : z = 0 ∨ z = 1 ∨ z = 2 ∨ z = 3 := by omega
  rcases h4 with rfl | rfl | rfl | rfl <;> decide
end Go.Proofs.YtjmnhmghpikknaaDoor
