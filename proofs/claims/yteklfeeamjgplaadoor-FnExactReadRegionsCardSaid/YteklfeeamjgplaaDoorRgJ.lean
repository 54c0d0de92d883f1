/- Valid regions: plain facts. -/
import Derived.Test.YteklfeeamjgplaaDoorRgI
namespace Go.Proofs.YteklfeeamjgplaaDoor
open Go.ChangeShapes Go.WideShapes Go.ChangeAt Go.RowKit
set_option linter.unusedVariables false

theorem u8_tri (a b : UInt8) : a < b ∨ a = b ∨ b < a := by
  rcases Nat.lt_trichotomy a.toNat b.toNat with h | h | h
  · exact .inl (UInt8.lt_iff_toNat_lt.2 h)
  · exact .inr (.inl (UInt8.toNat_inj.1 h))
  · exact .inr (.inr (UInt8.lt_iff_toNat_lt.2 h))
theorem bl_tri : ∀ x y : List UInt8, (Op.bytesLess x y || x == y) = !(Op.bytesLess y x)
  | [], [] => by simp [Op.bytesLess]
  | [], b :: y => by simp [Op.bytesLess]
  | a :: x, [] => by simp [Op.bytesLess]
  | a :: x, b :: y => by
    have ih := bl_tri x y
    rw [Bool.eq_iff_iff] at ih ⊢
    simp only [Op.bytesLess, Bool.or_eq_true, decide_eq_true_eq, Bool.and_eq_true, beq_iff_eq, Bool.not_eq_true', List.cons.injEq, Bool.or_eq_false_iff, Bool.and_eq_false_iff, decide_eq_false_iff_not] at ih ⊢
    rcases u8_tri a b with h | h | h
    · have h1 : ¬ b < a := UInt8.lt_asymm h
      have h2 : ¬ b = a := fun e => by rw [e] at h; exact UInt8.lt_irrefl _ h
      simp [h, h1, h2]
    · subst h
      have h1 : ¬ a < a := UInt8.lt_irrefl _
      simp only [h1, false_or, true_and, not_false_eq_true, beq_self_eq_true]
      simp only [Bool.true_eq_false, false_or]
      exact ih
    · have h1 : ¬ a < b := UInt8.lt_asymm h
      have h2 : ¬ a = b := fun e => by rw [e] at h; exact UInt8.lt_irrefl _ h
      simp [h, h1, h2]
theorem bl_irrefl : ∀ x : List UInt8, Op.bytesLess x x = false
  | [] => rfl
  | a :: x => by simp [Op.bytesLess, bl_irrefl x, UInt8.lt_irrefl]
theorem bl_trans : ∀ {x y z : List UInt8}, Op.bytesLess x y = true → Op.bytesLess y z = true → Op.bytesLess x z = true
  | [], [], _, h, _ => by simp [Op.bytesLess] at h
  | _, _ :: _, [], _, h => by simp [Op.bytesLess] at h
  | [], b :: y, c :: z, _, _ => by simp [Op.bytesLess]
  | a :: x, [], _, h, _ => by simp [Op.bytesLess] at h
  | a :: x, b :: y, c :: z, h1, h2 => by
    simp only [Op.bytesLess, Bool.or_eq_true, decide_eq_true_eq, Bool.and_eq_true, beq_iff_eq] at h1 h2 ⊢
    rcases h1 with h1 | ⟨e1, h1⟩
    · rcases h2 with h2 | ⟨e2, h2⟩
      · exact .inl (UInt8.lt_trans h1 h2)
      · exact .inl (by rw [← e2]; exact h1)
    · subst e1
      rcases h2 with h2 | ⟨e2, h2⟩
      · exact .inl h2
      · exact .inr ⟨e2, bl_trans h1 h2⟩
def ltS (a b : ByteArray) : Bool := Op.bytesLess a.toList b.toList
def sAt (l : List ByteArray) (k : Nat) : ByteArray := (l[k]?).getD ⟨#[]⟩
theorem sAt_get {l : List ByteArray} {k : Nat} {s : ByteArray} (h : l[k]? = some s) : sAt l k = s := by rw [sAt, h]; rfl
def idAt (rs : List Rg) (i : Nat) : ByteArray := ((rs[i]?).map Rg.id).getD ⟨#[]⟩
theorem idAt_get {rs : List Rg} {i : Nat} {x : Rg} (h : rs[i]? = some x) : idAt rs i = x.id := by rw [idAt, h]; rfl
def okIn (rs : List Rg) (x : Rg) (k : Nat) : Bool := (decide (k = 0) || ltS (sAt x.near (k - 1)) (sAt x.near k)) && !eqS (sAt x.near k) x.id && isNearR rs (sAt x.near k) x.id
def okNear (rs : List Rg) (x : Rg) (m : Nat) : Bool := (List.range m).all (okIn rs x)
def okAt (rs : List Rg) (i : Nat) : Bool := match rs[i]? with
  | none => true
  | some x => nameV x.id && inB x.lv 1 5 && (decide (i = 0) || ltS (idAt rs (i - 1)) x.id) && okNear rs x x.near.length
def okTo (rs : List Rg) (k : Nat) : Bool := (List.range k).all (okAt rs)
def validR (rs : List Rg) : Bool := decide (rs.length ≤ 8) && okTo rs rs.length
theorem okNear_succ (rs : List Rg) (x : Rg) (k : Nat) : okNear rs x (k + 1) = (okNear rs x k && okIn rs x k) := by simp [okNear, List.range_succ]
theorem okNear_no {rs : List Rg} {x : Rg} {k m : Nat} (hk : k < m) (h : okIn rs x k = false) : okNear rs x m = false := List.all_eq_false.2 ⟨k, List.mem_range.2 hk, by simp [h]⟩
theorem okTo_succ (rs : List Rg) (k : Nat) : okTo rs (k + 1) = (okTo rs k && okAt rs k) := by simp [okTo, List.range_succ]
theorem okTo_no {rs : List Rg} {k m : Nat} (hk : k < m) (h : okAt rs k = false) : okTo rs m = false := List.all_eq_false.2 ⟨k, List.mem_range.2 hk, by simp [h]⟩
theorem okAt_some {rs : List Rg} {i : Nat} {x : Rg} (h : rs[i]? = some x) : okAt rs i = (nameV x.id && inB x.lv 1 5 && (decide (i = 0) || ltS (idAt rs (i - 1)) x.id) && okNear rs x x.near.length) := by simp only [okAt, h]
theorem okTo_at {rs : List Rg} {k j : Nat} (h : okTo rs k = true) (hj : j < k) : okAt rs j = true := List.all_eq_true.1 h j (List.mem_range.2 hj)
/-- names rise -/
theorem ids_rise {rs : List Rg} {i : Nat} (hi : i < rs.length) (h : okTo rs i = true) (hl : i = 0 ∨ ltS (idAt rs (i - 1)) (idAt rs i) = true) : ∀ d j, j + d + 1 = i → ltS (idAt rs j) (idAt rs i) = true
  | 0, j, e => by
    rcases hl with h0 | h0
    · omega
    · rwa [show i - 1 = j by omega] at h0
  | d + 1, j, e => by
    have ih := ids_rise hi h hl d (j + 1) (by omega)
    have hj : j + 1 < rs.length := by omega
    have hs : rs[j + 1]? = some (rs[j + 1]'hj) := List.getElem?_eq_getElem hj
    have h1 := okTo_at h (show j + 1 < i by omega)
    rw [okAt_some hs] at h1
    simp only [Bool.and_eq_true, Bool.or_eq_true, decide_eq_true_eq, Nat.add_sub_cancel] at h1
    have h2 := h1.1.2
    rcases h2 with h2 | h2
    · omega
    · rw [← idAt_get hs] at h2
      exact bl_trans h2 ih
theorem find_self {rs : List Rg} {i : Nat} {x : Rg} (hx : rs[i]? = some x) (h : okTo rs i = true) (hl : i = 0 ∨ ltS (idAt rs (i - 1)) x.id = true) {s : ByteArray} (h0 : 0 ≤ findR rs s) : (findR rs s = i ↔ eqS s x.id = true) := by
  have hi : i < rs.length := (List.getElem?_eq_some_iff.1 hx).1
  rw [← idAt_get hx] at hl
  have hr := ids_rise hi h hl
  constructor
  · intro e
    have hsp := idxOf_spec (findP s) rs (by unfold findR at h0; exact h0)
    unfold findR at e
    rw [e, Int.toNat_natCast] at hsp
    obtain ⟨y, hy, hp, _⟩ := hsp
    rw [hx] at hy; injection hy with hy; subst hy
    rw [eqS_comm]; exact hp
  · intro e
    obtain ⟨y, hy, hp, hfirst⟩ := idxOf_spec (findP s) rs (by unfold findR at h0; exact h0)
    have hpx : findP s x = true := by unfold findP; rw [eqS_comm]; exact e
    have hle : (idxOf (findP s) rs).toNat ≤ i := by
      rcases Nat.lt_or_ge i (idxOf (findP s) rs).toNat with hlt | hge
      · have := hfirst i hlt x hx
        rw [hpx] at this; cases this
      · exact hge
    rcases Nat.lt_or_eq_of_le hle with hlt | heq
    · have h1 := hr (i - (idxOf (findP s) rs).toNat - 1) (idxOf (findP s) rs).toNat (by omega)
      rw [idAt_get hy, idAt_get hx] at h1
      have e1 : y.id.toList = x.id.toList := by
        have a1 : y.id.toList = s.toList := by simpa [findP, eqS] using hp
        have a2 : s.toList = x.id.toList := by simpa [eqS] using e
        rw [a1, a2]
      unfold ltS at h1
      rw [e1, bl_irrefl] at h1; cases h1
    · unfold findR at h0 ⊢
      omega
end Go.Proofs.YteklfeeamjgplaaDoor
