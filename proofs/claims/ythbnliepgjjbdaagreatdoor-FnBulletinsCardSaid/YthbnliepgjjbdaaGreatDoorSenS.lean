/- Lists of sentences: the laws' own helpers. -/
import Derived.Test.YthbnliepgjjbdaaGreatDoorSen
import Derived.Deep.RegionHeld3
import Derived.Deep.LoopGhost
namespace Go.Proofs.YthbnliepgjjbdaaGreatDoor
open Go.ChangeShapes Go.WideShapes Go.ChangeAt Go.RowKit
set_option linter.unusedVariables false

/-- a sentence: kind and two numbers -/
structure Sen where
  k : Int
  a : Int
  b : Int
instance Sen.decEq : DecidableEq Sen := fun s t =>
  if h : s.k = t.k ∧ s.a = t.a ∧ s.b = t.b then isTrue (by cases s; cases t; obtain ⟨h1, h2, h3⟩ := h; cases h1; cases h2; cases h3; rfl)
  else isFalse (fun e => by subst e; exact h ⟨rfl, rfl, rfl⟩)
def Sen.cells (s : Sen) : List Value := [.int .i64 s.k, .int .i64 s.a, .int .i64 s.b]
def Sen.val (s : Sen) : Value := .agg #[.int .i64 s.k, .int .i64 s.a, .int .i64 s.b]
def sens (ss : List Sen) : List Value := ss.flatMap Sen.cells
def Sen.ok (s : Sen) : Bool := okS s.k s.a s.b
theorem sens_len (ss : List Sen) : (sens ss).length = ss.length * 3 := by
  induction ss with
  | nil => rfl
  | cons s r ih => simp only [sens, List.flatMap_cons, List.length_append, List.length_cons] at ih ⊢; rw [ih]; simp [Sen.cells]; omega
theorem sens_app (a b : List Sen) : sens (a ++ b) = sens a ++ sens b := by simp [sens]
theorem sens_cons (s : Sen) (r : List Sen) : sens (s :: r) = s.cells ++ sens r := by simp [sens]
theorem sens_get {ss : List Sen} {i : Nat} {s : Sen} (h : ss[i]? = some s) :
    (sens ss)[i * 3]? = some (.int .i64 s.k) ∧ (sens ss)[i * 3 + 1]? = some (.int .i64 s.a) ∧ (sens ss)[i * 3 + 2]? = some (.int .i64 s.b) := by
  have e := drop_cons_get' h
  have hl : (sens (ss.take i)).length = i * 3 := by
    rw [sens_len, List.length_take]
    have := (List.getElem?_eq_some_iff.1 h).1
    omega
  rw [e, sens_app, sens_cons]
  refine ⟨?_, ?_, ?_⟩ <;> rw [List.getElem?_append_right (by omega), hl]
  · rw [show i * 3 - i * 3 = 0 from by omega]; rfl
  · rw [show i * 3 + 1 - i * 3 = 1 from by omega]; rfl
  · rw [show i * 3 + 2 - i * 3 = 2 from by omega]; rfl
theorem addr_field (a : Addr) (i j : Nat) (hj : 0 < j) : (⟨(a.add i).block, (a.add i).off + j, none⟩ : Addr) = a.add (i + j) := by
  unfold Addr.add
  by_cases hi : i = 0
  · subst hi; rw [if_pos rfl, if_neg (by omega), Nat.zero_add]
  · rw [if_neg hi, if_neg (by omega)]; simp; omega
/-- element k of a list of sentences in memory: its three cells, at the walk's own addresses -/
theorem Reads.sen {w : World} {B n k : Nat} {A : Option Addr} {ss : List Sen} (h : Reads w B 3 A n (sens ss)) (hk : k < n) :
    ∃ ad s, A = some ad ∧ ad.block < B ∧ ss[k]? = some s ∧ w.cell? (ad.add (k * 3)) = some (.int .i64 s.k) ∧ w.cell? ⟨(ad.add (k * 3)).block, (ad.add (k * 3)).off + 1, none⟩ = some (.int .i64 s.a) ∧
      w.cell? ⟨(ad.add (k * 3)).block, (ad.add (k * 3)).off + 2, none⟩ = some (.int .i64 s.b) := by
  obtain ⟨ad, rfl, hb, hc⟩ := h.2 (by omega)
  have hl : ss.length = n := by have := h.1; rw [sens_len] at this; omega
  have hs : ss[k]? = some ss[k] := List.getElem?_eq_getElem (by omega)
  obtain ⟨h0, h1, h2⟩ := sens_get hs
  refine ⟨ad, ss[k], rfl, hb, hs, hc _ _ h0, ?_, ?_⟩
  · rw [addr_field _ _ _ (by omega)]; exact hc _ _ h1
  · rw [addr_field _ _ _ (by omega)]; exact hc _ _ h2
/-- element k at the address ad is the sentence s -/
def SenAt (w : World) (ad : Addr) (k : Nat) (s : Sen) : Prop := w.cell? (ad.add (k * 3)) = some (.int .i64 s.k) ∧ w.cell? ⟨(ad.add (k * 3)).block, (ad.add (k * 3)).off + 1, none⟩ = some (.int .i64 s.a) ∧
      w.cell? ⟨(ad.add (k * 3)).block, (ad.add (k * 3)).off + 2, none⟩ = some (.int .i64 s.b)
/-- it stays so in every world that keeps what lies below B -/
theorem Reads.senKept {w : World} {B n k : Nat} {A : Option Addr} {ss : List Sen} (h : Reads w B 3 A n (sens ss)) (hk : k < n) :
    ∃ ad s, A = some ad ∧ ss[k]? = some s ∧ ∀ W, Below B w W → SenAt W ad k s := by
  obtain ⟨ad, s, rfl, hb, hs, _⟩ := h.sen hk
  refine ⟨ad, s, rfl, hs, fun W hW => ?_⟩
  obtain ⟨ad', s', e, _, hs', hc⟩ := (h.below hW).sen hk
  obtain rfl : ad = ad' := by injection e
  obtain rfl : s = s' := by rw [hs] at hs'; injection hs'
  exact hc
theorem Reads.senLen {w : World} {B n : Nat} {A : Option Addr} {ss : List Sen} (h : Reads w B 3 A n (sens ss)) : ss.length = n := by
  have := h.1; rw [sens_len] at this; omega

theorem info_sen : (Tryz.prog.info? 38).map (fun i => (i.zero, i.size, i.bytes)) = some (some (.agg #[.int .i64 0, .int .i64 0, .int .i64 0]), 3, 24) := by kernel_rfl
end Go.Proofs.YthbnliepgjjbdaaGreatDoor
