/- Numbers put in order, by the reference (l00Put) and by insertion. -/
import Derived.Test.YteklfeeamjgplaaGreatDoorMio
import Derived.Test.YteklfeeamjgplaaGreatDoorTa
namespace Go.Proofs.YteklfeeamjgplaaGreatDoor
open Go.ChangeShapes Go.WideShapes Go.ChangeAt Go.RowKit
set_option linter.unusedVariables false

theorem owns_bel {w w' : World} {lo B s n : Nat} {T : TypeId} {v : Value} {xs : List Value} (h : w.ownsRow lo T s v n xs) (hb : Below B w w') (hB : w.heap.size ≤ B) : w'.ownsRow lo T s v n xs :=
  ((Own.of_owns h (Nat.le_refl _)).below hb hB).1
theorem owns_al {w : World} {lo s n : Nat} {T : TypeId} {v : Value} {xs : List Value} (h : w.ownsRow lo T s v n xs) (o : Obj) : (w.alloc o).ownsRow lo T s v n xs := owns_bel h ((Below.refl _ _).alloc (Nat.le_refl _) o) (Nat.le_refl _)
def putF (n : Int) (s : List Int × Bool) (x : Int) : List Int × Bool :=
  if s.2 = false ∧ n ≤ x then ((if n < x then s.1 ++ [n] else s.1) ++ [x], true) else (s.1 ++ [x], s.2)
def putS (l : List Int) (n : Int) : List Int × Bool := l.foldl (putF n) ([], false)
def putV (l : List Int) (n : Int) : List Int := if (putS l n).2 then (putS l n).1 else (putS l n).1 ++ [n]
theorem putS_snoc (l : List Int) (n x : Int) : putS (l ++ [x]) n = putF n (putS l n) x := by simp [putS, List.foldl_append]
def ins (n : Int) : List Int → List Int
  | [] => [n]
  | x :: r => if n ≤ x then (if n < x then n :: x :: r else x :: r) else x :: ins n r
theorem put_true (n : Int) : ∀ (l a : List Int), l.foldl (putF n) (a, true) = (a ++ l, true)
  | [], a => by simp
  | x :: l, a => by
    have e : putF n (a, true) x = (a ++ [x], true) := by simp [putF]
    rw [List.foldl_cons, e, put_true n l]; simp
def putE (s : List Int × Bool) (n : Int) : List Int := if s.2 then s.1 else s.1 ++ [n]
theorem put_ins (n : Int) : ∀ (l a : List Int), putE (l.foldl (putF n) (a, false)) n = a ++ ins n l
  | [], a => by simp [ins, putE]
  | x :: l, a => by
    rw [List.foldl_cons]
    by_cases h : n ≤ x
    · by_cases h2 : n < x
      · have e : putF n (a, false) x = ((a ++ [n]) ++ [x], true) := by simp [putF, h, h2]
        rw [e, put_true, ins, if_pos h, if_pos h2]; simp [putE]
      · have e : putF n (a, false) x = (a ++ [x], true) := by simp [putF, h, h2]
        rw [e, put_true, ins, if_pos h, if_neg h2]; simp [putE]
    · have e : putF n (a, false) x = (a ++ [x], false) := by simp [putF, h]
      rw [e, put_ins n l, ins, if_neg h]; simp
theorem putV_ins (l : List Int) (n : Int) : putV l n = ins n l := (put_ins n l []).trans (List.nil_append _)
theorem ins_mem (n : Int) : ∀ (l : List Int) (y : Int), y ∈ ins n l ↔ y ∈ l ∨ y = n
  | [], y => by simp [ins]
  | x :: l, y => by
    have ih := ins_mem n l y
    rw [ins]
    by_cases h : n ≤ x
    · rw [if_pos h]
      by_cases h2 : n < x
      · rw [if_pos h2]; simp only [List.mem_cons]; grind
      · have : n = x := by omega
        rw [if_neg h2]; simp only [List.mem_cons]; grind
    · rw [if_neg h]; simp only [List.mem_cons, ih]; grind
theorem ins_asc (n : Int) : ∀ (l : List Int), l.Pairwise (· < ·) → (ins n l).Pairwise (· < ·)
  | [], _ => by simp [ins]
  | x :: l, h => by
    have hp := List.pairwise_cons.1 h
    rw [ins]
    by_cases h1 : n ≤ x
    · rw [if_pos h1]
      by_cases h2 : n < x
      · rw [if_pos h2, List.pairwise_cons]
        refine ⟨fun y hy => ?_, h⟩
        rcases List.mem_cons.1 hy with e | e
        · omega
        · have := hp.1 y e; omega
      · rw [if_neg h2]; exact h
    · rw [if_neg h1, List.pairwise_cons]
      refine ⟨fun y hy => ?_, ins_asc n l hp.2⟩
      rcases (ins_mem n l y).1 hy with e | e
      · exact hp.1 y e
      · omega
def sortV (q : List Int) : List Int := q.foldl putV []
theorem sortV_snoc (q : List Int) (x : Int) : sortV (q ++ [x]) = putV (sortV q) x := by simp [sortV, List.foldl_append]
theorem foldIns : ∀ (q a : List Int), a.Pairwise (· < ·) → (q.foldl putV a).Pairwise (· < ·) ∧ ∀ y, y ∈ q.foldl putV a ↔ y ∈ a ∨ y ∈ q
  | [], a, h => ⟨h, fun y => by simp⟩
  | x :: q, a, h => by
    rw [List.foldl_cons]
    have h1 : (putV a x).Pairwise (· < ·) := by rw [putV_ins]; exact ins_asc x a h
    obtain ⟨h2, h3⟩ := foldIns q (putV a x) h1
    refine ⟨h2, fun y => ?_⟩
    rw [h3 y, putV_ins, ins_mem]
    simp only [List.mem_cons]; grind
theorem sortV_asc (q : List Int) : (sortV q).Pairwise (· < ·) := (foldIns q [] List.Pairwise.nil).1
theorem sortV_mem (q : List Int) (y : Int) : y ∈ sortV q ↔ y ∈ q := by rw [sortV, (foldIns q [] List.Pairwise.nil).2 y]; simp
theorem ascZ_ext : ∀ {l m : List Int}, l.Pairwise (· < ·) → m.Pairwise (· < ·) → (∀ x, x ∈ l ↔ x ∈ m) → l = m
  | [], [], _, _, _ => rfl
  | [], b :: m, _, _, h => by have := (h b).2 (List.mem_cons_self ..); simp at this
  | a :: l, [], _, _, h => by have := (h a).1 (List.mem_cons_self ..); simp at this
  | a :: l, b :: m, hl, hm, h => by
    rw [List.pairwise_cons] at hl hm
    have hab : a = b := by
      rcases List.mem_cons.1 ((h a).1 (List.mem_cons_self ..)) with e | e
      · exact e
      · rcases List.mem_cons.1 ((h b).2 (List.mem_cons_self ..)) with e2 | e2
        · exact e2.symm
        · have h1 := hm.1 a e
          have h2 := hl.1 b e2
          omega
    subst hab
    rw [ascZ_ext hl.2 hm.2 (fun x => ?_)]
    constructor
    · intro hx
      rcases List.mem_cons.1 ((h x).1 (List.mem_cons_of_mem _ hx)) with e | e
      · have := hl.1 x hx; omega
      · exact e
    · intro hx
      rcases List.mem_cons.1 ((h x).2 (List.mem_cons_of_mem _ hx)) with e | e
      · have := hm.1 x hx; omega
      · exact e
/-- a list in order that holds the same numbers, each once -/
theorem sorted_sortV {q z : List Int} (hp : z.Perm q) (hn : q.Nodup) (hs : ∀ a b (hab : a < b) (hb : b < z.length), z[a] ≤ z[b]) : z = sortV q := by
  refine ascZ_ext ?_ (sortV_asc q) (fun x => ?_)
  · rw [List.pairwise_iff_getElem]
    intro a b ha hb hab
    have h1 := hs a b hab hb
    have hzn : z.Nodup := (hp.nodup_iff).2 hn
    have h2 := (List.pairwise_iff_getElem.1 hzn) a b ha hb hab
    omega
  · rw [sortV_mem, hp.mem_iff]
end Go.Proofs.YteklfeeamjgplaaGreatDoor
