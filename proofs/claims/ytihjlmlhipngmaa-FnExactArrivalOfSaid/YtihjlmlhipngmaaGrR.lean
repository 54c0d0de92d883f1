/- SlopeTo by the program and by the reference. -/
import Derived.Test.YtihjlmlhipngmaaGrQ
namespace Go.Proofs.Ytihjlmlhipngmaa
open Go.ChangeShapes Go.WideShapes Go.ChangeAt Go.RowKit
set_option linter.unusedVariables false

theorem greads_lit1 (w : World) (a : Int) : Reads (w.alloc (.cells #[.int .i64 a] 2)) (w.heap.size + 1) 1 (some ⟨w.heap.size, 0, none⟩) 1 (ints [a]) := by
  refine ⟨rfl, fun _ => ⟨_, rfl, by simp, fun j u hu => ?_⟩⟩
  have K := Blk.new w 2 #[.int .i64 a]
  have e : (⟨w.heap.size, 0, none⟩ : Addr).add j = ⟨w.heap.size, j, none⟩ := by unfold Addr.add; split <;> simp_all
  rw [e, K.cell j]
  simpa [ints] using hu
theorem greads_lit2 (w : World) (a b : Int) : Reads (w.alloc (.cells #[.int .i64 a, .int .i64 b] 2)) (w.heap.size + 1) 1 (some ⟨w.heap.size, 0, none⟩) 2 (ints [a, b]) := by
  refine ⟨rfl, fun _ => ⟨_, rfl, by simp, fun j u hu => ?_⟩⟩
  have K := Blk.new w 2 #[.int .i64 a, .int .i64 b]
  have e : (⟨w.heap.size, 0, none⟩ : Addr).add j = ⟨w.heap.size, j, none⟩ := by unfold Addr.add; split <;> simp_all
  rw [e, K.cell j]
  simpa [ints] using hu
def findS (to_ : Int) (l : List Stp) : Option Stp := l.find? fun x => decide (x.cell = to_)
theorem findS_none {to_ : Int} {l : List Stp} (h : ∀ x ∈ l, x.cell ≠ to_) : findS to_ l = none := by
  simp only [findS, List.find?_eq_none, decide_eq_true_eq]; exact h
theorem findS_at {to_ : Int} {l : List Stp} {k : Nat} {x : Stp} (h : l[k]? = some x) (hx : x.cell = to_) (hb : ∀ y ∈ l.take k, y.cell ≠ to_) : findS to_ l = some x := by
  have e := drop_cons_get' h
  rw [e, findS, List.find?_append, show List.find? (fun x => decide (x.cell = to_)) (l.take k) = none from findS_none hb]
  simp [hx]
theorem findS_next {g : Gr} {cell to_ : Int} {a : Nat} (h : goV g cell a = to_) (h0 : 0 ≤ to_) (hb : ∀ a', a' < a → goV g cell a' ≠ to_) : ∀ k, a < k → findS to_ (nextTo g cell k) = some (stpV g cell a)
  | 0, hk => by omega
  | k + 1, hk => by
    by_cases hak : a = k
    · subst hak
      have hgb : goB g cell a = true := by
        cases hc : goB g cell a
        · rw [goV, hc] at h; simp at h; omega
        · rfl
      rw [nextTo_t hgb, findS, List.find?_append, show List.find? (fun x => decide (x.cell = to_)) (nextTo g cell a) = none from findS_none (fun x hx => by
        obtain ⟨a', h1, _, h3⟩ := nextTo_mem hx
        rw [h3]; exact hb a' h1)]
      simp [stpV, h]
    · have ih := findS_next h h0 hb k (by omega)
      rw [nextTo, findS, List.find?_append, show List.find? (fun x => decide (x.cell = to_)) (nextTo g cell k) = some (stpV g cell a) from ih]
      rfl
theorem findS_nonext {g : Gr} {cell to_ : Int} (hb : ∀ a, a < 8 → goV g cell a ≠ to_) : findS to_ (nextTo g cell 8) = none := findS_none fun x hx => by
  obtain ⟨a, h1, _, h3⟩ := nextTo_mem hx
  rw [h3]; exact hb a h1
def slopeToV (g : Gr) (a b : Int) : Int × Int :=
  if codeG g [a, b] ≠ 0 then (0, codeG g [a, b]) else match findS b (nextTo g a 8) with
    | some x => (x.slope, 0)
    | none => (0, 6)
theorem codeG_two (g : Gr) (a b : Int) : codeG g [a, b] = if askG g a ≠ 0 then askG g a else if inG g b = false then 2 else 0 := by
  unfold codeG askG inG
  cases g.ok
  · simp
  · cases h1 : inB a 0 ((g.hs.length : Int) - 1) <;> cases h2 : inB b 0 ((g.hs.length : Int) - 1) <;> simp [allInB, h1, h2]
theorem codeG_two_zero {g : Gr} {a b : Int} (h : codeG g [a, b] = 0) : g.ok = true ∧ (0 ≤ a ∧ a < g.hs.length) ∧ (0 ≤ b ∧ b < g.hs.length) := by
  rw [codeG_two] at h
  by_cases h0 : askG g a = 0
  · rw [if_neg (by simp [h0])] at h
    have := askG_zero h0
    cases h2 : inG g b
    · rw [h2] at h; simp at h
    · have := inB_bd h2; refine ⟨by simp_all, by omega, by omega⟩
  · rw [if_pos h0] at h; exact absurd h h0
end Go.Proofs.Ytihjlmlhipngmaa
