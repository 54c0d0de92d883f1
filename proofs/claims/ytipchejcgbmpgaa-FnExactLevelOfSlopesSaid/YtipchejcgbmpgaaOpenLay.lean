/- Opening a slice of structs Layer. (open_slice_fields: laid out for copying in the guide's page extra-structs.) (Written by wip/tools/structs.py.) -/
import Derived.Test.YtipchejcgbmpgaaOpen
import Derived.Test.YtipchejcgbmpgaaOpenF
import Derived.Test.YtipchejcgbmpgaaLayS
namespace Go.Proofs.Ytipchejcgbmpgaa
open Go.ChangeShapes Go.WideShapes Go.ChangeAt Go.RowKit Go.Deep
set_option linter.unusedVariables false
theorem lays_inv {ss : List Lay} {j : Nat} {u : Value} (h : (lays ss)[j]? = some u) :
    ∃ s, ss[j / 7]? = some s ∧ ((j % 7 = 0 ∧ u = .int .i64 s.form) ∨ (j % 7 = 1 ∧ u = .int .i64 s.ice) ∨ (j % 7 = 2 ∧ u = .int .i64 s.water) ∨ (j % 7 = 3 ∧ u = .int .i64 s.density) ∨ (j % 7 = 4 ∧ u = .int .i64 s.degrees) ∨ (j % 7 = 5 ∧ u = .int .i64 s.hardness) ∨ (j % 7 = 6 ∧ u = .int .i64 s.age)) := by
  have hj := (List.getElem?_eq_some_iff.1 h).1
  rw [lays_len] at hj
  have hs : ss[j / 7]? = some (ss[j / 7]'(by omega)) := List.getElem?_eq_getElem (by omega)
  refine ⟨_, hs, ?_⟩
  obtain ⟨h0, h1, h2, h3, h4, h5, h6⟩ := lays_get hs
  have h3 : j % 7 = 0 ∨ j % 7 = 1 ∨ j % 7 = 2 ∨ j % 7 = 3 ∨ j % 7 = 4 ∨ j % 7 = 5 ∨ j % 7 = 6 := by omega
  rcases h3 with hm | hm | hm | hm | hm | hm | hm
  · rw [show j / 7 * 7 = j from by omega, h] at h0; injection h0 with h0; exact .inl ⟨hm, h0⟩
  · rw [show j / 7 * 7 + 1 = j from by omega, h] at h1; injection h1 with h1; exact .inr (.inl ⟨hm, h1⟩)
  · rw [show j / 7 * 7 + 2 = j from by omega, h] at h2; injection h2 with h2; exact .inr (.inr (.inl ⟨hm, h2⟩))
  · rw [show j / 7 * 7 + 3 = j from by omega, h] at h3; injection h3 with h3; exact .inr (.inr (.inr (.inl ⟨hm, h3⟩)))
  · rw [show j / 7 * 7 + 4 = j from by omega, h] at h4; injection h4 with h4; exact .inr (.inr (.inr (.inr (.inl ⟨hm, h4⟩))))
  · rw [show j / 7 * 7 + 5 = j from by omega, h] at h5; injection h5 with h5; exact .inr (.inr (.inr (.inr (.inr (.inl ⟨hm, h5⟩)))))
  · rw [show j / 7 * 7 + 6 = j from by omega, h] at h6; injection h6 with h6; exact .inr (.inr (.inr (.inr (.inr (.inr (⟨hm, h6⟩))))))
section
variable {H : Type} {enc : TypeId × Value → H} {w : World} {base : Nat} {spare : Nat → Bool} {held : Bool}
def wit_lays : Value := .slice none 0 0
theorem open_lays {v : Value} {d : DataW H} {p : List MemPlace} {r : Reach} {b0 : Nat} (hv : Value.okWide Try.prog w r b0 22 v) (h : DataW.Trod enc Try.prog w base spare held 22 v d p) :
    ∃ x : Option Addr × Nat × Nat, v = .slice x.1 x.2.1 x.2.2 ∧ ∃ ss, Reads w w.heap.size 7 x.1 x.2.1 (lays ss) ∧ x.2.1 ≤ x.2.2 ∧ x.2.2 ≤ maxLen := by
  obtain ⟨a0, len, cap, rfl⟩ := okWide_slice Try.underlying22 hv
  obtain ⟨fuel, hf⟩ := h
  rcases open_slice_fields Try.underlying22 Try.underlying54 (by kernel_rfl) (by kernel_rfl) hf with ⟨hcs, _⟩ | ⟨x, l, c, m, D, Pl, hcs, _, hl, hm, hmm, _, hi⟩
  · simp [Value.cells] at hcs
    obtain ⟨rfl, rfl, rfl⟩ := hcs
    exact ⟨(none, 0, 0), rfl, [], ⟨by simp [lays], fun h => by simp at h⟩, Nat.le_refl _, by simp [maxLen]⟩
  · simp [Value.cells] at hcs
    obtain ⟨rfl, rfl, rfl⟩ := hcs
    have hml : len ≤ m := by rw [hmm]; split <;> omega
    have hcell : ∀ i, i < len → ∃ s : Lay, w.cell? (x.add (i * 7)) = some (.int .i64 s.form) ∧ w.cell? (x.add (i * 7 + 1)) = some (.int .i64 s.ice) ∧ w.cell? (x.add (i * 7 + 2)) = some (.int .i64 s.water) ∧ w.cell? (x.add (i * 7 + 3)) = some (.int .i64 s.density) ∧ w.cell? (x.add (i * 7 + 4)) = some (.int .i64 s.degrees) ∧ w.cell? (x.add (i * 7 + 5)) = some (.int .i64 s.hardness) ∧ w.cell? (x.add (i * 7 + 6)) = some (.int .i64 s.age) := by
      intro i hil
      obtain ⟨ys, n', _, _, _, hfd⟩ := hi i (by omega)
      obtain ⟨v0, y0, g0, _, t0⟩ := hfd 0 _ rfl
      obtain ⟨v1, y1, g1, _, t1⟩ := hfd 1 _ rfl
      obtain ⟨v2, y2, g2, _, t2⟩ := hfd 2 _ rfl
      obtain ⟨v3, y3, g3, _, t3⟩ := hfd 3 _ rfl
      obtain ⟨v4, y4, g4, _, t4⟩ := hfd 4 _ rfl
      obtain ⟨v5, y5, g5, _, t5⟩ := hfd 5 _ rfl
      obtain ⟨v6, y6, g6, _, t6⟩ := hfd 6 _ rfl
      obtain ⟨a0, e0, -, w0⟩ := DataW.trod_int Try.underlying2 t0
      obtain ⟨a1, e1, -, w1⟩ := DataW.trod_int Try.underlying2 t1
      obtain ⟨a2, e2, -, w2⟩ := DataW.trod_int Try.underlying2 t2
      obtain ⟨a3, e3, -, w3⟩ := DataW.trod_int Try.underlying2 t3
      obtain ⟨a4, e4, -, w4⟩ := DataW.trod_int Try.underlying2 t4
      obtain ⟨a5, e5, -, w5⟩ := DataW.trod_int Try.underlying2 t5
      obtain ⟨a6, e6, -, w6⟩ := DataW.trod_int Try.underlying2 t6
      simp at e0 e1 e2 e3 e4 e5 e6
      subst e0 e1 e2 e3 e4 e5 e6
      exact ⟨⟨a0, a1, a2, a3, a4, a5, a6⟩, g0, g1, g2, g3, g4, g5, g6⟩
    obtain ⟨ss, hsl, hss⟩ := list_of _ len hcell
    refine ⟨(some x, len, cap), rfl, ss, ⟨by rw [lays_len, hsl], fun hn => ⟨x, rfl, ?_, fun j u hu => ?_⟩⟩, hl, hm⟩
    · obtain ⟨s, h0, _⟩ := hcell 0 hn
      have := World.block_lt_of_cell? _ _ h0
      rwa [block_of_add] at this
    · obtain ⟨s, hs, hc⟩ := lays_inv hu
      obtain ⟨h0, h1, h2, h3, h4, h5, h6⟩ := hss _ _ hs
      rcases hc with ⟨hmd, rfl⟩ | ⟨hmd, rfl⟩ | ⟨hmd, rfl⟩ | ⟨hmd, rfl⟩ | ⟨hmd, rfl⟩ | ⟨hmd, rfl⟩ | ⟨hmd, rfl⟩
      · rwa [show j / 7 * 7 = j from by omega] at h0
      · rwa [show j / 7 * 7 + 1 = j from by omega] at h1
      · rwa [show j / 7 * 7 + 2 = j from by omega] at h2
      · rwa [show j / 7 * 7 + 3 = j from by omega] at h3
      · rwa [show j / 7 * 7 + 4 = j from by omega] at h4
      · rwa [show j / 7 * 7 + 5 = j from by omega] at h5
      · rwa [show j / 7 * 7 + 6 = j from by omega] at h6
end
end Go.Proofs.Ytipchejcgbmpgaa
