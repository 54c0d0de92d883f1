/- Lists of regions: opening an argument. (open_slice_fields: laid out for copying in the guide's page extra-structs.) -/
import Derived.Test.YteklfeeamjgplaaDoorRgC
import Derived.Deep.Slices
import Derived.SliceStrings
import Derived.ChangeSame
namespace Go.Proofs.YteklfeeamjgplaaDoor
open Go.ChangeShapes Go.WideShapes Go.ChangeAt Go.RowKit Go.Deep
set_option linter.unusedVariables false
section
variable {H : Type} {enc : TypeId × Value → H} {P : Program} {w : World} {base : Nat} {spare : Nat → Bool} {held : Bool}
theorem open_slice_fields {t e : TypeId} {fs : Array Field} {fuel : Nat} {cs : List Value} {x : DataW H × List MemPlace} (ht : P.underlying t = some (.slice e)) (he : P.underlying e = some (.struct fs))
    (hone : oneCellFields P fs = true) (hC : P.cellsOf e = fs.size) (h : DataW.trod enc P w base spare held fuel t cs = some x) :
    (cs = [.slice none 0 0] ∧ x = (.nil, [])) ∨
    ∃ (a : Addr) (len cap m : Nat) (D : Nat → DataW H) (Pl : Nat → List MemPlace), cs = [.slice (some a) len cap] ∧ base ≤ a.block ∧ len ≤ cap ∧ cap ≤ maxLen ∧ m = (if spare a.block then cap else len) ∧
      x = (.slice ((List.range len).map D) ((List.range (m - len)).map fun j => D (len + j)), MemPlace.row a (m * fs.size) ++ (List.range m).flatMap Pl) ∧
      ∀ i, i < m → ∃ (ys : List (DataW H × List MemPlace)) (n : Nat), D i = .agg (ys.map (·.1)) ∧ Pl i = ys.flatMap (·.2) ∧ ys.length = fs.size ∧
        ∀ (j : Nat) (f : Field), fs[j]? = some f → ∃ (v : Value) (y : DataW H × List MemPlace), w.cell? (a.add (i * fs.size + j)) = some v ∧ ys[j]? = some y ∧ DataW.trod enc P w base spare held n f.type [v] = some y := by
  rcases open_slice ht h with h0 | ⟨a, len, cap, m, n, D, Pl, hcs, hb, hl, hm, hmm, hx, hi⟩
  · exact .inl h0
  · refine .inr ⟨a, len, cap, m, D, Pl, hcs, hb, hl, hm, hmm, by rw [hC] at hx; exact hx, fun i him => ?_⟩
    obtain ⟨cs', hc, ht'⟩ := hi i him
    rw [hC] at hc
    obtain ⟨ys, n', hn', hy, hlen, hyl, hf⟩ := DataW.trod_struct he ht'
    obtain ⟨_, hcl, hat⟩ := World.cells?_some hc
    simp only [Prod.mk.injEq] at hy
    refine ⟨ys, n', hy.1, hy.2, hyl, fun j f hj => ?_⟩
    obtain ⟨ho, hk⟩ := hone_of hone j f hj
    have hjl : j < fs.size := (Array.getElem?_eq_some_iff.1 hj).1
    have hcell := hat j hjl
    have hv : cs'[j]? = some (cs'[j]'(by omega)) := List.getElem?_eq_getElem (by omega)
    have h1 := hf j f hj
    rw [ho, hk] at h1
    have hone' : (cs'.drop j).take 1 = [cs'[j]'(by omega)] := by
      rw [List.drop_eq_getElem_cons (by omega)]
      rfl
    rw [hone'] at h1
    have hys : ys[j]? = some (ys[j]'(by omega)) := List.getElem?_eq_getElem (by omega)
    refine ⟨_, _, ?_, hys, h1.trans hys⟩
    rw [← Go.Deep.add_add, hcell, hv]
end
theorem list_of {α : Type} (P : Nat → α → Prop) : ∀ n : Nat, (∀ i, i < n → ∃ x, P i x) → ∃ l : List α, l.length = n ∧ ∀ (i : Nat) (x : α), l[i]? = some x → P i x
  | 0, _ => ⟨[], rfl, fun i x h => by simp at h⟩
  | n + 1, h => by
    obtain ⟨l, hl, hP⟩ := list_of P n (fun i hi => h i (by omega))
    obtain ⟨x, hx⟩ := h n (by omega)
    refine ⟨l ++ [x], by simp [hl], fun i y hy => ?_⟩
    by_cases hi : i < n
    · rw [List.getElem?_append_left (by omega)] at hy; exact hP i y hy
    · rw [List.getElem?_append_right (by omega)] at hy
      have : i - l.length = 0 := by
        have := (List.getElem?_eq_some_iff.1 hy).1
        simp at this; omega
      rw [this] at hy; simp at hy
      obtain rfl : i = n := by omega
      rw [← hy]; exact hx
section
variable {H : Type} {enc : TypeId × Value → H} {w : World} {base : Nat} {spare : Nat → Bool} {held : Bool}
/-- a row of texts, opened -/
theorem open_texts {fuel : Nat} {v : Value} {x : DataW H × List MemPlace} (h : DataW.trod enc Tryd.prog w base spare held fuel 34 [v] = some x) :
    ∃ (A : Option Addr) (n c : Nat) (l : List ByteArray), v = .slice A n c ∧ Reads w w.heap.size 1 A n (strs l) ∧ (∀ s ∈ l, s.size ≤ maxLen) ∧ n ≤ c ∧ c ≤ maxLen := by
  rcases open_strings Tryd.underlying34 Tryd.underlying9 (by kernel_rfl) h with ⟨hcs, _⟩ | ⟨a, len, cap, ss, hcs, _, hl, hm, hsl, _, hc, hsz⟩
  · simp at hcs
    exact ⟨none, 0, 0, [], hcs, Reads.none_, by simp, Nat.le_refl _, by simp [maxLen]⟩
  · simp at hcs
    have hls : len ≤ ss.length := by rw [hsl]; split <;> omega
    refine ⟨some a, len, cap, ss.take len, hcs, ⟨by simp [strs]; omega, fun hn => ⟨a, rfl, ?_, fun j u hu => ?_⟩⟩, fun s hs => hsz s (List.mem_of_mem_take hs), hl, hm⟩
    · have := World.block_lt_of_cell? _ _ (hc 0 (by omega))
      rwa [block_of_add] at this
    · obtain ⟨s, hs, rfl⟩ := strs_get hu
      have hj := (List.getElem?_eq_some_iff.1 hs).1
      have hj' : j < len := by simp at hj; omega
      rw [List.getElem?_take, if_pos hj'] at hs
      rw [hc j (by omega), List.getD_eq_getElem?_getD, hs]; rfl
def wit_rgs : Value := .slice none 0 0
set_option maxRecDepth 1000000 in
theorem open_rgs {v : Value} {d : DataW H} {p : List MemPlace} {r : Reach} {b0 : Nat} (hv : Value.okWide Tryd.prog w r b0 22 v) (h : DataW.Trod enc Tryd.prog w base spare held 22 v d p) :
    ∃ x : Option Addr × Nat × Nat, v = .slice x.1 x.2.1 x.2.2 ∧ ∃ rs, Regs w w.heap.size x.1 x.2.1 rs ∧ (∀ y ∈ rs, RgFit y) ∧ x.2.1 ≤ x.2.2 ∧ x.2.2 ≤ maxLen := by
  obtain ⟨a0, len, cap, rfl⟩ := okWide_slice Tryd.underlying22 hv
  obtain ⟨fuel, hf⟩ := h
  rcases open_slice_fields Tryd.underlying22 Tryd.underlying36 (by kernel_rfl) (by kernel_rfl) hf with ⟨hcs, _⟩ | ⟨x, l, c, m, D, Pl, hcs, _, hl, hm, hmm, _, hi⟩
  · simp [Value.cells] at hcs
    obtain ⟨rfl, rfl, rfl⟩ := hcs
    exact ⟨(none, 0, 0), rfl, [], ⟨⟨by simp [rgs], fun h => by simp at h⟩, by simp⟩, by simp, Nat.le_refl _, by simp [maxLen]⟩
  · simp [Value.cells] at hcs
    obtain ⟨rfl, rfl, rfl⟩ := hcs
    have hml : len ≤ m := by rw [hmm]; split <;> omega
    have hcell : ∀ i, i < len → ∃ s : Rg, (w.cell? (x.add (i * 3)) = some (.string s.id) ∧ w.cell? (x.add (i * 3 + 1)) = some (.int .i64 s.lv) ∧ w.cell? (x.add (i * 3 + 2)) = some s.row) ∧ Near w w.heap.size s ∧ RgFit s := by
      intro i hil
      obtain ⟨ys, n', _, _, _, hfd⟩ := hi i (by omega)
      obtain ⟨v0, y0, g0, _, t0⟩ := hfd 0 _ rfl
      obtain ⟨v1, y1, g1, _, t1⟩ := hfd 1 _ rfl
      obtain ⟨v2, y2, g2, _, t2⟩ := hfd 2 _ rfl
      obtain ⟨s0, e0, -, z0⟩ := DataW.trod_string Tryd.underlying9 t0
      obtain ⟨a1, e1, -, w1⟩ := DataW.trod_int Tryd.underlying2 t1
      obtain ⟨A2, n2, c2, l2, e2, r2, f2, h2, h3⟩ := open_texts t2
      simp at e0 e1
      subst e0 e1 e2
      simp only [maxLen] at h3
      exact ⟨⟨s0, a1, A2, n2, c2, l2⟩, ⟨g0, g1, g2⟩, r2, z0, f2, by simp only; omega⟩
    obtain ⟨rs, hsl, hss⟩ := list_of _ len hcell
    refine ⟨(some x, len, cap), rfl, rs, ⟨⟨by rw [rgs_len, hsl], fun hn => ⟨x, rfl, ?_, fun j u hu => ?_⟩⟩, fun y hy => ?_⟩, fun y hy => ?_, hl, hm⟩
    · obtain ⟨s, ⟨h0, _⟩, _⟩ := hcell 0 hn
      have := World.block_lt_of_cell? _ _ h0
      rwa [block_of_add] at this
    · obtain ⟨s, hs, hc⟩ := rgs_inv hu
      obtain ⟨⟨h0, h1, h2⟩, _⟩ := hss _ _ hs
      rcases hc with ⟨h3, rfl⟩ | ⟨h3, rfl⟩ | ⟨h3, rfl⟩
      · rwa [show j / 3 * 3 = j from by omega] at h0
      · rwa [show j / 3 * 3 + 1 = j from by omega] at h1
      · rwa [show j / 3 * 3 + 2 = j from by omega] at h2
    · obtain ⟨i, hi⟩ := List.getElem?_of_mem hy
      exact (hss i y hi).2.1
    · obtain ⟨i, hi⟩ := List.getElem?_of_mem hy
      exact (hss i y hi).2.2
end
end Go.Proofs.YteklfeeamjgplaaDoor
