/- Rows of rows of the call's own (slices of slices), of any element type. -/
import Derived.Test.YteklfeeamjgplaaGreatDoorRgRS
namespace Go.Proofs.YteklfeeamjgplaaGreatDoor
open Go.ChangeShapes Go.WideShapes Go.ChangeAt Go.RowKit
set_option linter.unusedVariables false
structure GRow where
  A : Option Addr
  n : Nat
  c : Nat
  xs : List Value
def GRow.row (x : GRow) : Value := .slice x.A x.n x.c
def gcs (l : List GRow) : List Value := l.map GRow.row
theorem gcs_len (l : List GRow) : (gcs l).length = l.length := by simp [gcs]
theorem gcs_get {l : List GRow} {k : Nat} {x : GRow} (h : l[k]? = some x) : (gcs l)[k]? = some x.row := by simp [gcs, h]
theorem gcs_one (l : List GRow) : ∀ u ∈ gcs l, u.oneCell' = true := by
  intro u hu
  simp only [gcs, List.mem_map] at hu
  obtain ⟨x, _, rfl⟩ := hu
  simp [Value.oneCell', GRow.row]
/-- rows of the call's own: TR the type of a row, TE that of its elements -/
structure OwnG (TR TE : TypeId) (w : World) (lo hi : Nat) (v : Value) (n : Nat) (l : List GRow) : Prop where
  row : Own w lo hi TR 1 v n (gcs l)
  inn : ∀ x ∈ l, Own w lo hi TE 1 x.row x.n x.xs
  pw : l.Pairwise fun x y => ∀ g, x.row.ownBlock = some g → y.row.ownBlock ≠ some g
section
variable {TR TE : TypeId} {w w' : World} {lo hi lo' hi' B n : Nat} {v : Value} {l : List GRow}
theorem OwnG.below (h : OwnG TR TE w lo hi v n l) (hb : Below B w w') (hB : hi ≤ B) : OwnG TR TE w' lo hi v n l := ⟨h.row.below hb hB, fun x hx => (h.inn x hx).below hb hB, h.pw⟩
theorem OwnG.only (h : OwnG TR TE w lo hi v n l) (ho : Only lo' hi' w w') (hd : hi ≤ lo' ∨ hi' ≤ lo) : OwnG TR TE w' lo hi v n l := ⟨h.row.only ho hd, fun x hx => (h.inn x hx).only ho hd, h.pw⟩
theorem OwnG.widen (h : OwnG TR TE w lo hi v n l) (h1 : lo' ≤ lo) (h2 : hi ≤ hi') : OwnG TR TE w lo' hi' v n l := ⟨h.row.widen h1 h2, fun x hx => (h.inn x hx).widen h1 h2, h.pw⟩
theorem OwnG.len (h : OwnG TR TE w lo hi v n l) : l.length = n := by have := h.row.1.1; rw [gcs_len] at this; omega
theorem OwnG.nil : OwnG TR TE w lo hi (.slice none 0 0) 0 [] := ⟨Own.nil, fun x hx => by simp at hx, List.Pairwise.nil⟩
/-- element k of a row of rows, in memory -/
theorem OwnG.at_ {A : Option Addr} {c k : Nat} (h : OwnG TR TE w lo hi (.slice A n c) n l) (hk : k < n) :
    ∃ g x, A = some ⟨g, 0, none⟩ ∧ lo ≤ g ∧ g < hi ∧ l[k]? = some x ∧ w.cell? ⟨g, k, none⟩ = some (.slice x.A x.n x.c) ∧ Own w lo hi TE 1 x.row x.n x.xs := by
  obtain ⟨g, rfl, h1, h2, h3⟩ := h.row.at_ (by omega)
  have hl : l[k]? = some (l[k]'(by have := h.len; omega)) := List.getElem?_eq_getElem _
  refine ⟨g, _, rfl, h1, h2, hl, ?_, h.inn _ (List.mem_of_getElem? hl)⟩
  rw [h.row.1.cellAt k (by omega), gcs_get hl]; rfl
/-- one inner row turned -/
theorem OwnG.setIn {k b d : Nat} {x : GRow} {ys : List Value} (hne : TR ≠ TE) (h : OwnG TR TE w lo hi v n l) (hx : l[k]? = some x) (ho : Only b d w w') (hn : Own w' b d TE 1 x.row x.n ys)
    (hb : (x.row.ownBlock = some b ∧ d = b + 1 ∧ lo ≤ b ∧ d ≤ hi ∧ d ≤ w.heap.size) ∨ (x.row.ownBlock = none ∧ b = 0 ∧ d = 0)) :
    OwnG TR TE w' lo hi v n (l.set k { x with xs := ys }) ∧ Only lo hi w w' := by
  have hxm := List.mem_of_getElem? hx
  have hout : ∀ q : Nat, x.row.ownBlock ≠ some q → q < b ∨ d ≤ q := by
    intro q hq
    rcases hb with ⟨h1, h2, _⟩ | ⟨h1, h2, h3⟩
    · have : b ≠ q := fun e => hq (by subst e; exact h1)
      omega
    · omega
  have key : ∀ j (hj : j < (l.set k { x with xs := ys }).length) (hj' : j < l.length), ((l.set k { x with xs := ys })[j]).row = (l[j]).row := by
    intro j hj hj'
    rw [List.getElem_set]
    split
    · rename_i e; subst e
      have : l[k] = x := by have := List.getElem?_eq_getElem hj'; rw [hx] at this; injection this with this; exact this.symm
      rw [this]; rfl
    · rfl
  have hrow : gcs (l.set k { x with xs := ys }) = gcs l := by
    apply List.ext_getElem?
    intro j
    by_cases hj : j < l.length
    · have hj2 : j < (l.set k { x with xs := ys }).length := by simpa using hj
      rw [gcs_get (List.getElem?_eq_getElem hj2), gcs_get (List.getElem?_eq_getElem hj), key j hj2 hj]
    · rw [List.getElem?_eq_none (by rw [gcs_len]; simp; omega), List.getElem?_eq_none (by rw [gcs_len]; omega)]
  refine ⟨⟨?_, fun z hz => ?_, ?_⟩, ?_⟩
  · rw [hrow]
    exact h.row.away ho (fun q hq => hout q (fun e => own_types_ne h.row (h.inn x hxm) hne hq e))
  · obtain ⟨j, hj⟩ := List.getElem?_of_mem hz
    by_cases e : k = j
    · subst e
      rw [List.getElem?_set_self (List.getElem?_eq_some_iff.1 hx).1] at hj
      injection hj with hj; subst hj
      rcases hb with ⟨h1, h2, h3, h4, _⟩ | ⟨h1, h2, h3⟩
      · exact hn.widen h3 h4
      · rcases hn.1.2 with ⟨e1, e2⟩ | ⟨g, cap, cur, e1, _⟩
        · exact ⟨⟨hn.1.1, .inl ⟨e1, e2⟩⟩, fun g hg => by show g < hi; rw [show ({ x with xs := ys } : GRow).row = x.row from rfl, h1] at hg; cases hg⟩
        · rw [e1] at h1; simp [Value.ownBlock] at h1
    · rw [List.getElem?_set_ne e] at hj
      have hzm := List.mem_of_getElem? hj
      refine (h.inn z hzm).away ho (fun q hq => hout q (fun e2 => ?_))
      have hp := List.pairwise_iff_getElem.1 h.pw
      obtain ⟨hi1, hi2⟩ := List.getElem?_eq_some_iff.1 hx
      obtain ⟨hk1, hk2⟩ := List.getElem?_eq_some_iff.1 hj
      rcases Nat.lt_or_gt_of_ne e with hlt | hgt
      · exact hp k j hi1 hk1 hlt q (by rw [hi2]; exact e2) (by rw [hk2]; exact hq)
      · exact hp j k hk1 hi1 hgt q (by rw [hk2]; exact hq) (by rw [hi2]; exact e2)
  · have hp := h.pw
    rw [List.pairwise_iff_getElem] at hp ⊢
    intro a b' ha hb' hab q hq
    have ha' : a < l.length := by simpa using ha
    have hb'' : b' < l.length := by simpa using hb'
    rw [key a ha ha'] at hq
    rw [key b' hb' hb'']
    exact hp a b' ha' hb'' hab q hq
  · rcases hb with ⟨h1, h2, h3, h4, _⟩ | ⟨h1, h2, h3⟩
    · exact ho.widen h3 h4
    · subst h2; subst h3; exact ho.none
end
/-- append of one row to a row of rows -/
theorem OwnG.push {TR TE : TypeId} {wa X w2 : World} {lo k d : Nat} {v v2 : Value} {D : Option Addr} {l : List GRow} {m : Nat} {ys : List Value} (hne : TR ≠ TE) (h : OwnG TR TE wa lo wa.heap.size v k l)
    (ho : Own wa lo wa.heap.size TE 1 (.slice D m d) m ys) (hfr : ∀ x ∈ l, ∀ g, x.row.ownBlock = some g → (Value.slice D m d).ownBlock ≠ some g) (hX : Below wa.heap.size wa X) (ho2 : w2.ownsRow lo TR 1 v2 (k + 1) (gcs l ++ [.slice D m d])) (hg : X.grownBy w2 v.ownBlock) :
    OwnG TR TE w2 lo w2.heap.size v2 (k + 1) (l ++ [⟨D, m, d, ys⟩]) := by
  have hs2 := hX.size
  have hs3 := hg.size
  have hrX : Own X lo wa.heap.size TR 1 v k (gcs l) := h.row.below hX (Nat.le_refl _)
  have key : ∀ {lo hi n : Nat} {u : Value} {xs : List Value}, Own X lo hi TE 1 u n xs → Own w2 lo hi TE 1 u n xs := fun hu => hu.grownBy hg (fun g hgu e => own_types_ne hrX hu hne e.symm hgu)
  refine ⟨?_, ?_, ?_⟩
  · have h5 := Own.of_owns ho2 (Nat.le_refl w2.heap.size)
    simpa [gcs, GRow.row] using h5
  · intro y hy
    rcases List.mem_append.1 hy with h2 | h2
    · exact (key ((h.inn y h2).below hX (Nat.le_refl _))).widen (Nat.le_refl _) (by omega)
    · simp at h2; subst h2
      exact (key (ho.below hX (Nat.le_refl _))).widen (Nat.le_refl _) (by omega)
  · rw [List.pairwise_append]
    refine ⟨h.pw, by simp, ?_⟩
    intro a ha b hb2 q hq
    simp at hb2; subst hb2
    exact hfr a ha q hq
end Go.Proofs.YteklfeeamjgplaaGreatDoor
