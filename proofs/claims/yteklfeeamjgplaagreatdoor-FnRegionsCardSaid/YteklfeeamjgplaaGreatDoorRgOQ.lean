/- XRgO, XRgQ: merged texts. -/
import Derived.Test.YteklfeeamjgplaaGreatDoorRgN
/- Lists of regions marked and held; a region's field stored. -/
namespace Go.Proofs.YteklfeeamjgplaaGreatDoor
open Go.ChangeShapes Go.WideShapes Go.ChangeAt Go.RowKit
set_option linter.unusedVariables false

theorem Own.away {w w' : World} {lo hi b d s n : Nat} {T : TypeId} {v : Value} {xs : List Value} (h : Own w lo hi T s v n xs) (ho : Only b d w w') (hne : ∀ g, v.ownBlock = some g → g < b ∨ d ≤ g) : Own w' lo hi T s v n xs := by
  refine ⟨⟨h.1.1, ?_⟩, h.2⟩
  rcases h.1.2 with hn | ⟨g, cap, cur, rfl, hb, hg, rest⟩
  · exact .inl hn
  · refine .inr ⟨g, cap, cur, rfl, hb, ?_, rest⟩
    rw [ho.block g (Array.getElem?_eq_some_iff.1 hg).1 (hne g (by simp [Value.ownBlock]))]
    exact hg
theorem Own.narrow {w : World} {lo hi s n : Nat} {T : TypeId} {v : Value} {xs : List Value} (h : Own w lo hi T s v n xs) :
    ∃ b d, Own w b d T s v n xs ∧ ((v.ownBlock = some b ∧ d = b + 1 ∧ lo ≤ b ∧ d ≤ hi ∧ d ≤ w.heap.size) ∨ (v.ownBlock = none ∧ b = 0 ∧ d = 0)) := by
  rcases h.1.2 with ⟨rfl, rfl⟩ | ⟨g, cap, cur, rfl, hb, hg, rest⟩
  · exact ⟨0, 0, ⟨⟨h.1.1, .inl ⟨rfl, rfl⟩⟩, fun g hg => by simp [Value.ownBlock] at hg⟩, .inr ⟨by simp [Value.ownBlock], rfl, rfl⟩⟩
  · have hlt := h.2 g (by simp [Value.ownBlock])
    have hgs := (Array.getElem?_eq_some_iff.1 hg).1
    exact ⟨g, g + 1, ⟨⟨h.1.1, .inr ⟨g, cap, cur, rfl, Nat.le_refl _, hg, rest⟩⟩, fun g' hg' => by simp [Value.ownBlock] at hg'; omega⟩, .inl ⟨by simp [Value.ownBlock], rfl, hb, by omega, by omega⟩⟩
theorem only_set (w : World) (p : Addr) (u : Value) : Only p.block (p.block + 1) w (w.setCell p u) := ⟨rfl, rfl, rfl, by simp, fun k hk hc => Below.heap_setCell _ _ _ _ (by omega)⟩
theorem Only.widen {lo hi lo' hi' : Nat} {w w' : World} (h : Only lo hi w w') (h1 : lo' ≤ lo) (h2 : hi ≤ hi') : Only lo' hi' w w' := ⟨h.os, h.tape, h.output, h.size, fun k hk hc => h.block k hk (by omega)⟩
theorem Only.none {lo hi : Nat} {w w' : World} (h : Only 0 0 w w') : Only lo hi w w' := ⟨h.os, h.tape, h.output, h.size, fun k hk hc => h.block k hk (by omega)⟩
theorem rgs_split {rs : List Rg} {i : Nat} {x : Rg} (h : rs[i]? = some x) : rgs rs = rgs (rs.take i) ++ (x.cells ++ rgs (rs.drop (i + 1))) := by
  conv => lhs; rw [drop_cons_get' h]
  rw [rgs_app, rgs_cons]
theorem set_split {rs : List Rg} {i : Nat} {x y : Rg} (h : rs[i]? = some x) : rs.set i y = rs.take i ++ y :: rs.drop (i + 1) := by
  have hi := (List.getElem?_eq_some_iff.1 h).1
  rw [List.set_eq_take_append_cons_drop, if_pos hi]
theorem rgs_set {rs : List Rg} {i : Nat} {x y : Rg} {j : Nat} {u : Value} (h : rs[i]? = some x) (hc : x.cells.set j u = y.cells) (hj : j < 3) : (rgs rs).set (i * 3 + j) u = rgs (rs.set i y) := by
  have hi := (List.getElem?_eq_some_iff.1 h).1
  have hl : (rgs (rs.take i)).length = i * 3 := by rw [rgs_len, List.length_take]; omega
  rw [rgs_split h, set_split h, rgs_app, rgs_cons, List.set_append_right _ _ (by omega), hl, show i * 3 + j - i * 3 = j by omega, List.set_append_left _ _ (by simp [Rg.cells]; omega), hc]
/-- one region's texts or level stored -/
theorem OwnRegs.setTop {w : World} {lo hi n g c i j : Nat} {rs : List Rg} {x y : Rg} {u : Value} (h : OwnRegs w lo hi (.slice (some ⟨g, 0, none⟩) n c) n rs) (hx : rs[i]? = some x) (hc : x.cells.set j u = y.cells) (hj : j < 3)
    (hy : y.A = x.A ∧ y.n = x.n ∧ y.c = x.c ∧ y.near = x.near) :
    OwnRegs (w.setCell ⟨g, i * 3 + j, none⟩ u) lo hi (.slice (some ⟨g, 0, none⟩) n c) n (rs.set i y) ∧ Only lo hi w (w.setCell ⟨g, i * 3 + j, none⟩ u) := by
  have hs := h.row.stored (j := i * 3 + j) u
  rw [rgs_set hx hc hj] at hs
  have hmem : ∀ z ∈ rs.set i y, ∃ t ∈ rs, z.A = t.A ∧ z.n = t.n ∧ z.c = t.c ∧ z.near = t.near := by
    intro z hz
    rcases List.mem_or_eq_of_mem_set hz with h1 | h1
    · exact ⟨z, h1, rfl, rfl, rfl, rfl⟩
    · subst h1; exact ⟨x, List.mem_of_getElem? hx, hy⟩
  refine ⟨⟨hs.1, fun z hz => ?_, fun z hz q hq => ?_, ?_⟩, hs.2⟩
  · obtain ⟨t, ht, e1, e2, e3, e4⟩ := hmem z hz
    have ht2 := h.inn t ht
    have e : z.row = t.row := by unfold Rg.row; rw [e1, e2, e3]
    rw [e, e2, e4]
    refine ht2.away (only_set w _ _) (fun q hq => ?_)
    have := h.off t ht q hq
    have hgq : g ≠ q := fun e => this (by rw [← e]; rfl)
    show q < g ∨ g + 1 ≤ q
    omega
  · obtain ⟨t, ht, e1, e2, e3, e4⟩ := hmem z hz
    have e : z.blk = t.blk := by unfold Rg.blk Rg.row; rw [e1, e2, e3]
    rw [e] at hq
    exact h.off t ht q hq
  · have hp := h.pw
    rw [List.pairwise_iff_getElem] at hp ⊢
    intro a b ha hb hab q hq
    have key : ∀ k (hk : k < (rs.set i y).length) (hk' : k < rs.length), ((rs.set i y)[k]).blk = (rs[k]).blk := by
      intro k hk hk'
      rw [List.getElem_set]
      split
      · rename_i e; subst e
        have : rs[i] = x := by have := List.getElem?_eq_getElem hk'; rw [hx] at this; injection this with this; exact this.symm
        rw [this]; unfold Rg.blk Rg.row; rw [hy.1, hy.2.1, hy.2.2.1]
      · rfl
    have ha' : a < rs.length := by simpa using ha
    have hb' : b < rs.length := by simpa using hb
    rw [key a ha ha'] at hq
    rw [key b hb hb']
    exact hp a b ha' hb' hab q hq
/-- one region's names stored -/
theorem OwnRegs.setNear {w w' : World} {lo hi n i b d : Nat} {v : Value} {rs : List Rg} {x : Rg} {l : List ByteArray} (h : OwnRegs w lo hi v n rs) (hx : rs[i]? = some x) (ho : Only b d w w') (hn : Own w' b d 9 1 x.row x.n (strs l))
    (hb : (x.row.ownBlock = some b ∧ d = b + 1 ∧ lo ≤ b ∧ d ≤ hi ∧ d ≤ w.heap.size) ∨ (x.row.ownBlock = none ∧ b = 0 ∧ d = 0)) :
    OwnRegs w' lo hi v n (rs.set i { x with near := l }) ∧ Only lo hi w w' := by
  have hxm := List.mem_of_getElem? hx
  have hout : ∀ q : Nat, x.blk ≠ some q → q < b ∨ d ≤ q := by
    intro q hq
    rcases hb with ⟨h1, h2, _⟩ | ⟨h1, h2, h3⟩
    · have : b ≠ q := fun e => hq (by subst e; exact h1)
      omega
    · omega
  have hlen : (rs.set i { x with near := l }).length = rs.length := by simp
  have key : ∀ k (hk : k < (rs.set i { x with near := l }).length) (hk' : k < rs.length), ((rs.set i { x with near := l })[k]).blk = (rs[k]).blk := by
    intro k hk hk'
    rw [List.getElem_set]
    split
    · rename_i e; subst e
      have : rs[i] = x := by have := List.getElem?_eq_getElem hk'; rw [hx] at this; injection this with this; exact this.symm
      rw [this]; rfl
    · rfl
  have hrow : rgs (rs.set i { x with near := l }) = rgs rs := by
    rw [rgs_split hx, set_split hx, rgs_app, rgs_cons]; rfl
  refine ⟨⟨?_, fun z hz => ?_, fun z hz q hq => ?_, ?_⟩, ?_⟩
  · rw [hrow]
    exact h.row.away ho (fun q hq => hout q (fun e => h.off x hxm q e hq))
  · obtain ⟨k, hk⟩ := List.getElem?_of_mem hz
    by_cases e : i = k
    · subst e
      rw [List.getElem?_set_self (List.getElem?_eq_some_iff.1 hx).1] at hk
      injection hk with hk; subst hk
      rcases hb with ⟨h1, h2, h3, h4, _⟩ | ⟨h1, h2, h3⟩
      · exact hn.widen h3 h4
      · rcases hn.1.2 with ⟨e1, e2⟩ | ⟨g, cap, cur, e1, _⟩
        · exact ⟨⟨hn.1.1, .inl ⟨e1, e2⟩⟩, fun g hg => by show g < hi; rw [show ({ x with near := l } : Rg).row = x.row from rfl, h1] at hg; cases hg⟩
        · rw [e1] at h1; simp [Value.ownBlock] at h1
    · rw [List.getElem?_set_ne e] at hk
      have hzm := List.mem_of_getElem? hk
      refine (h.inn z hzm).away ho (fun q hq => hout q (fun e2 => ?_))
      have hp := List.pairwise_iff_getElem.1 h.pw
      obtain ⟨hi1, hi2⟩ := List.getElem?_eq_some_iff.1 hx
      obtain ⟨hk1, hk2⟩ := List.getElem?_eq_some_iff.1 hk
      rcases Nat.lt_or_gt_of_ne e with hlt | hgt
      · exact hp i k hi1 hk1 hlt q (by rw [hi2]; exact e2) (by rw [hk2]; exact hq)
      · exact hp k i hk1 hi1 hgt q (by rw [hk2]; exact hq) (by rw [hi2]; exact e2)
  · rcases List.mem_or_eq_of_mem_set hz with h1 | h1
    · exact h.off z h1 q hq
    · subst h1; exact h.off x hxm q hq
  · have hp := h.pw
    rw [List.pairwise_iff_getElem] at hp ⊢
    intro a b' ha hb' hab q hq
    have ha' : a < rs.length := by simpa using ha
    have hb'' : b' < rs.length := by simpa using hb'
    rw [key a ha ha'] at hq
    rw [key b' hb' hb'']
    exact hp a b' ha' hb'' hab q hq
  · rcases hb with ⟨h1, h2, h3, h4, _⟩ | ⟨h1, h2, h3⟩
    · exact ho.widen h3 h4
    · subst h2; subst h3; exact ho.none
def mrkRs : Int → List Rg → List Rg
  | _, [] => []
  | k, x :: r => { x with id := mtx k, lv := k + 1, near := mts (k + 2) x.n } :: mrkRs (k + 2 + x.n) r
def mrk (n : Nat) (rs : List Rg) : Int := 2 * n + sumN rs
theorem sumN_cons (x : Rg) (rs : List Rg) : sumN (x :: rs) = x.n + sumN rs := by simp [sumN]
theorem sumN_app (a b : List Rg) : sumN (a ++ b) = sumN a + sumN b := by simp [sumN]
theorem mrkRs_app : ∀ (a b : List Rg) (k : Int), mrkRs k (a ++ b) = mrkRs k a ++ mrkRs (k + mrk a.length a) b
  | [], b, k => by simp [mrkRs, mrk, sumN]
  | x :: a, b, k => by
    rw [List.cons_append, mrkRs, mrkRs, mrkRs_app a b, List.cons_append]
    congr 3
    unfold mrk
    rw [sumN_cons, List.length_cons]; omega
theorem mrkRs_len : ∀ (a : List Rg) (k : Int), (mrkRs k a).length = a.length
  | [], k => rfl
  | x :: a, k => by rw [mrkRs, List.length_cons, List.length_cons, mrkRs_len a]
theorem mrkRs_get {rs : List Rg} {i : Nat} {x : Rg} (k : Int) (h : rs[i]? = some x) : (mrkRs k rs)[i]? = some { x with id := mtx (k + mrk i (rs.take i)), lv := k + mrk i (rs.take i) + 1, near := mts (k + mrk i (rs.take i) + 2) x.n } := by
  have hi := (List.getElem?_eq_some_iff.1 h).1
  conv => lhs; rw [drop_cons_get' h]
  have hl : (rs.take i).length = i := by rw [List.length_take]; omega
  rw [mrkRs_app, List.getElem?_append_right (by rw [mrkRs_len, hl]; exact Nat.le_refl _), mrkRs_len, hl, Nat.sub_self, mrkRs]; rfl
theorem mrk_succ {rs : List Rg} {i : Nat} {x : Rg} (h : rs[i]? = some x) : mrk (i + 1) (rs.take (i + 1)) = mrk i (rs.take i) + 2 + x.n := by
  unfold mrk; rw [sumN_take h]; omega
theorem sumN_le {M : Nat} : ∀ {rs : List Rg}, (∀ x ∈ rs, x.n ≤ M) → sumN rs ≤ rs.length * M
  | [], _ => by simp [sumN]
  | x :: rs, h => by
    have h1 := sumN_le (fun y hy => h y (List.mem_cons_of_mem _ hy)) (rs := rs)
    have h2 := h x (List.mem_cons_self ..)
    rw [sumN_cons, List.length_cons, Nat.add_mul]; omega
theorem mrk_bd {rs : List Rg} {n : Nat} (hx : ∀ x ∈ rs, x.n ≤ 1048576) (hl : rs.length = n) (hn : n ≤ 1048576) : 0 ≤ mrk n rs ∧ mrk n rs ≤ 1099513724928 := by
  have h1 := sumN_le hx
  have h2 : rs.length * 1048576 ≤ 1048576 * 1048576 := Nat.mul_le_mul_right _ (by omega)
  unfold mrk
  omega
/-- marked up to m -/
def mrkTo (k : Int) (rs : List Rg) (m : Nat) : List Rg := mrkRs k (rs.take m) ++ rs.drop m
theorem mrkTo_zero (k : Int) (rs : List Rg) : mrkTo k rs 0 = rs := by simp [mrkTo, mrkRs]
theorem mrkTo_get {rs : List Rg} {m : Nat} {x : Rg} (k : Int) (h : rs[m]? = some x) : (mrkTo k rs m)[m]? = some x := by
  have hi := (List.getElem?_eq_some_iff.1 h).1
  unfold mrkTo
  have hl : (rs.take m).length = m := by rw [List.length_take]; omega
  rw [List.getElem?_append_right (by rw [mrkRs_len, hl]; exact Nat.le_refl _), mrkRs_len, hl, Nat.sub_self, List.getElem?_drop, Nat.add_zero, h]
theorem mrkTo_set {rs : List Rg} {m : Nat} {x : Rg} (k : Int) (h : rs[m]? = some x) : (mrkTo k rs m).set m { x with id := mtx (k + mrk m (rs.take m)), lv := k + mrk m (rs.take m) + 1, near := mts (k + mrk m (rs.take m) + 2) x.n } = mrkTo k rs (m + 1) := by
  have hi := (List.getElem?_eq_some_iff.1 h).1
  have hl : (rs.take m).length = m := by rw [List.length_take]; omega
  unfold mrkTo
  rw [List.set_append_right _ _ (by rw [mrkRs_len, hl]; exact Nat.le_refl _), mrkRs_len, hl, Nat.sub_self, take_snoc_rg h, mrkRs_app, hl, mrkRs, mrkRs, List.append_assoc]
  congr 1
  rw [List.drop_eq_getElem_cons hi, List.set_cons_zero]; rfl
theorem mrkTo_all (k : Int) (rs : List Rg) : mrkTo k rs rs.length = mrkRs k rs := by simp [mrkTo]
end Go.Proofs.YteklfeeamjgplaaGreatDoor

/- markRegionS and heldRegionS, the laws' own helpers. -/
namespace Go.Proofs.YteklfeeamjgplaaGreatDoor
open Go.ChangeShapes Go.WideShapes Go.ChangeAt Go.RowKit
set_option linter.unusedVariables false
theorem only_below {lo hi : Nat} {w w' : World} (h : Below w.heap.size w w') : Only lo hi w w' := ⟨h.os, h.tape, h.output, h.size, fun q hq hc => h.block q hq⟩
end Go.Proofs.YteklfeeamjgplaaGreatDoor
