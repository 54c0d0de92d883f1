/- Joined regions: the queue and the sets in memory. -/
import Derived.Test.YteklfeeamjgplaaGreatDoorRow
import Derived.Test.YteklfeeamjgplaaGreatDoorSrt
namespace Go.Proofs.YteklfeeamjgplaaGreatDoor
open Go.ChangeShapes Go.WideShapes Go.ChangeAt Go.RowKit
set_option linter.unusedVariables false
def bools (l : List Bool) : List Value := l.map Value.bool
def ofN (q : List Nat) : List Int := q.map fun (k : Nat) => (k : Int)
theorem ofN_app (a b : List Nat) : ofN (a ++ b) = ofN a ++ ofN b := by simp [ofN]
theorem ofN_len (a : List Nat) : (ofN a).length = a.length := by simp [ofN]
theorem ofN_get {q : List Nat} {k x : Nat} (h : q[k]? = some x) : (ofN q)[k]? = some (x : Int) := by simp [ofN, h]
theorem ofN_nodup {q : List Nat} (h : q.Nodup) : (ofN q).Nodup := by
  unfold ofN List.Nodup
  rw [List.pairwise_map]
  exact h.imp fun hab e => hab (by omega)
/-- append of one integer, with what has turned -/
theorem app_i64k {ops : Array Oper} {rest : List Oper} {o : Oper} {a : Act} {Q : Exit → Act → World → Prop} {w : World} (hgd : o.guard = none) (s x : Operand)
    (ho : o.op = .call { callee := .builtin .append, args := #[s, x], argTypes := #[31, 31] })
    (lo : Nat) (v : Value) (n : Nat) (zs : List Int) (z : Int) (g : Nat) (hs : a.eval s = v) (hown : w.ownsRow lo 2 1 v n (ints zs))
    (hx : a.eval x = .slice (some ⟨g, 0, none⟩) 1 1) (hc : w.cell? ⟨g, 0, none⟩ = some (.int .i64 z)) (hn : n ≤ 100000000000) (hlo : lo ≤ w.heap.size)
    (h : ∀ v' w', w'.ownsRow lo 2 1 v' (n + 1) (ints (zs ++ [z])) → w.grownBy w' v.ownBlock → (v'.ownBlock = v.ownBlock ∨ v'.ownBlock = some w.heap.size) → wpList Tryz.prog ops Q rest (a.put o.dst v') w') : wpList Tryz.prog ops Q (o :: rest) a w := by
  obtain ⟨i, hi, hz, hs', hb⟩ := info_parts info_i64
  have hg : g < w.heap.size := World.block_lt_of_cell? w ⟨g, 0, none⟩ hc
  refine wpList_append_any w hgd s x _ ho lo _ i _ 1 8 Tryz.underlying31 hi hz hs' hb rfl (by omega) v n (ints zs) hs hown w.heap.size (some ⟨g, 0, none⟩) 1 1 (ints [z]) hx
    ⟨rfl, fun _ => ⟨_, rfl, hg, fun j u hu => ?_⟩⟩ (ints_one [z]) (by simp only [maxLen]; omega) (by omega) hlo ?_
  · match j with
    | 0 => simp [ints] at hu; subst hu; exact hc
    | j + 1 => simp [ints] at hu
  · intro v' w' h2 h3 h4
    exact h v' w' (by rw [ints_app]; exact h2) h3 h4
/-- append of one row to a row of rows of integers -/
theorem app_rows {ops : Array Oper} {rest : List Oper} {o : Oper} {a : Act} {Q : Exit → Act → World → Prop} {w : World} (hgd : o.guard = none) (s x : Operand)
    (ho : o.op = .call { callee := .builtin .append, args := #[s, x], argTypes := #[26, 26] })
    (lo : Nat) (v : Value) (n : Nat) (xs : List Value) (D : Option Addr) (m d : Nat) (g : Nat) (hs : a.eval s = v) (hown : w.ownsRow lo 31 1 v n xs)
    (hx : a.eval x = .slice (some ⟨g, 0, none⟩) 1 1) (hc : w.cell? ⟨g, 0, none⟩ = some (.slice D m d)) (hn : n ≤ 100000000000) (hlo : lo ≤ w.heap.size)
    (h : ∀ v' w', w'.ownsRow lo 31 1 v' (n + 1) (xs ++ [.slice D m d]) → w.grownBy w' v.ownBlock → wpList Tryz.prog ops Q rest (a.put o.dst v') w') : wpList Tryz.prog ops Q (o :: rest) a w := by
  have hinfo : (Tryz.prog.info? 31).map (fun i => (i.zero, i.size, i.bytes)) = some (some (.slice none 0 0), 1, 24) := by kernel_rfl
  obtain ⟨i, hi, hz, hs', hb⟩ := info_parts hinfo
  have hg : g < w.heap.size := World.block_lt_of_cell? w ⟨g, 0, none⟩ hc
  refine wpList_append_any w hgd s x _ ho lo _ i _ 1 24 Tryz.underlying26 hi hz hs' hb rfl (by omega) v n xs hs hown w.heap.size (some ⟨g, 0, none⟩) 1 1 [.slice D m d] hx
    ⟨rfl, fun _ => ⟨_, rfl, hg, fun j u hu => ?_⟩⟩ (by simp [Value.oneCell']) (by simp only [maxLen]; omega) (by omega) hlo ?_
  · match j with
    | 0 => simp at hu; subst hu; exact hc
    | j + 1 => simp at hu
  · intro v' w' h2 h3 _
    exact h v' w' h2 h3
structure QSt (wr0 wx : World) (gs n : Nat) (o : Value) (s : List Bool × List Nat) : Prop where
  seen : Own wx gs (gs + 1) 4 1 (.slice (some ⟨gs, 0, none⟩) n n) n (bools s.1)
  own : wx.ownsRow wr0.heap.size 2 1 o s.2.length (ints (ofN s.2))
  only : Only gs (gs + 1) wr0 wx
  hgs : gs < wr0.heap.size
section
variable {wr0 wx : World} {gs n : Nat} {o : Value} {s : List Bool × List Nat}
theorem QSt.bel {w1 : World} (h : QSt wr0 wx gs n o s) (hb : Below wx.heap.size wx w1) : QSt wr0 w1 gs n o s :=
  ⟨h.seen.below hb (by have := h.only.size; have := h.hgs; omega), owns_bel h.own hb (Nat.le_refl _), h.only.trans (only_below hb), h.hgs⟩
theorem QSt.drewN (h : QSt wr0 wx gs n o s) (q : Nat) : QSt wr0 (wx.drewN q) gs n o s := h.bel (below_drewN (Below.refl _ _) q)
theorem QSt.alloc (h : QSt wr0 wx gs n o s) (ob : Obj) : QSt wr0 (wx.alloc ob) gs n o s := h.bel ((Below.refl _ _).alloc (Nat.le_refl _) ob)
theorem QSt.seenAt (h : QSt wr0 wx gs n o s) {k : Nat} {b : Bool} (hb : s.1[k]? = some b) : wx.cell? ⟨gs, k, none⟩ = some (.bool b) ∧ wx.frozen? ⟨gs, k, none⟩ = false ∧ k < n := by
  have hl : s.1.length = n := by have := h.seen.1.1; simpa [bools] using this
  have hk := (List.getElem?_eq_some_iff.1 hb).1
  refine ⟨?_, h.seen.1.frozenAt k, by omega⟩
  rw [h.seen.1.cellAt k (by omega)]
  simp [bools, hb]
theorem QSt.mark (h : QSt wr0 wx gs n o s) (k : Nat) : QSt wr0 (wx.setCell ⟨gs, k, none⟩ (.bool true)) gs n o (s.1.set k true, s.2) := by
  have hst := h.seen.stored (j := k) (.bool true)
  have e : (bools s.1).set k (.bool true) = bools (s.1.set k true) := by simp [bools, List.map_set]
  rw [e] at hst
  refine ⟨hst.1, ?_, h.only.trans hst.2, h.hgs⟩
  exact ((Own.of_owns h.own (Nat.le_refl _)).setOut (p := ⟨gs, k, none⟩) h.hgs _).1
theorem QSt.push {X w2 : World} {v2 : Value} {k : Nat} (h : QSt wr0 wx gs n o s) (hX : Below wx.heap.size wx X) (ho : w2.ownsRow wr0.heap.size 2 1 v2 (s.2.length + 1) (ints (ofN s.2 ++ [(k : Int)]))) (hg : X.grownBy w2 o.ownBlock) :
    QSt wr0 w2 gs n v2 (s.1, s.2 ++ [k]) := by
  have h1 := h.bel hX
  have hs1 := hX.size
  have hs2 := hg.size
  have hs0 := h.only.size
  refine ⟨?_, ?_, ?_, h.hgs⟩
  · exact h1.seen.grownBy hg (fun g hgb e => own_types_ne h1.seen (Own.of_owns h1.own (Nat.le_refl _)) (by decide) hgb e.symm)
  · rw [ofN_app]; simpa [ofN] using ho
  · refine ⟨hg.os.trans h1.only.os, hg.tape.trans h1.only.tape, hg.output.trans h1.only.output, by omega, fun q hq hc => ?_⟩
    rw [hg.block q (by omega) (fun e => by have := (h1.own.lt q e.symm).1; omega), h1.only.block q hq hc]
end
structure JSt (w0 wr : World) (gs n : Nat) (v : Value) (st : List Bool × List (List Nat)) (l : List GRow) : Prop where
  seen : Own wr gs (gs + 1) 4 1 (.slice (some ⟨gs, 0, none⟩) n n) n (bools st.1)
  g : OwnG 31 2 wr w0.heap.size wr.heap.size v l.length l
  dat : l.map GRow.xs = st.2.map fun q => ints (sortV (ofN q))
  bel : Below w0.heap.size w0 wr
  h0 : w0.heap.size ≤ gs
  h1 : gs < wr.heap.size
section
variable {w0 wr : World} {gs n : Nat} {v : Value} {st : List Bool × List (List Nat)} {l : List GRow}
theorem JSt.below {w1 : World} (h : JSt w0 wr gs n v st l) (hb : Below wr.heap.size wr w1) : JSt w0 w1 gs n v st l := by
  have := hb.size
  have := h.h1
  have := h.bel.size
  exact ⟨h.seen.below hb (by omega), (h.g.below hb (Nat.le_refl _)).widen (Nat.le_refl _) (by omega), h.dat, h.bel.trans (hb.mono (by omega)), h.h0, by omega⟩
theorem JSt.seenAt (h : JSt w0 wr gs n v st l) {k : Nat} {b : Bool} (hb : st.1[k]? = some b) : wr.cell? ⟨gs, k, none⟩ = some (.bool b) ∧ wr.frozen? ⟨gs, k, none⟩ = false ∧ k < n := by
  have hl : st.1.length = n := by have := h.seen.1.1; simpa [bools] using this
  have hk := (List.getElem?_eq_some_iff.1 hb).1
  refine ⟨?_, h.seen.1.frozenAt k, by omega⟩
  rw [h.seen.1.cellAt k (by omega)]
  simp [bools, hb]
/-- the beginning of a queue: the first region marked, a row of one number -/
theorem JSt.begin {v2 : Value} {X : World} {k : Nat} (h : JSt w0 wr gs n v st l) (hX : Below wr.heap.size (wr.setCell ⟨gs, k, none⟩ (.bool true)) X) (ho : X.ownsRow wr.heap.size 2 1 v2 1 (ints [(k : Int)])) :
    QSt wr X gs n v2 (st.1.set k true, [k]) := by
  have hst := h.seen.stored (j := k) (.bool true)
  have e : (bools st.1).set k (.bool true) = bools (st.1.set k true) := by simp [bools, List.map_set]
  rw [e] at hst
  exact ⟨hst.1.below hX (by have := h.h1; omega), by simpa [ofN] using ho, hst.2.trans ⟨hX.os, hX.tape, hX.output, hX.size, fun q hq hc => hX.block q (by simpa using hq)⟩, h.h1⟩
theorem JSt.rowAt {wx wa : World} {o : Value} {s : List Bool × List Nat} {hi : Nat} (h : JSt w0 wr gs n v st l) (hq : QSt wr wx gs n o s) (ha : Only wr.heap.size hi wx wa) : wa.ownsRow w0.heap.size 31 1 v l.length (gcs l) := by
  have hs1 := hq.only.size
  have h5 : Own wx w0.heap.size wr.heap.size 31 1 v l.length (gcs l) := h.g.row.away hq.only (fun g hgu => by
    have hne := own_types_ne h.g.row h.seen (by decide) hgu
    have : g ≠ gs := fun e => hne (by simp [Value.ownBlock, e])
    omega)
  exact (h5.only ha (.inl (Nat.le_refl _))).1
/-- a queue done: its numbers in order in a row of the call's own, which is pushed to the sets -/
theorem JSt.push {wx wa X w2 : World} {o v2 : Value} {s : List Bool × List Nat} {D : Option Addr} {d m hi : Nat} (h : JSt w0 wr gs n v st l) (hq : QSt wr wx gs n o s)
    (ha : Only wr.heap.size hi wx wa) (ho : Own wa wr.heap.size hi 2 1 (.slice D m d) m (ints (sortV (ofN s.2)))) (hhi : hi ≤ wa.heap.size)
    (hX : Below wa.heap.size wa X) (ho2 : w2.ownsRow w0.heap.size 31 1 v2 (l.length + 1) (gcs l ++ [.slice D m d])) (hg : X.grownBy w2 v.ownBlock) :
    JSt w0 w2 gs n v2 (s.1, st.2 ++ [s.2]) (l ++ [⟨D, m, d, ints (sortV (ofN s.2))⟩]) := by
  have hbw := h.bel.size
  have hs1 := hq.only.size
  have hs2 := ha.size
  have hs3 := hX.size
  have hs4 := hg.size
  have h1 := h.h1
  have h0 := h.h0
  -- the sets at wa
  have away1 : ∀ {T : TypeId} {lo hi' s' n' : Nat} {u : Value} {xs : List Value}, T ≠ 4 → Own wr lo hi' T s' u n' xs → hi' ≤ wr.heap.size → Own wa lo hi' T s' u n' xs := by
    intro T lo hi' s' n' u xs hT hu hle
    have h5 : Own wx lo hi' T s' u n' xs := hu.away hq.only (fun g hgu => by
      have hne := own_types_ne hu h.seen hT hgu
      have : g ≠ gs := fun e => hne (by simp [Value.ownBlock, e])
      omega)
    exact h5.only ha (.inl (by omega))
  have hG : OwnG 31 2 wa w0.heap.size wr.heap.size v l.length l := ⟨away1 (by decide) h.g.row (Nat.le_refl _), fun x hx => away1 (by decide) (h.g.inn x hx) (Nat.le_refl _), h.g.pw⟩
  have hsa : Own wa gs (gs + 1) 4 1 (.slice (some ⟨gs, 0, none⟩) n n) n (bools s.1) := hq.seen.only ha (.inl (by omega))
  have hp := (hG.widen (Nat.le_refl _) (show wr.heap.size ≤ wa.heap.size by omega)).push (TR := 31) (TE := 2) (by decide) (ho.widen (by omega) hhi) (fun x hx g hgx => by
    have hb := (h.g.inn x hx).blk_bd hgx
    intro e
    have hb2 := ho.blk_bd e
    omega) hX ho2 hg
  have hrX : Own X w0.heap.size wr.heap.size 31 1 v l.length (gcs l) := hG.row.below hX (by omega)
  refine ⟨?_, by simpa using hp, ?_, ?_, h0, by omega⟩
  · exact (hsa.below hX (by omega)).grownBy hg (fun g hgb e => own_types_ne (hsa.below hX (by omega)) hrX (by decide) hgb e.symm)
  · rw [List.map_append, List.map_append, h.dat]; rfl
  · have b1 : Below w0.heap.size wr wa := (hq.only.below h0 hbw).trans (ha.below hbw (by omega))
    have b2 : Below w0.heap.size X w2 := (Below.refl _ _).grown hg (by omega) (fun q hq' => (hrX.blk_bd hq').1)
    exact ((h.bel.trans b1).trans (hX.mono (by omega))).trans b2
end
end Go.Proofs.YteklfeeamjgplaaGreatDoor
