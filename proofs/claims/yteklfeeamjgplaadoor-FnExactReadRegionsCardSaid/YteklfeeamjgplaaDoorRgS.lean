/- Copies of lists of regions, by the reference. -/
import Derived.Test.YteklfeeamjgplaaDoorRgR
namespace Go.Proofs.YteklfeeamjgplaaDoor
open Go.ChangeShapes Go.WideShapes Go.ChangeAt Go.RowKit
set_option linter.unusedVariables false
theorem keepLB {lo : Nat} {wr W W1 : World} {S : World → Prop} (hS : ∀ W', Below lo wr W' → S W') (hb : Below lo W W1) (h : Below lo wr W) : Below lo wr W1 ∧ S W1 :=
  ⟨h.trans hb, hS _ (h.trans hb)⟩
theorem keepLD {lo : Nat} {wr W : World} {S : World → Prop} (hS : ∀ W', Below lo wr W' → S W') (h : Below lo wr W) : Below lo wr W.drew ∧ S W.drew := ⟨h.drew, hS _ h.drew⟩
theorem keepLA {lo : Nat} {wr W : World} {S : World → Prop} {o : Obj} (hS : ∀ W', Below lo wr W' → S W') (hl : lo ≤ wr.heap.size) (h : Below lo wr W) : Below lo wr (W.alloc o) ∧ S (W.alloc o) :=
  ⟨h.alloc (Nat.le_trans hl h.size) o, hS _ (h.alloc (Nat.le_trans hl h.size) o)⟩
theorem keepLAD {lo : Nat} {wr W : World} {S : World → Prop} {o : Obj} (hS : ∀ W', Below lo wr W' → S W') (hl : lo ≤ wr.heap.size) (h : Below lo wr W) : Below lo wr (W.alloc o).drew ∧ S (W.alloc o).drew :=
  ⟨(h.alloc (Nat.le_trans hl h.size) o).drew, hS _ (h.alloc (Nat.le_trans hl h.size) o).drew⟩
theorem reads_one (W : World) (T : TypeId) (l : List Value) : Reads (W.alloc (.cells l.toArray T)) (W.heap.size + 1) l.length (some ⟨W.heap.size, 0, none⟩) 1 l := by
  refine ⟨by simp, fun _ => ⟨_, rfl, Nat.lt_succ_self _, fun j u hu => ?_⟩⟩
  have e : (⟨W.heap.size, 0, none⟩ : Addr).add j = ⟨W.heap.size, j, none⟩ := by unfold Addr.add; split <;> simp_all
  rw [e, (Blk.new W T l.toArray).cell j]
  simpa using hu
structure PartOw (w0 wr : World) (v : Value) (k : Nat) (rs ds : List Rg) : Prop where
  row : wr.ownsRow w0.heap.size 38 3 v k (rgs ds)
  len : ds.length = k
  dat : ds.map Rg.dat = (rs.take k).map Rg.dat
  inn : ∀ x ∈ ds, Own wr w0.heap.size wr.heap.size 9 1 x.row x.n (strs x.near)
  pw : ds.Pairwise fun x y => ∀ g, x.blk = some g → y.blk ≠ some g
  bel : Below w0.heap.size w0 wr
theorem PartOw.done {w0 wr : World} {n c : Nat} {A : Option Addr} {rs ds : List Rg} (h : PartOw w0 wr (.slice A n c) n rs ds) (hl : rs.length = n) : OwnRegs wr w0.heap.size wr.heap.size (.slice A n c) n ds ∧ ds.map Rg.dat = rs.map Rg.dat := by
  have hr := Own.of_owns h.row (Nat.le_refl _)
  refine ⟨⟨hr, h.inn, fun x hx g hg => own_types_ne (h.inn x hx) hr (by decide) hg, h.pw⟩, ?_⟩
  rw [h.dat, List.take_of_length_le (by omega)]
theorem PartOw.step {w0 wr wa X w2 : World} {k d : Nat} {v v2 : Value} {D : Option Addr} {rs ds : List Rg} {x : Rg} (h : PartOw w0 wr v k rs ds) (hx : rs[k]? = some x) (hb : Below wr.heap.size wr wa)
    (ho : Own wa wr.heap.size wa.heap.size 9 1 (.slice D x.n d) x.n (strs x.near)) (hX : Below wa.heap.size wa X) (ho2 : w2.ownsRow w0.heap.size 38 3 v2 (k + 1) (rgs ds ++ [.string x.id, .int .i64 x.lv, .slice D x.n d])) (hg : X.grownBy w2 v.ownBlock) :
    PartOw w0 w2 v2 (k + 1) rs (ds ++ [⟨x.id, x.lv, D, x.n, d, x.near⟩]) := by
  have hs1 := hb.size
  have hs2 := hX.size
  have hs3 := hg.size
  have hbw := h.bel.size
  have hrX : Own X w0.heap.size X.heap.size 38 3 v k (rgs ds) := ((Own.of_owns h.row (Nat.le_refl _)).below (hb.trans (hX.mono hs1)) (Nat.le_refl _)).widen (Nat.le_refl _) (by omega)
  have key : ∀ {lo hi n : Nat} {u : Value} {xs : List Value}, Own X lo hi 9 1 u n xs → Own w2 lo hi 9 1 u n xs := fun hu => hu.grownBy hg (fun g hgu e => own_types_ne hu hrX (by decide) hgu e.symm)
  refine ⟨by rw [rgs_app]; exact ho2, by simp [h.len], ?_, ?_, ?_, ?_⟩
  · rw [take_snoc_rg hx, List.map_append, List.map_append, h.dat]; rfl
  · intro y hy
    rcases List.mem_append.1 hy with h2 | h2
    · exact (key ((h.inn y h2).below (hb.trans (hX.mono hs1)) (Nat.le_refl _))).widen (Nat.le_refl _) (by omega)
    · simp at h2; subst h2
      exact (key (ho.below hX (Nat.le_refl _))).widen (by omega) (by omega)
  · rw [List.pairwise_append]
    refine ⟨h.pw, by simp, ?_⟩
    intro a ha b hb2 q hq
    simp at hb2; subst hb2
    have h3 := (h.inn a ha).blk_bd hq
    intro hq2
    have h4 := ho.blk_bd (g := q) hq2
    omega
  · have h5 : Below w0.heap.size X w2 := (Below.refl _ _).grown hg (by omega) (fun q hq => (hrX.blk_bd hq).1)
    exact (h.bel.trans ((hb.mono hbw).trans (hX.mono (by omega)))).trans h5
end Go.Proofs.YteklfeeamjgplaaDoor
