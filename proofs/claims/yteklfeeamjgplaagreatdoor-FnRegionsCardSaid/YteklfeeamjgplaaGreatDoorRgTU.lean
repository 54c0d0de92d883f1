/- XRgT, XRgU: merged texts. -/
import Derived.Test.YteklfeeamjgplaaGreatDoorRgRS
/- SetLevel by both. -/
namespace Go.Proofs.YteklfeeamjgplaaGreatDoor
open Go.ChangeShapes Go.WideShapes Go.ChangeAt Go.RowKit
set_option linter.unusedVariables false
def findD (ds : List Dat) (id : ByteArray) : Int := idxOf (fun d => eqS d.1 id) ds
theorem findR_dat (rs : List Rg) (id : ByteArray) : findR rs id = findD (rs.map Rg.dat) id := by
  unfold findR findD idxOf
  rw [idxFrom_map]; rfl
/-- a call's results: a list of regions and a code -/
def RegsPost (v : List Dat × Int) (w : World) (e : Ending) (w' : World) : Prop :=
  ∃ A n c q, e = .returned (.tuple #[.slice A n c, .int .i64 v.2]) ∧ OwnRegs w' w.heap.size w'.heap.size (.slice A n c) n q ∧ n ≤ 1048576 ∧ q.map Rg.dat = v.1 ∧ (∀ x ∈ q, x.n ≤ 1048576) ∧ Below w.heap.size w w'
theorem OwnRegs.nil {w : World} {lo hi : Nat} : OwnRegs w lo hi (.slice none 0 0) 0 [] := ⟨Own.nil, fun x hx => by simp at hx, fun x hx => by simp at hx, List.Pairwise.nil⟩
theorem RegsPost.err {v : List Dat × Int} {k : Int} {w w' : World} (hv : v = ([], k)) (hb : Below w.heap.size w w') : RegsPost v w (.returned (.tuple #[.slice none 0 0, .int .i64 k])) w' := by
  subst hv; exact ⟨none, 0, 0, [], rfl, OwnRegs.nil, by omega, rfl, fun x hx => by simp at hx, hb⟩
def lvSet (ds : List Dat) (k : Nat) (z : Int) : List Dat := match ds[k]? with
  | none => ds
  | some d => ds.set k (d.1, z, d.2.2)
theorem lvSet_dat {rs : List Rg} {k : Nat} {x : Rg} (h : rs[k]? = some x) (z : Int) : (rs.set k { x with lv := z }).map Rg.dat = lvSet (rs.map Rg.dat) k z := by
  rw [lvSet, dat_get h, List.map_set]; rfl
theorem set_n {rs : List Rg} {k M : Nat} {x : Rg} (h : rs[k]? = some x) (z : Int) (hx : ∀ y ∈ rs, y.n ≤ M) : ∀ y ∈ rs.set k { x with lv := z }, y.n ≤ M := by
  intro y hy
  rcases List.mem_or_eq_of_mem_set hy with h1 | h1
  · exact hx y h1
  · subst h1; exact hx x (List.mem_of_getElem? h)
/-- a level stored into a copy -/
theorem OwnRegs.setLv {w : World} {lo hi n g c i : Nat} {rs : List Rg} {x : Rg} (h : OwnRegs w lo hi (.slice (some ⟨g, 0, none⟩) n c) n rs) (hx : rs[i]? = some x) (z : Int) :
    OwnRegs (w.setCell ⟨g, i * 3 + 1, none⟩ (.int .i64 z)) lo hi (.slice (some ⟨g, 0, none⟩) n c) n (rs.set i { x with lv := z }) ∧ Only lo hi w (w.setCell ⟨g, i * 3 + 1, none⟩ (.int .i64 z)) :=
  h.setTop (y := { x with lv := z }) (j := 1) (u := .int .i64 z) hx rfl (by omega) ⟨rfl, rfl, rfl, rfl⟩
/-- the cells of element i of a row of the call's own -/
theorem OwnRegs.atOwn {w : World} {lo hi n g c i : Nat} {rs : List Rg} {x : Rg} (h : OwnRegs w lo hi (.slice (some ⟨g, 0, none⟩) n c) n rs) (hx : rs[i]? = some x) :
    w.cell? ⟨g, i * 3, none⟩ = some (.string x.id) ∧ w.cell? ⟨g, i * 3 + 1, none⟩ = some (.int .i64 x.lv) ∧ w.cell? ⟨g, i * 3 + 2, none⟩ = some (.slice x.A x.n x.c) ∧ w.frozen? ⟨g, i * 3 + 1, none⟩ = false := by
  obtain ⟨h0, h1, h2⟩ := rgs_get hx
  have hl : i < n := by have := (List.getElem?_eq_some_iff.1 hx).1; have := h.regs.len; omega
  refine ⟨?_, ?_, ?_, h.row.1.frozenAt _⟩
  · rw [h.row.1.cellAt _ (by omega)]; exact h0
  · rw [h.row.1.cellAt _ (by omega)]; exact h1
  · rw [h.row.1.cellAt _ (by omega)]; exact h2
def setLevelV (ds : List Dat) (id : ByteArray) (level : Int) : List Dat × Int := if validD ds = false then ([], 1) else if inB level 1 5 = false then ([], 2) else if findD ds id < 0 then ([], 3) else (lvSet ds (findD ds id).toNat level, 0)
theorem findD_bd (ds : List Dat) (id : ByteArray) : -1 ≤ findD ds id ∧ findD ds id < ds.length := by
  have := idxFrom_bd (fun d : Dat => eqS d.1 id) 0 ds
  unfold findD idxOf
  omega
end Go.Proofs.YteklfeeamjgplaaGreatDoor

/- SpreadLevel by both. -/
namespace Go.Proofs.YteklfeeamjgplaaGreatDoor
open Go.ChangeShapes Go.WideShapes Go.ChangeAt Go.RowKit
set_option linter.unusedVariables false
def maxZ (a b : Int) : Int := if a > b then a else b
theorem maxZ_max (a b : Int) : maxZ a b = max a b := by unfold maxZ; split <;> omega
def spE (id : ByteArray) (z : Int) (d : Dat) : Dat := if nearV d.2.2 id then (d.1, maxZ d.2.1 z, d.2.2) else d
def spTo (ds : List Dat) (id : ByteArray) (z : Int) (k : Nat) : List Dat := (ds.take k).map (spE id z) ++ ds.drop k
theorem spTo_zero (ds : List Dat) (id : ByteArray) (z : Int) : spTo ds id z 0 = ds := by simp [spTo]
theorem spTo_all (ds : List Dat) (id : ByteArray) (z : Int) : spTo ds id z ds.length = ds.map (spE id z) := by simp [spTo]
theorem spTo_get {ds : List Dat} {k : Nat} {d : Dat} (id : ByteArray) (z : Int) (h : ds[k]? = some d) : (spTo ds id z k)[k]? = some d := by
  have hk := (List.getElem?_eq_some_iff.1 h).1
  have hl : ((ds.take k).map (spE id z)).length = k := by simp; omega
  unfold spTo
  rw [List.getElem?_append_right (by omega), hl, Nat.sub_self, List.getElem?_drop, Nat.add_zero, h]
theorem spTo_succ {ds : List Dat} {k : Nat} {d : Dat} (id : ByteArray) (z : Int) (h : ds[k]? = some d) : spTo ds id z (k + 1) = (spTo ds id z k).set k (spE id z d) := by
  have hk := (List.getElem?_eq_some_iff.1 h).1
  have hl : ((ds.take k).map (spE id z)).length = k := by simp; omega
  unfold spTo
  rw [List.set_append_right _ _ (by omega), hl, Nat.sub_self, List.take_add_one, h, List.drop_eq_getElem_cons hk, List.set_cons_zero]
  simp
theorem spTo_no {ds : List Dat} {k : Nat} {d : Dat} (id : ByteArray) (z : Int) (h : ds[k]? = some d) (hn : nearV d.2.2 id = false) : spTo ds id z (k + 1) = spTo ds id z k := by
  rw [spTo_succ id z h, spE, hn]
  exact List.ext_getElem? fun i => by
    rw [List.getElem?_set]
    split
    · rename_i e; subst e
      have := spTo_get id z h
      rw [this]; have hk := (List.getElem?_eq_some_iff.1 this).1
      simp [hk]
    · rfl
theorem spTo_yes {ds : List Dat} {k : Nat} {d : Dat} (id : ByteArray) (z : Int) (h : ds[k]? = some d) (hn : nearV d.2.2 id = true) : spTo ds id z (k + 1) = lvSet (spTo ds id z k) k (maxZ d.2.1 z) := by
  rw [spTo_succ id z h, spE, if_pos hn, lvSet, spTo_get id z h]
def spreadV (ds : List Dat) (id : ByteArray) : List Dat × Int := if validD ds = false then ([], 1) else if findD ds id < 0 then ([], 3) else (ds.map (spE id (dLv ds (findD ds id).toNat)), 0)
/-- to lie near is mutual -/
theorem near_sym {rs : List Rg} (h : validR rs = true) {i j : Nat} {x y : Rg} (hx : rs[i]? = some x) (hy : rs[j]? = some y) : nearV x.near y.id = true → nearV y.near x.id = true := by
  intro hn
  obtain ⟨s, hs, he⟩ := List.any_eq_true.1 hn
  obtain ⟨k, hk⟩ := List.getElem?_of_mem hs
  have hkl := (List.getElem?_eq_some_iff.1 hk).1
  obtain ⟨a, e1, l1, n1⟩ := near_found h hx hk
  have hj := (List.getElem?_eq_some_iff.1 hy).1
  have haj : a = j := valid_inj h l1 hj (by rw [n1, eqS_iff.1 he, idAt_get hy])
  subst haj
  have h1 := valid_in h hx hkl
  unfold okIn at h1
  rw [sAt_get hk] at h1
  simp only [Bool.and_eq_true] at h1
  have h2 := h1.2
  unfold isNearR at h2
  rw [e1, if_neg (by omega), Int.toNat_natCast, hy] at h2
  exact h2
theorem nearV_congr {l : List ByteArray} {a b : ByteArray} (h : a.toList = b.toList) : nearV l a = nearV l b := by
  unfold nearV eqS
  rw [h]
/-- the test of the one is the test of the other -/
theorem spread_test {rs : List Rg} (h : validR rs = true) {i j : Nat} {x y : Rg} {id : ByteArray} (hx : rs[i]? = some x) (hy : rs[j]? = some y) (he : y.id.toList = id.toList) : nearV y.near x.id = nearV x.near id := by
  rw [← nearV_congr he, Bool.eq_iff_iff]
  exact ⟨near_sym h hy hx, near_sym h hx hy⟩
theorem OwnRegs.drewN {w : World} {lo hi n : Nat} {v : Value} {rs : List Rg} (h : OwnRegs w lo hi v n rs) (q : Nat) : OwnRegs (w.drewN q) lo hi v n rs := ⟨h.row.drewN q, fun x hx => (h.inn x hx).drewN q, h.off, h.pw⟩
theorem OwnRegs.drew {w : World} {lo hi n : Nat} {v : Value} {rs : List Rg} (h : OwnRegs w lo hi v n rs) : OwnRegs w.drew lo hi v n rs := ⟨h.row.drew, fun x hx => (h.inn x hx).drew, h.off, h.pw⟩
/-- a copy in work -/
structure Wk (w0 wr : World) (lo : Nat) (v : Value) (n : Nat) (ds : List Dat) : Prop where
  q : ∃ (hi : Nat) (rs : List Rg), OwnRegs wr lo hi v n rs ∧ hi ≤ wr.heap.size ∧ rs.map Rg.dat = ds ∧ (∀ x ∈ rs, x.n ≤ 1048576)
  bel : Below w0.heap.size w0 wr
  hlo : w0.heap.size ≤ lo
theorem Wk.alloc {w0 wr : World} {lo n : Nat} {v : Value} {ds : List Dat} (h : Wk w0 wr lo v n ds) (o : Obj) : Wk w0 (wr.alloc o) lo v n ds := by
  obtain ⟨hi, rs, h1, h2, h3, h4⟩ := h.q
  exact ⟨⟨hi, rs, h1.below ((Below.refl _ _).alloc (Nat.le_refl _) o) h2, by simp; omega, h3, h4⟩, h.bel.alloc h.bel.size o, h.hlo⟩
theorem Wk.drew {w0 wr : World} {lo n : Nat} {v : Value} {ds : List Dat} (h : Wk w0 wr lo v n ds) : Wk w0 wr.drew lo v n ds := by
  obtain ⟨hi, rs, h1, h2, h3, h4⟩ := h.q
  exact ⟨⟨hi, rs, h1.drew, h2, h3, h4⟩, h.bel.drew, h.hlo⟩
theorem Wk.drewN {w0 wr : World} {lo n : Nat} {v : Value} {ds : List Dat} (h : Wk w0 wr lo v n ds) (q : Nat) : Wk w0 (wr.drewN q) lo v n ds := by
  obtain ⟨hi, rs, h1, h2, h3, h4⟩ := h.q
  exact ⟨⟨hi, rs, h1.drewN q, h2, h3, h4⟩, below_drewN h.bel q, h.hlo⟩
theorem Wk.get {w0 wr : World} {lo n k : Nat} {v : Value} {ds : List Dat} {d : Dat} (h : Wk w0 wr lo v n ds) (hd : ds[k]? = some d) : ∃ g c A m e, v = .slice (some ⟨g, 0, none⟩) n c ∧ w0.heap.size ≤ g ∧ g < wr.heap.size ∧ k < n ∧ m ≤ 1048576 ∧
    wr.cell? ⟨g, k * 3, none⟩ = some (.string d.1) ∧ wr.cell? ⟨g, k * 3 + 1, none⟩ = some (.int .i64 d.2.1) ∧ wr.cell? ⟨g, k * 3 + 2, none⟩ = some (.slice A m e) ∧ wr.frozen? ⟨g, k * 3 + 1, none⟩ = false ∧ Reads wr wr.heap.size 1 A m (strs d.2.2) := by
  obtain ⟨hi, rs, h1, h2, rfl, h4⟩ := h.q
  rw [List.getElem?_map, Option.map_eq_some_iff] at hd
  obtain ⟨x, hx, rfl⟩ := hd
  obtain ⟨A, c, rfl, _, _⟩ := h1.row.slice
  have hkn : k < n := by have := (List.getElem?_eq_some_iff.1 hx).1; have := h1.regs.len; omega
  obtain ⟨g, rfl, hg1, hg2, hg3⟩ := h1.row.at_ (by omega)
  obtain ⟨c0, c1, c2, f1⟩ := h1.atOwn hx
  have hm := List.mem_of_getElem? hx
  exact ⟨g, c, x.A, x.n, x.c, rfl, by have := h.hlo; omega, hg3, hkn, h4 x hm, c0, c1, c2, f1, ((h1.inn x hm).reads).more h2⟩
theorem Wk.store {w0 wr : World} {lo n k g c : Nat} {ds : List Dat} {d : Dat} (h : Wk w0 wr lo (.slice (some ⟨g, 0, none⟩) n c) n ds) (hd : ds[k]? = some d) (z : Int) : Wk w0 (wr.setCell ⟨g, k * 3 + 1, none⟩ (.int .i64 z)) lo (.slice (some ⟨g, 0, none⟩) n c) n (lvSet ds k z) := by
  obtain ⟨hi, rs, h1, h2, rfl, h4⟩ := h.q
  rw [List.getElem?_map, Option.map_eq_some_iff] at hd
  obtain ⟨x, hx, rfl⟩ := hd
  have hs := h1.setLv hx z
  have hg := h1.row.blk_bd (g := g) (by simp [Value.ownBlock])
  exact ⟨⟨hi, _, hs.1, by simpa using h2, lvSet_dat hx z, set_n hx z h4⟩, h.bel.setCell (by show w0.heap.size ≤ g; have := h.hlo; omega) _, h.hlo⟩
theorem Wk.done {w0 wr : World} {lo n : Nat} {v : Value} {ds : List Dat} {V : List Dat × Int} (h : Wk w0 wr lo v n ds) (hn : n ≤ 1048576) (hV : V = (ds, 0)) : RegsPost V w0 (.returned (.tuple #[v, .int .i64 0])) wr := by
  obtain ⟨hi, rs, h1, h2, h3, h4⟩ := h.q
  obtain ⟨A, c, rfl, _, _⟩ := h1.row.slice
  subst hV
  exact ⟨A, n, c, rs, rfl, h1.widen h.hlo h2, hn, h3, h4, h.bel⟩
end Go.Proofs.YteklfeeamjgplaaGreatDoor
