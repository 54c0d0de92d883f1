/- XRgA, XRgB, XRgC, XRgD: merged texts. -/
import Derived.Test.YteklfeeamjgplaaGreatDoorMio
import Derived.Test.YteklfeeamjgplaaGreatDoorTa
import Derived.Test.YteklfeeamjgplaaGreatDoorOpen
import Derived.Deep.LoopGhost
import Derived.Deep.RegionHeld3
import Derived.Deep.Fields
import Derived.Deep.DeepCutAuto
import Derived.Deep.Slices
import Derived.SliceStrings
import Derived.ChangeSame
/- Lists of texts: the laws' own helpers (copying, comparing, measuring). -/
namespace Go.Proofs.YteklfeeamjgplaaGreatDoor
open Go.ChangeShapes Go.WideShapes Go.ChangeAt Go.RowKit
set_option linter.unusedVariables false

def strs (l : List ByteArray) : List Value := l.map Value.string
theorem strs_len (l : List ByteArray) : (strs l).length = l.length := by simp [strs]
theorem strs_app (a b : List ByteArray) : strs (a ++ b) = strs a ++ strs b := by simp [strs]
theorem strs_get {l : List ByteArray} {k : Nat} {u : Value} (h : (strs l)[k]? = some u) : ∃ s, l[k]? = some s ∧ u = .string s := by
  simp only [strs, List.getElem?_map, Option.map_eq_some_iff] at h
  obtain ⟨z, hz, rfl⟩ := h
  exact ⟨z, hz, rfl⟩
theorem Reads.strLen {w : World} {B n : Nat} {A : Option Addr} {l : List ByteArray} (h : Reads w B 1 A n (strs l)) : l.length = n := by
  have := h.1
  simpa [strs] using this
theorem Reads.str {w : World} {B n k : Nat} {A : Option Addr} {l : List ByteArray} (h : Reads w B 1 A n (strs l)) (hk : k < n) :
    ∃ ad s, A = some ad ∧ ad.block < B ∧ l[k]? = some s ∧ w.cell? (ad.add k) = some (.string s) := by
  obtain ⟨ad, u, h1, h2, h3, h4⟩ := h.at_ hk
  obtain ⟨z, hz, rfl⟩ := strs_get h3
  exact ⟨ad, z, h1, h2, hz, h4⟩
theorem info_str : (Tryz.prog.info? 9).map (fun i => (i.zero, i.size, i.bytes)) = some (some (.string ⟨#[]⟩), 1, 16) := by kernel_rfl
theorem made_size (z : Array Value) (m : Nat) : (madeCells z m).size = m := by simp [madeCells]
theorem list_of_cells {C : Array Value} {l : List Value} (hs : C.size = l.length) (h : ∀ (i : Nat) (u : Value), l[i]? = some u → C[i]? = some u) : C.toList = l := by
  apply List.ext_getElem?
  intro i
  rw [Array.getElem?_toList]
  by_cases hi : i < l.length
  · rw [List.getElem?_eq_getElem hi]; exact h i _ (List.getElem?_eq_getElem hi)
  · rw [List.getElem?_eq_none (by omega), Array.getElem?_eq_none (by omega)]
end Go.Proofs.YteklfeeamjgplaaGreatDoor

/- Lists of regions: words, and the laws' own helpers. -/
namespace Go.Proofs.YteklfeeamjgplaaGreatDoor
open Go.ChangeShapes Go.WideShapes Go.ChangeAt Go.RowKit
set_option linter.unusedVariables false

/-- a region: its three fields and where the names near it lie -/
structure Rg where
  id : ByteArray
  lv : Int
  A : Option Addr
  n : Nat
  c : Nat
  near : List ByteArray
def Rg.cells (x : Rg) : List Value := [.string x.id, .int .i64 x.lv, .slice x.A x.n x.c]
def Rg.val (x : Rg) : Value := .agg #[.string x.id, .int .i64 x.lv, .slice x.A x.n x.c]
def Rg.row (x : Rg) : Value := .slice x.A x.n x.c
def Rg.dat (x : Rg) : ByteArray × Int × List ByteArray := (x.id, x.lv, x.near)
def rgs (rs : List Rg) : List Value := rs.flatMap Rg.cells
theorem rgs_len (rs : List Rg) : (rgs rs).length = rs.length * 3 := by
  induction rs with
  | nil => rfl
  | cons s r ih => simp only [rgs, List.flatMap_cons, List.length_append, List.length_cons] at ih ⊢; rw [ih]; simp [Rg.cells]; omega
theorem rgs_app (a b : List Rg) : rgs (a ++ b) = rgs a ++ rgs b := by simp [rgs]
theorem rgs_cons (s : Rg) (r : List Rg) : rgs (s :: r) = s.cells ++ rgs r := by simp [rgs]
theorem rgs_get {rs : List Rg} {i : Nat} {s : Rg} (h : rs[i]? = some s) :
    (rgs rs)[i * 3]? = some (.string s.id) ∧ (rgs rs)[i * 3 + 1]? = some (.int .i64 s.lv) ∧ (rgs rs)[i * 3 + 2]? = some s.row := by
  have e := drop_cons_get' h
  have hl : (rgs (rs.take i)).length = i * 3 := by
    rw [rgs_len, List.length_take]
    have := (List.getElem?_eq_some_iff.1 h).1
    omega
  rw [e, rgs_app, rgs_cons]
  refine ⟨?_, ?_, ?_⟩ <;> rw [List.getElem?_append_right (by omega), hl]
  · rw [show i * 3 - i * 3 = 0 from by omega]; rfl
  · rw [show i * 3 + 1 - i * 3 = 1 from by omega]; rfl
  · rw [show i * 3 + 2 - i * 3 = 2 from by omega]; rfl
theorem rgs_inv {rs : List Rg} {j : Nat} {u : Value} (h : (rgs rs)[j]? = some u) :
    ∃ s, rs[j / 3]? = some s ∧ ((j % 3 = 0 ∧ u = .string s.id) ∨ (j % 3 = 1 ∧ u = .int .i64 s.lv) ∨ (j % 3 = 2 ∧ u = s.row)) := by
  have hj := (List.getElem?_eq_some_iff.1 h).1
  rw [rgs_len] at hj
  have hs : rs[j / 3]? = some (rs[j / 3]'(by omega)) := List.getElem?_eq_getElem (by omega)
  refine ⟨_, hs, ?_⟩
  obtain ⟨h0, h1, h2⟩ := rgs_get hs
  have h3 : j % 3 = 0 ∨ j % 3 = 1 ∨ j % 3 = 2 := by omega
  rcases h3 with h3 | h3 | h3
  · rw [show j / 3 * 3 = j from by omega, h] at h0; injection h0 with h0; exact .inl ⟨h3, h0⟩
  · rw [show j / 3 * 3 + 1 = j from by omega, h] at h1; injection h1 with h1; exact .inr (.inl ⟨h3, h1⟩)
  · rw [show j / 3 * 3 + 2 = j from by omega, h] at h2; injection h2 with h2; exact .inr (.inr ⟨h3, h2⟩)
theorem addr_field (a : Addr) (i j : Nat) (hj : 0 < j) : (⟨(a.add i).block, (a.add i).off + j, none⟩ : Addr) = a.add (i + j) := by
  unfold Addr.add
  by_cases hi : i = 0
  · subst hi; rw [if_pos rfl, if_neg (by omega), Nat.zero_add]
  · rw [if_neg hi, if_neg (by omega)]; simp; omega
/-- the names near a region, in memory -/
def Near (w : World) (B : Nat) (x : Rg) : Prop := Reads w B 1 x.A x.n (strs x.near)
theorem Near.below {w w' : World} {B : Nat} {x : Rg} (h : Near w B x) (hb : Below B w w') : Near w' B x := Reads.below h hb
/-- a list of regions in memory: its row and all rows of names lie below block B -/
structure Regs (w : World) (B : Nat) (A : Option Addr) (n : Nat) (rs : List Rg) : Prop where
  row : Reads w B 3 A n (rgs rs)
  near : ∀ x ∈ rs, Near w B x
theorem Regs.below {w w' : World} {B n : Nat} {A : Option Addr} {rs : List Rg} (h : Regs w B A n rs) (hb : Below B w w') : Regs w' B A n rs := ⟨h.row.below hb, fun x hx => (h.near x hx).below hb⟩
theorem Regs.more {w : World} {B B' n : Nat} {A : Option Addr} {rs : List Rg} (h : Regs w B A n rs) (hB : B ≤ B') : Regs w B' A n rs := ⟨h.row.more hB, fun x hx => Reads.more (h.near x hx) hB⟩
theorem Regs.len {w : World} {B n : Nat} {A : Option Addr} {rs : List Rg} (h : Regs w B A n rs) : rs.length = n := by
  have := h.row.1; rw [rgs_len] at this; omega
/-- element k at the address ad is the region x -/
def RgAt (w : World) (ad : Addr) (k : Nat) (x : Rg) : Prop := w.cell? (ad.add (k * 3)) = some (.string x.id) ∧ w.cell? ⟨(ad.add (k * 3)).block, (ad.add (k * 3)).off + 1, none⟩ = some (.int .i64 x.lv) ∧
      w.cell? ⟨(ad.add (k * 3)).block, (ad.add (k * 3)).off + 2, none⟩ = some (.slice x.A x.n x.c)
theorem Regs.at_ {w : World} {B n k : Nat} {A : Option Addr} {rs : List Rg} (h : Regs w B A n rs) (hk : k < n) :
    ∃ ad x, A = some ad ∧ ad.block < B ∧ rs[k]? = some x ∧ Near w B x ∧ RgAt w ad k x := by
  obtain ⟨ad, rfl, hb, hc⟩ := h.row.2 (by omega)
  have hl := h.len
  have hs : rs[k]? = some rs[k] := List.getElem?_eq_getElem (by omega)
  obtain ⟨h0, h1, h2⟩ := rgs_get hs
  refine ⟨ad, rs[k], rfl, hb, hs, h.near _ (List.getElem_mem _), hc _ _ h0, ?_, ?_⟩
  · rw [addr_field _ _ _ (by omega)]; exact hc _ _ h1
  · rw [addr_field _ _ _ (by omega)]; exact hc _ _ h2
/-- rows of the call's own, each in a block of its own -/
def Rg.blk (x : Rg) : Option Nat := x.row.ownBlock
structure OwnRegs (w : World) (lo hi : Nat) (v : Value) (n : Nat) (rs : List Rg) : Prop where
  row : Own w lo hi 37 3 v n (rgs rs)
  inn : ∀ x ∈ rs, Own w lo hi 9 1 x.row x.n (strs x.near)
  off : ∀ x ∈ rs, ∀ g, x.blk = some g → v.ownBlock ≠ some g
  pw : rs.Pairwise fun x y => ∀ g, x.blk = some g → y.blk ≠ some g
theorem OwnRegs.regs {w : World} {lo hi n c : Nat} {A : Option Addr} {rs : List Rg} (h : OwnRegs w lo hi (.slice A n c) n rs) : Regs w hi A n rs := ⟨h.row.reads, fun x hx => (h.inn x hx).reads⟩
theorem OwnRegs.below {w w' : World} {lo hi n B : Nat} {v : Value} {rs : List Rg} (h : OwnRegs w lo hi v n rs) (hb : Below B w w') (hB : hi ≤ B) : OwnRegs w' lo hi v n rs :=
  ⟨h.row.below hb hB, fun x hx => (h.inn x hx).below hb hB, h.off, h.pw⟩
theorem OwnRegs.only {w w' : World} {lo hi lo' hi' n : Nat} {v : Value} {rs : List Rg} (h : OwnRegs w lo hi v n rs) (ho : Only lo' hi' w w') (hd : hi ≤ lo' ∨ hi' ≤ lo) : OwnRegs w' lo hi v n rs :=
  ⟨h.row.only ho hd, fun x hx => (h.inn x hx).only ho hd, h.off, h.pw⟩
theorem OwnRegs.widen {w : World} {lo hi lo' hi' n : Nat} {v : Value} {rs : List Rg} (h : OwnRegs w lo hi v n rs) (h1 : lo' ≤ lo) (h2 : hi ≤ hi') : OwnRegs w lo' hi' v n rs :=
  ⟨h.row.widen h1 h2, fun x hx => (h.inn x hx).widen h1 h2, h.off, h.pw⟩
end Go.Proofs.YteklfeeamjgplaaGreatDoor

/- Lists of regions: copying, comparing, measuring. -/
namespace Go.Proofs.YteklfeeamjgplaaGreatDoor
open Go.ChangeShapes Go.WideShapes Go.ChangeAt Go.RowKit
set_option linter.unusedVariables false

theorem Own.setOut {w : World} {lo hi s n : Nat} {T : TypeId} {v : Value} {xs : List Value} (h : Own w lo hi T s v n xs) {p : Addr} (hp : p.block < lo) (u : Value) : Own (w.setCell p u) lo hi T s v n xs :=
  h.only (lo' := p.block) (hi' := p.block + 1) ⟨rfl, rfl, rfl, by simp, fun k hk hc => Below.heap_setCell _ _ _ _ (by omega)⟩ (.inr hp)
theorem Own.blk_bd {w : World} {lo hi s n g : Nat} {T : TypeId} {v : Value} {xs : List Value} (h : Own w lo hi T s v n xs) (hg : v.ownBlock = some g) : lo ≤ g ∧ g < hi := ⟨(h.1.lt g hg).1, h.2 g hg⟩
theorem take_snoc_rg {α : Type} {l : List α} {k : Nat} {x : α} (h : l[k]? = some x) : l.take (k + 1) = l.take k ++ [x] := by rw [List.take_add_one, h]; rfl
def sumN (rs : List Rg) : Nat := (rs.map Rg.n).sum
theorem sumN_take {rs : List Rg} {k : Nat} {x : Rg} (h : rs[k]? = some x) : sumN (rs.take (k + 1)) = sumN (rs.take k) + x.n := by
  unfold sumN; rw [List.take_add_one, h]; simp
/-- sizes that no machine goes past -/
def RgFit (x : Rg) : Prop := x.id.size ≤ maxLen ∧ (∀ s ∈ x.near, s.size ≤ maxLen) ∧ x.n ≤ 9223372036854775807
theorem sumN_mem : ∀ {rs : List Rg} {x : Rg}, x ∈ rs → x.n ≤ sumN rs
  | y :: rs, x, h => by
    have e : sumN (y :: rs) = y.n + sumN rs := by simp [sumN]
    rcases List.mem_cons.1 h with rfl | h
    · omega
    · have := sumN_mem h; omega
end Go.Proofs.YteklfeeamjgplaaGreatDoor

/- Lists of regions: opening an argument. (open_slice_fields: laid out for copying in the guide's page extra-structs.) -/
namespace Go.Proofs.YteklfeeamjgplaaGreatDoor
open Go.ChangeShapes Go.WideShapes Go.ChangeAt Go.RowKit Go.Deep
set_option linter.unusedVariables false
section
variable {H : Type} {enc : TypeId × Value → H} {P : Program} {w : World} {base : Nat} {spare : Nat → Bool} {held : Bool}
theorem open_slice_fields {t e : TypeId} {fs : Array Field} {fuel : Nat} {cs : List Value} {x : DataW H × List MemPlace} (ht : P.underlying t = some (.slice e)) (he : P.underlying e = some (.struct fs))
    (hone : oneCellFields P fs = true) (hC : P.cellsOf e = fs.size) (h : DataW.trod enc P w base spare held fuel t cs = some x) :
    (cs = [.slice none 0 0] ∧ x = (.nil, [])) ∨
    ∃ (a : Addr) (len cap m : Nat) (D : Nat → DataW H) (Pl : Nat → List MemPlace), cs = [.slice (some a) len cap] ∧ base ≤ a.block ∧ len ≤ cap ∧ cap ≤ maxLen ∧ m = (if spare a.block then cap else len) ∧
      x = (.slice ((List.range len).map D) ((List.range (m - len)).map fun j => D (len + j)), MemPlace.row a (m * fs.size) ++ (List.range m).flatMap Pl) ∧
      ∀ i, i < m → ∃ (ys : List (DataW H × List MemPlace)) (n : Nat), D i = .agg (ys.map (·.1)) ∧ Pl i = ys.flatMap (·.2) ∧ ys.length = fs.size ∧
        ∀ (j : Nat) (f : Field), fs[j]? = some f → ∃ (v : Value) (y : DataW H × List MemPlace), w.cell? (a.add (i * fs.size + j)) = some v ∧ ys[j]? = some y ∧ DataW.trod enc P w base spare held n f.type [v] = some y := by
  rcases open_slice ht h with h0 | ⟨a, len, cap, m, n, D, Pl, hcs, hb, hl, hm, hmm, hx, hi⟩
  · exact .inl h0
  · refine .inr ⟨a, len, cap, m, D, Pl, hcs, hb, hl, hm, hmm, by rw [hC] at hx; exact hx, fun i him => ?_⟩
    obtain ⟨cs', hc, ht'⟩ := hi i him
    rw [hC] at hc
    obtain ⟨ys, n', hn', hy, hlen, hyl, hf⟩ := DataW.trod_struct he ht'
    obtain ⟨_, hcl, hat⟩ := World.cells?_some hc
    simp only [Prod.mk.injEq] at hy
    refine ⟨ys, n', hy.1, hy.2, hyl, fun j f hj => ?_⟩
    obtain ⟨ho, hk⟩ := hone_of hone j f hj
    have hjl : j < fs.size := (Array.getElem?_eq_some_iff.1 hj).1
    have hcell := hat j hjl
    have hv : cs'[j]? = some (cs'[j]'(by omega)) := List.getElem?_eq_getElem (by omega)
    have h1 := hf j f hj
    rw [ho, hk] at h1
    have hone' : (cs'.drop j).take 1 = [cs'[j]'(by omega)] := by
      rw [List.drop_eq_getElem_cons (by omega)]
      rfl
    rw [hone'] at h1
    have hys : ys[j]? = some (ys[j]'(by omega)) := List.getElem?_eq_getElem (by omega)
    refine ⟨_, _, ?_, hys, h1.trans hys⟩
    rw [← Go.Deep.add_add, hcell, hv]
end
theorem list_of {α : Type} (P : Nat → α → Prop) : ∀ n : Nat, (∀ i, i < n → ∃ x, P i x) → ∃ l : List α, l.length = n ∧ ∀ (i : Nat) (x : α), l[i]? = some x → P i x
  | 0, _ => ⟨[], rfl, fun i x h => by simp at h⟩
  | n + 1, h => by
    obtain ⟨l, hl, hP⟩ := list_of P n (fun i hi => h i (by omega))
    obtain ⟨x, hx⟩ := h n (by omega)
    refine ⟨l ++ [x], by simp [hl], fun i y hy => ?_⟩
    by_cases hi : i < n
    · rw [List.getElem?_append_left (by omega)] at hy; exact hP i y hy
    · rw [List.getElem?_append_right (by omega)] at hy
      have : i - l.length = 0 := by
        have := (List.getElem?_eq_some_iff.1 hy).1
        simp at this; omega
      rw [this] at hy; simp at hy
      obtain rfl : i = n := by omega
      rw [← hy]; exact hx
end Go.Proofs.YteklfeeamjgplaaGreatDoor
