/- Lists of regions: words, and the laws' own helpers. -/
import Derived.Test.YteklfeeamjgplaaDoorRgA
namespace Go.Proofs.YteklfeeamjgplaaDoor
open Go.ChangeShapes Go.WideShapes Go.ChangeAt Go.RowKit
set_option linter.unusedVariables false

/-- a region: its three fields and where the names near it lie -/
structure Rg where
  id : ByteArray
  lv : Int
  A : Option Addr
  n : Nat
  c : Nat
  near : List ByteArray
def Rg.cells (x : Rg) : List Value := [.string x.id, .int .i64 x.lv, .slice x.A x.n x.c]
def Rg.val (x : Rg) : Value := .agg #[.string x.id, .int .i64 x.lv, .slice x.A x.n x.c]
def Rg.row (x : Rg) : Value := .slice x.A x.n x.c
def Rg.dat (x : Rg) : ByteArray × Int × List ByteArray := (x.id, x.lv, x.near)
def rgs (rs : List Rg) : List Value := rs.flatMap Rg.cells
theorem rgs_len (rs : List Rg) : (rgs rs).length = rs.length * 3 := by
  induction rs with
  | nil => rfl
  | cons s r ih => simp only [rgs, List.flatMap_cons, List.length_append, List.length_cons] at ih ⊢; rw [ih]; simp [Rg.cells]; omega
theorem rgs_app (a b : List Rg) : rgs (a ++ b) = rgs a ++ rgs b := by simp [rgs]
theorem rgs_cons (s : Rg) (r : List Rg) : rgs (s :: r) = s.cells ++ rgs r := by simp [rgs]
theorem rgs_get {rs : List Rg} {i : Nat} {s : Rg} (h : rs[i]? = some s) :
    (rgs rs)[i * 3]? = some (.string s.id) ∧ (rgs rs)[i * 3 + 1]? = some (.int .i64 s.lv) ∧ (rgs rs)[i * 3 + 2]? = some s.row := by
  have e := drop_cons_get' h
  have hl : (rgs (rs.take i)).length = i * 3 := by
    rw [rgs_len, List.length_take]
    have := (List.getElem?_eq_some_iff.1 h).1
    omega
  rw [e, rgs_app, rgs_cons]
  refine ⟨?_, ?_, ?_⟩ <;> rw [List.getElem?_append_right (by omega), hl]
  · rw [show i * 3 - i * 3 = 0 from by omega]; rfl
  · rw [show i * 3 + 1 - i * 3 = 1 from by omega]; rfl
  · rw [show i * 3 + 2 - i * 3 = 2 from by omega]; rfl
theorem rgs_inv {rs : List Rg} {j : Nat} {u : Value} (h : (rgs rs)[j]? = some u) :
    ∃ s, rs[j / 3]? = some s ∧ ((j % 3 = 0 ∧ u = .string s.id) ∨ (j % 3 = 1 ∧ u = .int .i64 s.lv) ∨ (j % 3 = 2 ∧ u = s.row)) := by
  have hj := (List.getElem?_eq_some_iff.1 h).1
  rw [rgs_len] at hj
  have hs : rs[j / 3]? = some (rs[j / 3]'(by omega)) := List.getElem?_eq_getElem (by omega)
  refine ⟨_, hs, ?_⟩
  obtain ⟨h0, h1, h2⟩ := rgs_get hs
  have h3 : j % 3 = 0 ∨ j % 3 = 1 ∨ j % 3 = 2 := by omega
  rcases h3 with h3 | h3 | h3
  · rw [show j / 3 * 3 = j from by omega, h] at h0; injection h0 with h0; exact .inl ⟨h3, h0⟩
  · rw [show j / 3 * 3 + 1 = j from by omega, h] at h1; injection h1 with h1; exact .inr (.inl ⟨h3, h1⟩)
  · rw [show j / 3 * 3 + 2 = j from by omega, h] at h2; injection h2 with h2; exact .inr (.inr ⟨h3, h2⟩)
theorem addr_field (a : Addr) (i j : Nat) (hj : 0 < j) : (⟨(a.add i).block, (a.add i).off + j, none⟩ : Addr) = a.add (i + j) := by
  unfold Addr.add
  by_cases hi : i = 0
  · subst hi; rw [if_pos rfl, if_neg (by omega), Nat.zero_add]
  · rw [if_neg hi, if_neg (by omega)]; simp; omega
/-- the names near a region, in memory -/
def Near (w : World) (B : Nat) (x : Rg) : Prop := Reads w B 1 x.A x.n (strs x.near)
theorem Near.below {w w' : World} {B : Nat} {x : Rg} (h : Near w B x) (hb : Below B w w') : Near w' B x := Reads.below h hb
/-- a list of regions in memory: its row and all rows of names lie below block B -/
structure Regs (w : World) (B : Nat) (A : Option Addr) (n : Nat) (rs : List Rg) : Prop where
  row : Reads w B 3 A n (rgs rs)
  near : ∀ x ∈ rs, Near w B x
theorem Regs.below {w w' : World} {B n : Nat} {A : Option Addr} {rs : List Rg} (h : Regs w B A n rs) (hb : Below B w w') : Regs w' B A n rs := ⟨h.row.below hb, fun x hx => (h.near x hx).below hb⟩
theorem Regs.more {w : World} {B B' n : Nat} {A : Option Addr} {rs : List Rg} (h : Regs w B A n rs) (hB : B ≤ B') : Regs w B' A n rs := ⟨h.row.more hB, fun x hx => Reads.more (h.near x hx) hB⟩
theorem Regs.len {w : World} {B n : Nat} {A : Option Addr} {rs : List Rg} (h : Regs w B A n rs) : rs.length = n := by
  have := h.row.1; rw [rgs_len] at this; omega
/-- element k at the address ad is the region x -/
def RgAt (w : World) (ad : Addr) (k : Nat) (x : Rg) : Prop := w.cell? (ad.add (k * 3)) = some (.string x.id) ∧ w.cell? ⟨(ad.add (k * 3)).block, (ad.add (k * 3)).off + 1, none⟩ = some (.int .i64 x.lv) ∧
      w.cell? ⟨(ad.add (k * 3)).block, (ad.add (k * 3)).off + 2, none⟩ = some (.slice x.A x.n x.c)
theorem Regs.at_ {w : World} {B n k : Nat} {A : Option Addr} {rs : List Rg} (h : Regs w B A n rs) (hk : k < n) :
    ∃ ad x, A = some ad ∧ ad.block < B ∧ rs[k]? = some x ∧ Near w B x ∧ RgAt w ad k x := by
  obtain ⟨ad, rfl, hb, hc⟩ := h.row.2 (by omega)
  have hl := h.len
  have hs : rs[k]? = some rs[k] := List.getElem?_eq_getElem (by omega)
  obtain ⟨h0, h1, h2⟩ := rgs_get hs
  refine ⟨ad, rs[k], rfl, hb, hs, h.near _ (List.getElem_mem _), hc _ _ h0, ?_, ?_⟩
  · rw [addr_field _ _ _ (by omega)]; exact hc _ _ h1
  · rw [addr_field _ _ _ (by omega)]; exact hc _ _ h2
/-- rows of the call's own, each in a block of its own -/
def Rg.blk (x : Rg) : Option Nat := x.row.ownBlock
structure OwnRegs (w : World) (lo hi : Nat) (v : Value) (n : Nat) (rs : List Rg) : Prop where
  row : Own w lo hi 38 3 v n (rgs rs)
  inn : ∀ x ∈ rs, Own w lo hi 9 1 x.row x.n (strs x.near)
  off : ∀ x ∈ rs, ∀ g, x.blk = some g → v.ownBlock ≠ some g
  pw : rs.Pairwise fun x y => ∀ g, x.blk = some g → y.blk ≠ some g
theorem OwnRegs.regs {w : World} {lo hi n c : Nat} {A : Option Addr} {rs : List Rg} (h : OwnRegs w lo hi (.slice A n c) n rs) : Regs w hi A n rs := ⟨h.row.reads, fun x hx => (h.inn x hx).reads⟩
theorem OwnRegs.below {w w' : World} {lo hi n B : Nat} {v : Value} {rs : List Rg} (h : OwnRegs w lo hi v n rs) (hb : Below B w w') (hB : hi ≤ B) : OwnRegs w' lo hi v n rs :=
  ⟨h.row.below hb hB, fun x hx => (h.inn x hx).below hb hB, h.off, h.pw⟩
theorem OwnRegs.only {w w' : World} {lo hi lo' hi' n : Nat} {v : Value} {rs : List Rg} (h : OwnRegs w lo hi v n rs) (ho : Only lo' hi' w w') (hd : hi ≤ lo' ∨ hi' ≤ lo) : OwnRegs w' lo hi v n rs :=
  ⟨h.row.only ho hd, fun x hx => (h.inn x hx).only ho hd, h.off, h.pw⟩
theorem OwnRegs.widen {w : World} {lo hi lo' hi' n : Nat} {v : Value} {rs : List Rg} (h : OwnRegs w lo hi v n rs) (h1 : lo' ≤ lo) (h2 : hi ≤ hi') : OwnRegs w lo' hi' v n rs :=
  ⟨h.row.widen h1 h2, fun x hx => (h.inn x hx).widen h1 h2, h.off, h.pw⟩
set_option maxHeartbeats 2000000 in
theorem toRegion_c (x : Rg) (BA : Nat) (w : World) (ha : Near w BA x) (hB : BA ≤ w.heap.size) (hn : x.n ≤ 1048576) :
    Calls Tryd.prog 17 #[x.val] w fun e w' => ∃ D d, e = .returned (.agg #[.string x.id, .int .i64 x.lv, .slice D x.n d]) ∧ Own w' w.heap.size w'.heap.size 9 1 (.slice D x.n d) x.n (strs x.near) ∧ Below w.heap.size w w' := by
  have HA := Lib.hid ha; clear ha
  obtain ⟨id, lv, A, n, c, near⟩ := x
  simp only [Rg.val] at *
  obtain ⟨W, hW⟩ : ∃ W, W = ((w.alloc (.cells #[.string id, .int .i64 lv, .slice A n c] 36)).alloc (.cells #[.string ⟨#[]⟩, .int .i64 0, .slice none 0 0] 38)).alloc (.cells #[.string id, .int .i64 lv, .slice none 0 0] 38) := ⟨_, rfl⟩
  have hsz : W.heap.size = w.heap.size + 1 + 1 + 1 := by rw [hW]; simp
  have K0 : Blk W w.heap.size 36 #[.string id, .int .i64 lv, .slice A n c] := by rw [hW]; exact ((Blk.new _ _ _).alloc _).alloc _
  have K1 : Blk W (w.heap.size + 1) 38 #[.string ⟨#[]⟩, .int .i64 0, .slice none 0 0] := by
    rw [hW]; exact (by have h := (Blk.new (w.alloc (.cells #[.string id, .int .i64 lv, .slice A n c] 36)) 38 #[.string ⟨#[]⟩, .int .i64 0, .slice none 0 0]).alloc (.cells #[.string id, .int .i64 lv, .slice none 0 0] 38); simpa using h)
  have K2 : Blk W (w.heap.size + 1 + 1) 38 #[.string id, .int .i64 lv, .slice none 0 0] := by
    rw [hW]; exact (by have h := Blk.new ((w.alloc (.cells #[.string id, .int .i64 lv, .slice A n c] 36)).alloc (.cells #[.string ⟨#[]⟩, .int .i64 0, .slice none 0 0] 38)) 38 #[.string id, .int .i64 lv, .slice none 0 0]; simpa using h)
  have T0 : Below w.heap.size w W := by rw [hW]; exact ((((Below.refl _ _).alloc (Nat.le_refl _) _).alloc (by simp) _).alloc (by simp; omega) _)
  have HWE := Lib.hid hW
  clear hW
  have HK0 := Lib.hid K0
  have HK1 := Lib.hid K1
  have HK2 := Lib.hid K2
  have HT0 := Lib.hid T0
  clear K0 K1 K2 T0
  go_enter Tryd.func17, Tryd.ntmps17
  go_upto_region 4 with (fail)
  rw [← HWE.out]
  have x3 : W.cell? ⟨w.heap.size, 2, none⟩ = some (.slice A n c) := HK0.out.cell 2
  go_wp2_with fail
  refine (toStringS_own A n c BA near W (HA.out.below (HT0.out.mono hB)) (by omega) hn).mono ?_
  rintro e W1 ⟨D, d, rfl, O1, B1⟩
  have HK1' := Lib.hid (HK1.out.below B1 (by omega))
  have HK2' := Lib.hid (HK2.out.below B1 (by omega))
  have HO := Lib.hid O1
  have HT1 := Lib.hid (HT0.out.trans (B1.mono (by omega)))
  have hs1 := B1.size
  clear B1 O1 x3 HK0 HK1 HK2 HT0 HWE
  have y0 : W1.cell? ⟨w.heap.size + 1 + 1, 0, none⟩ = some (.string id) := HK2'.out.cell 0
  have y1 : W1.cell? ⟨w.heap.size + 1 + 1, 1, none⟩ = some (.int .i64 lv) := HK2'.out.cell 1
  have y2 : W1.cell? ⟨w.heap.size + 1 + 1, 2, none⟩ = some (.slice none 0 0) := HK2'.out.cell 2
  have f2 := HK2'.out.frozen 2
  have r0 : W1.cell? ⟨w.heap.size + 1, 0, none⟩ = some (.string ⟨#[]⟩) := HK1'.out.cell 0
  have r1 : W1.cell? ⟨w.heap.size + 1, 1, none⟩ = some (.int .i64 0) := HK1'.out.cell 1
  have r2 : W1.cell? ⟨w.heap.size + 1, 2, none⟩ = some (.slice none 0 0) := HK1'.out.cell 2
  have s0 := HK1'.out.frozen 0
  have s1 := HK1'.out.frozen 1
  have s2 := HK1'.out.frozen 2
  go_wp2
  refine bodyPost_ret (v := .agg #[.string id, .int .i64 lv, .slice D n d]) (by simp [results, Tryd.results17, go_sem, r0, r1, r2]) rfl ?_
  have out : ∀ {w : World} {lo hi s n : Nat} {T : TypeId} {v : Value} {xs : List Value}, Own w lo hi T s v n xs → ∀ (p : Addr), p.block < lo → ∀ u, Own (w.setCell p u) lo hi T s v n xs := fun h p hp u =>
    h.only (lo' := p.block) (hi' := p.block + 1) ⟨rfl, rfl, rfl, by simp, fun k hk hc => Below.heap_setCell _ _ _ _ (by omega)⟩ (.inr hp)
  exact ⟨D, d, rfl, ((out (out (out (out HO.out ⟨w.heap.size + 1 + 1, 2, none⟩ (by show w.heap.size + 1 + 1 < W.heap.size; omega) _) ⟨w.heap.size + 1, 0, none⟩ (by show w.heap.size + 1 < W.heap.size; omega) _) ⟨w.heap.size + 1, 1, none⟩ (by show w.heap.size + 1 < W.heap.size; omega) _) ⟨w.heap.size + 1, 2, none⟩ (by show w.heap.size + 1 < W.heap.size; omega) _).widen (by omega) (by simp)),
    ((((HT1.out.setCell (p := ⟨w.heap.size + 1 + 1, 2, none⟩) (by show w.heap.size ≤ w.heap.size + 1 + 1; omega) _).setCell (p := ⟨w.heap.size + 1, 0, none⟩) (by show w.heap.size ≤ w.heap.size + 1; omega) _).setCell (p := ⟨w.heap.size + 1, 1, none⟩) (by show w.heap.size ≤ w.heap.size + 1; omega) _).setCell (p := ⟨w.heap.size + 1, 2, none⟩) (by show w.heap.size ≤ w.heap.size + 1; omega) _)⟩
set_option maxHeartbeats 1000000 in
theorem eqRegion_same (x y : Rg) (BX BY : Nat) (w : World) (hx : Near w BX x) (hy : Near w BY y) (hX : BX ≤ w.heap.size) (hY : BY ≤ w.heap.size) (he : x.dat = y.dat) (hn : x.n ≤ 1152921504606846976) :
    Calls Tryd.prog 21 #[x.val, y.val] w fun e w' => e = .returned (.bool true) ∧ Below w.heap.size w w' := by
  obtain ⟨id, lv, A, n, c, near⟩ := x
  obtain ⟨id', lv', A', n', c', near'⟩ := y
  simp only [Rg.dat, Prod.mk.injEq] at he
  obtain ⟨rfl, rfl, rfl⟩ := he
  have HE := Lib.hid fun W (hW : Below w.heap.size w W) => eqStringS_same A A' n n' c c' BX BY near W (Reads.below hx (hW.mono hX)) (Reads.below hy (hW.mono hY)) hn
  clear hx hy
  simp only [Rg.val] at *
  go_enter Tryd.func21, Tryd.ntmps21
  go_wp2_with fail
  refine (HE.out _ (((Below.refl _ _).alloc (Nat.le_refl _) _).alloc (by simp) _)).mono ?_
  rintro e w1 ⟨rfl, B1⟩
  have HB := Lib.hid B1; clear B1
  go_wp2
  go_ret
  exact ⟨rfl, (((Below.refl _ _).alloc (Nat.le_refl _) _).alloc (by simp) _).trans (HB.out.mono (by simp; omega))⟩
end Go.Proofs.YteklfeeamjgplaaDoor
