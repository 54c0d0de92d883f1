/- FnRegions: drawn regions, words of memory. -/
import Derived.Test.YteklfeeamjgplaaGreatDoorFrQ
import Derived.Test.YteklfeeamjgplaaGreatDoorSrcs
import Derived.Deep.RegionHeld3
import Derived.Deep.DeepCutAuto
namespace Go.Proofs.YteklfeeamjgplaaGreatDoor
open Go.ChangeShapes Go.WideShapes Go.ChangeAt Go.RowKit
set_option linter.unusedVariables false
theorem one_c (g M : Nat) (n : Int) (w : World) (h : Src w g M) (hM : M ≤ 500000000000000000) (hn : n ≤ 1000000000000) :
    Calls Tryz.prog 65 #[.pointer (some ⟨g, 0, none⟩), .int .i64 n] w fun e w' => ∃ b : Bool, e = .returned (.bool b) ∧ Src w' g (M + 2) ∧ Only g (g + 1) w w' := by
  have HS := Lib.hid h; clear h
  go_enter Tryz.func65, Tryz.ntmps65
  go_wp2_with fail
  refine (pick_c g M n w HS.out (by omega) (by omega)).mono ?_
  rintro e w1 ⟨v, rfl, hv0, hv1, S1, Y1⟩
  have S1' := Lib.hid S1
  have Y1' := Lib.hid Y1
  clear S1 Y1 hv1
  go_wp2
  go_ret
  exact ⟨_, rfl, S1'.out, Y1'.out⟩
def TextPost (w : World) (g M : Nat) (l : List ByteArray) (e : Ending) (w' : World) : Prop :=
  ∃ s : ByteArray, e = .returned (.string s) ∧ s ∈ l ∧ Src w' g M ∧ Only g (g + 1) w w'
theorem text_c (g gl M n : Nat) (l : List ByteArray) (w : World) (h : Src w g M) (hk : Blk w gl 9 (strs l).toArray) (hne : gl ≠ g) (hl : l.length = n) (hn : 0 < n) (hn2 : n ≤ 1000000000) (hM : M ≤ 500000000000000000) :
    Calls Tryz.prog 42 #[.pointer (some ⟨g, 0, none⟩), .slice (some ⟨gl, 0, none⟩) n n] w (TextPost w g (M + 2) l) := by
  have HS := Lib.hid h; clear h
  have HK := Lib.hid hk; clear hk
  have HL := Lib.hid hl; clear hl
  go_enter Tryz.func42, Tryz.ntmps42
  go_wp2_with fail
  refine (pick_c g M n w HS.out (by omega) (by omega)).mono ?_
  rintro e w1 ⟨v, rfl, hv0, hv1, S1, Y1⟩
  obtain ⟨j, rfl⟩ : ∃ j : Nat, v = j := ⟨v.toNat, by omega⟩
  have hj : j < n := by omega
  have K1 := HK.out.only' Y1 (by omega)
  have hz : l[j]? = some (l[j]'(by rw [HL.out]; omega)) := List.getElem?_eq_getElem _
  have c1 : w1.cell? ⟨gl, j, none⟩ = some (.string (l[j]'(by rw [HL.out]; omega))) := (K1.cell j).trans (by simp [strs, hz])
  have hm : l[j]'(by rw [HL.out]; omega) ∈ l := List.getElem_mem _
  generalize l[j]'(by rw [HL.out]; omega) = z at c1 hm
  have S1' := Lib.hid S1
  have Y1' := Lib.hid Y1
  clear S1 Y1 K1 hz hv1
  go_wp2
  go_ret
  exact ⟨z, rfl, hm, S1'.out, Y1'.out⟩
theorem only_after {lo hi : Nat} {w w' w'' : World} (h : Only lo hi w w') (hb : Below w.heap.size w' w'') : Only lo hi w w'' :=
  ⟨hb.os.trans h.os, hb.tape.trans h.tape, hb.output.trans h.output, Nat.le_trans h.size hb.size, fun k hk hc => (hb.block k hk).trans (h.block k hk hc)⟩
/-- drawn regions, being made -/
structure DR (w wr : World) (g M : Nat) (v : Value) (n K : Nat) (rs : List Rg) : Prop where
  own : OwnRegs wr w.heap.size wr.heap.size v n rs
  src : Src wr g M
  only : Only g (g + 1) w wr
  few : ∀ x ∈ rs, x.n ≤ K
  hg : g < w.heap.size
section
variable {w wr : World} {g M n K : Nat} {v : Value} {rs : List Rg}
theorem DR.more {M2 K2 : Nat} (h : DR w wr g M v n K rs) (hM : M ≤ M2) (hK : K ≤ K2) : DR w wr g M2 v n K2 rs := ⟨h.own, h.src.more hM, h.only, fun x hx => Nat.le_trans (h.few x hx) hK, h.hg⟩
theorem DR.turn {w2 : World} {M2 : Nat} (h : DR w wr g M v n K rs) (hs : Src w2 g M2) (ho : Only g (g + 1) wr w2) : DR w w2 g M2 v n K rs :=
  ⟨(h.own.only ho (.inr (by have := h.hg; omega))).widen (Nat.le_refl _) ho.size, hs, h.only.trans ho, h.few, h.hg⟩
theorem DR.bel {w2 : World} (h : DR w wr g M v n K rs) (hb : Below wr.heap.size wr w2) : DR w w2 g M v n K rs :=
  ⟨(h.own.below hb (Nat.le_refl _)).widen (Nat.le_refl _) hb.size, h.src.below hb h.src.lt, only_after h.only (hb.mono h.only.size), h.few, h.hg⟩
theorem DR.alloc (h : DR w wr g M v n K rs) (o : Obj) : DR w (wr.alloc o) g M v n K rs := h.bel ((Below.refl _ _).alloc (Nat.le_refl _) o)
theorem DR.drew (h : DR w wr g M v n K rs) : DR w wr.drew g M v n K rs := h.bel (Below.refl _ _).drew
theorem DR.drewN (h : DR w wr g M v n K rs) (q : Nat) : DR w (wr.drewN q) g M v n K rs := h.bel (below_drewN (Below.refl _ _) q)
/-- a region appended, whose names are a row of their own -/
theorem DR.push {X Y w2 : World} {M2 m d : Nat} {v2 : Value} {D : Option Addr} {id : ByteArray} {lv : Int} {nr : List ByteArray} (h : DR w wr g M v n K rs) (hX : Only g (g + 1) wr X) (hs : Src X g M2) (hm : m ≤ K)
    (ho : Own X wr.heap.size X.heap.size 9 1 (.slice D m d) m (strs nr)) (hY : Below X.heap.size X Y) (ho2 : w2.ownsRow w.heap.size 37 3 v2 (n + 1) (rgs rs ++ [.string id, .int .i64 lv, .slice D m d])) (hgr : Y.grownBy w2 v.ownBlock) :
    DR w w2 g M2 v2 (n + 1) K (rs ++ [⟨id, lv, D, m, d, nr⟩]) := by
  have hs1 := hX.size
  have hs2 := hY.size
  have hs3 := hgr.size
  have hbw := h.only.size
  have hg := h.hg
  have hYo : OwnRegs Y w.heap.size wr.heap.size v n rs := (h.own.only hX (.inr (by omega))).below hY hs1
  have key : ∀ {lo hi n : Nat} {u : Value} {xs : List Value}, Own Y lo hi 9 1 u n xs → Own w2 lo hi 9 1 u n xs := fun hu => hu.grownBy hgr (fun g hgu e => own_types_ne hu hYo.row (by decide) hgu e.symm)
  have hne : ∀ q, v.ownBlock = some q → w.heap.size ≤ q := fun q hq => (hYo.row.blk_bd hq).1
  have hr2 := Own.of_owns ho2 (Nat.le_refl w2.heap.size)
  have hin : ∀ y ∈ rs ++ [⟨id, lv, D, m, d, nr⟩], Own w2 w.heap.size w2.heap.size 9 1 y.row y.n (strs y.near) := by
    intro y hy
    rcases List.mem_append.1 hy with h2 | h2
    · exact (key (hYo.inn y h2)).widen (Nat.le_refl _) (by omega)
    · simp at h2; subst h2
      exact (key (ho.below hY (Nat.le_refl _))).widen (by omega) (by omega)
  have hrow : Own w2 w.heap.size w2.heap.size 37 3 v2 (n + 1) (rgs (rs ++ [⟨id, lv, D, m, d, nr⟩])) := by rw [rgs_app]; exact hr2
  refine ⟨⟨hrow, hin, fun y hy q hq => own_types_ne (hin y hy) hrow (by decide) hq, ?_⟩, ?_, ?_, ?_, hg⟩
  · rw [List.pairwise_append]
    refine ⟨hYo.pw, by simp, ?_⟩
    intro a ha b hb2 q hq
    simp at hb2; subst hb2
    have h3 := (hYo.inn a ha).blk_bd hq
    intro hq2
    have h4 := ho.blk_bd (g := q) hq2
    omega
  · have hsY : Src Y g M2 := hs.below hY hs.lt
    obtain ⟨A, n', c, zs, a, s, h1, h2, h3⟩ := hsY
    have hb2 : Below w.heap.size Y w2 := (Below.refl _ _).grown hgr (by omega) hne
    exact Src.below ⟨A, n', c, zs, a, s, h1, h2, h3⟩ hb2 hg
  · have hb2 : Below w.heap.size Y w2 := (Below.refl _ _).grown hgr (by omega) hne
    exact only_after (only_after (h.only.trans hX) (hY.mono (by omega))) hb2
  · intro y hy
    rcases List.mem_append.1 hy with h2 | h2
    · exact h.few y h2
    · simp at h2; subst h2; exact hm
end
/-- a text appended to the names of one region, and the new row stored -/
theorem OwnRegs.app {X w2 : World} {lo hi n g c i : Nat} {rs : List Rg} {x : Rg} {A' : Option Addr} {c' : Nat} {s : ByteArray} (h : OwnRegs X lo hi (.slice (some ⟨g, 0, none⟩) n c) n rs) (hh : hi ≤ X.heap.size) (hlo : lo ≤ X.heap.size) (hx : rs[i]? = some x)
    (O4 : w2.ownsRow lo 9 1 (.slice A' (x.n + 1) c') (x.n + 1) (strs x.near ++ [.string s])) (G4 : X.grownBy w2 x.blk) (hb : (Value.slice A' (x.n + 1) c').ownBlock = x.blk ∨ (Value.slice A' (x.n + 1) c').ownBlock = some X.heap.size) :
    OwnRegs (w2.setCell ⟨g, i * 3 + 2, none⟩ (.slice A' (x.n + 1) c')) lo w2.heap.size (.slice (some ⟨g, 0, none⟩) n c) n (rs.set i ⟨x.id, x.lv, A', x.n + 1, c', x.near ++ [s]⟩) := by
  have hxm := List.mem_of_getElem? hx
  have hi' := (List.getElem?_eq_some_iff.1 hx).1
  have hs2 := G4.size
  have hrow : Own w2 lo hi 37 3 (.slice (some ⟨g, 0, none⟩) n c) n (rgs rs) := h.row.grownBy G4 (fun q hq e => h.off x hxm q e.symm hq)
  have hst := hrow.stored (j := i * 3 + 2) (.slice A' (x.n + 1) c')
  have hset := rgs_set (y := ⟨x.id, x.lv, A', x.n + 1, c', x.near ++ [s]⟩) (j := 2) (u := .slice A' (x.n + 1) c') hx rfl (by omega)
  rw [hset] at hst
  have hnew : Own w2 lo w2.heap.size 9 1 (.slice A' (x.n + 1) c') (x.n + 1) (strs (x.near ++ [s])) := by
    have h1 := Own.of_owns O4 (Nat.le_refl w2.heap.size)
    have e : strs x.near ++ [Value.string s] = strs (x.near ++ [s]) := by simp [strs]
    rwa [e] at h1
  have hgrow : ∀ {lo' hi' k : Nat} {u : Value} {xs : List Value}, Own w2 lo' hi' 9 1 u k xs → Own (w2.setCell ⟨g, i * 3 + 2, none⟩ (.slice A' (x.n + 1) c')) lo' hi' 9 1 u k xs := fun hu =>
    hu.away (only_set w2 ⟨g, i * 3 + 2, none⟩ _) (fun q hq => by
      have := own_types_ne hu hrow (by decide) hq
      simp [Value.ownBlock] at this
      show q < g ∨ g + 1 ≤ q
      omega)
  have key : ∀ k (hk : k < (rs.set i ⟨x.id, x.lv, A', x.n + 1, c', x.near ++ [s]⟩).length) (hk' : k < rs.length), (k = i ∧ (rs.set i ⟨x.id, x.lv, A', x.n + 1, c', x.near ++ [s]⟩)[k] = ⟨x.id, x.lv, A', x.n + 1, c', x.near ++ [s]⟩) ∨ (k ≠ i ∧ (rs.set i ⟨x.id, x.lv, A', x.n + 1, c', x.near ++ [s]⟩)[k] = rs[k]) := by
    intro k hk hk'
    rw [List.getElem_set]
    split
    · rename_i e; exact .inl ⟨e.symm, rfl⟩
    · rename_i e; exact .inr ⟨fun q => e q.symm, rfl⟩
  have hpw := List.pairwise_iff_getElem.1 h.pw
  have hxi : rs[i] = x := by have h1 := List.getElem?_eq_getElem hi'; rw [hx] at h1; exact (Option.some.inj h1).symm
  have hoth : ∀ k (hk : k < rs.length), k ≠ i → ∀ q, rs[k].blk = some q → x.blk ≠ some q := by
    intro k hk hne q hq e
    rcases Nat.lt_or_gt_of_ne hne with h1 | h1
    · exact hpw k i hk hi' h1 q hq (by rw [hxi]; exact e)
    · exact hpw i k hi' hk h1 q (by rw [hxi]; exact e) hq
  have hin : ∀ z ∈ rs.set i ⟨x.id, x.lv, A', x.n + 1, c', x.near ++ [s]⟩, Own (w2.setCell ⟨g, i * 3 + 2, none⟩ (.slice A' (x.n + 1) c')) lo w2.heap.size 9 1 z.row z.n (strs z.near) := by
    intro z hz
    obtain ⟨k, hk⟩ := List.getElem?_of_mem hz
    obtain ⟨hkl, hke⟩ := List.getElem?_eq_some_iff.1 hk
    have hkl' : k < rs.length := by simpa using hkl
    rcases key k hkl hkl' with ⟨_, e⟩ | ⟨hne, e⟩
    · rw [← hke, e]; exact hgrow hnew
    · rw [← hke, e]
      refine hgrow (((h.inn rs[k] (List.getElem_mem _)).grownBy G4 (fun q hq e2 => hoth k hkl' hne q hq e2.symm)).widen (Nat.le_refl _) (by omega))
  have hrow2 : Own (w2.setCell ⟨g, i * 3 + 2, none⟩ (.slice A' (x.n + 1) c')) lo w2.heap.size 37 3 (.slice (some ⟨g, 0, none⟩) n c) n (rgs (rs.set i ⟨x.id, x.lv, A', x.n + 1, c', x.near ++ [s]⟩)) := hst.1.widen (Nat.le_refl _) (by omega)
  refine ⟨hrow2, hin, fun z hz q hq => own_types_ne (hin z hz) hrow2 (by decide) hq, ?_⟩
  rw [List.pairwise_iff_getElem]
  intro a b ha hb2 hab q hq hq2
  have ha' : a < rs.length := by simpa using ha
  have hb' : b < rs.length := by simpa using hb2
  have bnd : ∀ k (hk : k < rs.length), ∀ q, rs[k].blk = some q → q < X.heap.size := fun k hk q hq => by
    have := (h.inn rs[k] (List.getElem_mem _)).2 q hq
    omega
  rcases key a ha ha' with ⟨ea, e1⟩ | ⟨ea, e1⟩ <;> rcases key b hb2 hb' with ⟨eb, e2⟩ | ⟨eb, e2⟩
  · omega
  · rw [e1] at hq; rw [e2] at hq2
    have hq' : (Value.slice A' (x.n + 1) c').ownBlock = some q := hq
    rcases hb with hb | hb
    · exact hoth b hb' eb q hq2 (hb.symm.trans hq')
    · have := bnd b hb' q hq2
      rw [hb] at hq'
      injection hq' with hq'
      omega
  · rw [e1] at hq; rw [e2] at hq2
    have hq' : (Value.slice A' (x.n + 1) c').ownBlock = some q := hq2
    rcases hb with hb | hb
    · exact hoth a ha' ea q hq (hb.symm.trans hq')
    · have := bnd a ha' q hq
      rw [hb] at hq'
      injection hq' with hq'
      omega
  · rw [e1] at hq; rw [e2] at hq2
    exact hpw a b ha' hb' hab q hq hq2
theorem DR.app {w wr X w2 : World} {g M n K K2 gt c i : Nat} {rs : List Rg} {x : Rg} {A' : Option Addr} {c' : Nat} {s : ByteArray} (h : DR w wr g M (.slice (some ⟨gt, 0, none⟩) n c) n K rs) (hX : Below wr.heap.size wr X) (hx : rs[i]? = some x)
    (O4 : w2.ownsRow w.heap.size 9 1 (.slice A' (x.n + 1) c') (x.n + 1) (strs x.near ++ [.string s])) (G4 : X.grownBy w2 x.blk) (hb : (Value.slice A' (x.n + 1) c').ownBlock = x.blk ∨ (Value.slice A' (x.n + 1) c').ownBlock = some X.heap.size) (hK : K ≤ K2) (hK2 : x.n + 1 ≤ K2) :
    DR w (w2.setCell ⟨gt, i * 3 + 2, none⟩ (.slice A' (x.n + 1) c')) g M (.slice (some ⟨gt, 0, none⟩) n c) n K2 (rs.set i ⟨x.id, x.lv, A', x.n + 1, c', x.near ++ [s]⟩) := by
  have hbw := h.only.size
  have hXs := hX.size
  have hg := h.hg
  have hO : OwnRegs X w.heap.size wr.heap.size (.slice (some ⟨gt, 0, none⟩) n c) n rs := h.own.below hX (Nat.le_refl _)
  have hgt := (hO.row.blk_bd (g := gt) (by simp [Value.ownBlock])).1
  have hr := hO.app hXs (by omega) hx O4 G4 hb
  have hxb : ∀ q, x.blk = some q → w.heap.size ≤ q := fun q hq => ((hO.inn x (List.mem_of_getElem? hx)).blk_bd hq).1
  have hb2 : Below w.heap.size X (w2.setCell ⟨gt, i * 3 + 2, none⟩ (.slice A' (x.n + 1) c')) := ((Below.refl _ _).grown G4 (by omega) hxb).setCell hgt _
  refine ⟨hr.widen (Nat.le_refl _) (by simp), (h.src.below hX h.src.lt).below hb2 hg, only_after (only_after h.only (hX.mono hbw)) hb2, fun y hy => ?_, hg⟩
  rcases List.mem_or_eq_of_mem_set hy with h1 | h1
  · exact Nat.le_trans (h.few y h1) hK
  · subst h1; exact hK2
theorem reads_two (W : World) (o : Obj) (T : TypeId) (l : List Value) : Reads ((W.alloc o).alloc (.cells l.toArray T)) (W.heap.size + 1 + 1) l.length (some ⟨W.heap.size + 1, 0, none⟩) 1 l := by
  have h := reads_one (W.alloc o) T l
  simpa using h
theorem keepCA {W : World} {a : Addr} {v : Value} (o : Obj) (h : W.cell? a = some v) : (W.alloc o).cell? a = some v := by
  rw [World.cell?_alloc_lt W o a (World.block_lt_of_cell? W a h)]; exact h
theorem keepCO {W W1 : World} {lo hi : Nat} {a : Addr} {v : Value} (ho : Only lo hi W W1) (hne : a.block < lo ∨ hi ≤ a.block) (h : W.cell? a = some v) : W1.cell? a = some v := by
  rw [World.cell?_of_block (ho.block a.block (World.block_lt_of_cell? W a h) hne)]; exact h
theorem keepCG {W W1 : World} {r : Option Nat} {a : Addr} {v : Value} (hg : W.grownBy W1 r) (hne : some a.block ≠ r) (h : W.cell? a = some v) : W1.cell? a = some v := by
  rw [World.cell?_of_block (hg.block a.block (World.block_lt_of_cell? W a h) hne)]; exact h
def DRPost (w : World) (g M K : Nat) (e : Ending) (w' : World) : Prop := ∃ v n rs, e = .returned v ∧ DR w w' g M v n K rs ∧ n ≤ 9
def names6 : List ByteArray := [⟨#[101, 97, 115, 116]⟩, ⟨#[108, 97, 107, 101]⟩, ⟨#[110, 111, 114, 116, 104]⟩, ⟨#[114, 105, 100, 103, 101]⟩, ⟨#[115, 111, 117, 116, 104]⟩, ⟨#[119, 101, 115, 116]⟩]
set_option maxHeartbeats 4000000 in
set_option maxRecDepth 100000 in
theorem l18DrawOk_c (g M : Nat) (w : World) (h : Src w g M) (hM : M ≤ 100000000000000000) :
    Calls Tryz.prog 39 #[.pointer (some ⟨g, 0, none⟩)] w (DRPost w g (M + 200) 100) := by
  have hg := h.lt
  obtain ⟨w1, hw1⟩ : ∃ W, W = w.alloc (.cells #[.string ⟨#[101, 97, 115, 116]⟩, .string ⟨#[108, 97, 107, 101]⟩, .string ⟨#[110, 111, 114, 116, 104]⟩, .string ⟨#[114, 105, 100, 103, 101]⟩, .string ⟨#[115, 111, 117, 116, 104]⟩, .string ⟨#[119, 101, 115, 116]⟩] 9) := ⟨_, rfl⟩
  have HN : Hid (∀ k, k < 6 → ∃ s, w1.cell? ⟨w.heap.size, k, none⟩ = some (.string s)) := Lib.hid (fun k hk => by
    rw [hw1, (Blk.new _ _ _).cell k]
    have : k = 0 ∨ k = 1 ∨ k = 2 ∨ k = 3 ∨ k = 4 ∨ k = 5 := by omega
    rcases this with rfl | rfl | rfl | rfl | rfl | rfl <;> exact ⟨_, rfl⟩)
  have D1 : Hid (DR w (w1.alloc (.cells #[] 37)) g M (.slice (some ⟨w1.heap.size, 0, none⟩) 0 0) 0 0 []) := Lib.hid (by
    have ho := World.ownsRow_lit (w := w1) (base := w.heap.size) (e := 37) (size := 3) #[] 0 (by rw [hw1]; simp) (by simp [maxLen]) (by simp)
    exact ⟨⟨Own.of_owns ho (Nat.le_refl _), fun x hx => by simp at hx, fun x hx => by simp at hx, List.Pairwise.nil⟩, by rw [hw1]; exact (h.alloc _).alloc _, by rw [hw1]; exact ((Only.refl g (g + 1) w).alloc' _).alloc' _, fun x hx => by simp at hx, hg⟩)
  have HK0 : Hid (Blk w1 w.heap.size 9 #[.string ⟨#[101, 97, 115, 116]⟩, .string ⟨#[108, 97, 107, 101]⟩, .string ⟨#[110, 111, 114, 116, 104]⟩, .string ⟨#[114, 105, 100, 103, 101]⟩, .string ⟨#[115, 111, 117, 116, 104]⟩, .string ⟨#[119, 101, 115, 116]⟩]) := Lib.hid (by rw [hw1]; exact Blk.new _ _ _)
  clear h
  go_enter Tryz.func39, Tryz.ntmps39
  go_upto_region 2 with (fail)
  rw [← hw1]
  clear hw1
  go_wp2
  go_loopw [4, 5] (fun ov kv wr => ∃ (k n : Nat) (rs : List Rg), k ≤ 6 ∧ n ≤ k ∧ kv = .int .i64 k ∧ Hid (DR w wr g (M + 4 * k) ov n 0 rs) ∧ Hid (Blk wr w.heap.size 9 #[.string ⟨#[101, 97, 115, 116]⟩, .string ⟨#[108, 97, 107, 101]⟩, .string ⟨#[110, 111, 114, 116, 104]⟩, .string ⟨#[114, 105, 100, 103, 101]⟩, .string ⟨#[115, 111, 117, 116, 104]⟩, .string ⟨#[119, 101, 115, 116]⟩])) (fun _ kv _ => 6 - (intOf kv).toNat)
  case atStart => exact ⟨0, 0, [], by omega, Nat.le_refl _, rfl, D1, Lib.hid (HK0.out.alloc _)⟩
  case round =>
    clear D1 HK0
    obtain ⟨k, n, rs, hk, hnk, rfl, HD, HK⟩ := hrel
    have hws := HD.out.only.size
    generalize wr = wo at *
    by_cases hlt : k < 6
    · have hk6 : (k : Int) < 6 := by omega
      have hk0 : (0 : Int) ≤ (k : Int) := by omega
      go_wp2_with fail
      refine (one_c g _ 3 wo HD.out.src (by omega) (by omega)).mono ?_
      rintro e w2 ⟨b, rfl, S2, Y2⟩
      have HD2 := Lib.hid (HD.out.turn S2 Y2)
      have HK2 := Lib.hid (HK.out.only' Y2 (.inr (by omega)))
      have hs2 : w.heap.size ≤ w2.heap.size := HD2.out.only.size
      clear S2 Y2 HD HK
      cases b
      · obtain ⟨nm, hc0⟩ : ∃ s, w2.cell? ⟨w.heap.size, k, none⟩ = some (.string s) := by
          rw [HK2.out.cell k]
          have : k = 0 ∨ k = 1 ∨ k = 2 ∨ k = 3 ∨ k = 4 ∨ k = 5 := by omega
          rcases this with rfl | rfl | rfl | rfl | rfl | rfl <;> exact ⟨_, rfl⟩
        have hnb : (⟨w.heap.size, k, none⟩ : Addr).block < g ∨ g + 1 ≤ (⟨w.heap.size, k, none⟩ : Addr).block := .inr hg
        have hnr : some (⟨w.heap.size, k, none⟩ : Addr).block ≠ u4.ownBlock := fun e => own_blk_ne HD2.out.own.row.1 HK2.out (by decide) e.symm
        obtain ⟨i1, hi1, hz1, hs1, hb1⟩ := info_parts info_rg
        have HJ := Lib.hid (And.intro hi1 (And.intro hz1 (And.intro hs1 hb1)))
        clear hi1 hz1 hs1 hb1
        have HPA : Hid (∀ w3 (v : Int), Src w3 g (M + 4 * k + 4) → Only g (g + 1) w2.drew w3 → ∀ v5 w5, w5.ownsRow w.heap.size 37 3 v5 (n + 1) (rgs rs ++ [.string nm, .int .i64 (1 + v), .slice (some ⟨w3.heap.size, 0, none⟩) 0 0]) →
            ((w3.alloc (.cells #[] 9)).alloc (.cells #[.string nm, .int .i64 (1 + v), .slice (some ⟨w3.heap.size, 0, none⟩) 0 0] 37)).grownBy w5 u4.ownBlock →
            DR w w5 g (M + 4 * (k + 1)) v5 (n + 1) 0 (rs ++ [⟨nm, 1 + v, some ⟨w3.heap.size, 0, none⟩, 0, 0, []⟩]) ∧ Blk w5 w.heap.size 9 #[.string ⟨#[101, 97, 115, 116]⟩, .string ⟨#[108, 97, 107, 101]⟩, .string ⟨#[110, 111, 114, 116, 104]⟩, .string ⟨#[114, 105, 100, 103, 101]⟩, .string ⟨#[115, 111, 117, 116, 104]⟩, .string ⟨#[119, 101, 115, 116]⟩]) := Lib.hid (fun w3 v S3 Y3 v5 w5 O5 G5 => by
          have Y3' : Only g (g + 1) w2 w3 := ⟨Y3.os, Y3.tape, Y3.output, Y3.size, Y3.block⟩
          have hs3 : w2.heap.size ≤ w3.heap.size := Y3'.size
          have ho := Own.of_owns (World.ownsRow_lit (w := w3) (base := w2.heap.size) (e := 9) (size := 1) #[] 0 hs3 (by simp [maxLen]) (by simp)) (Nat.le_refl _)
          have hp := HD2.out.push (M2 := M + 4 * (k + 1)) (nr := []) (Y3'.alloc' (.cells #[] 9)) ((S3.alloc _).more (by omega)) (by omega) ho ((Below.refl _ _).alloc (Nat.le_refl _) _) O5 G5
          exact ⟨hp, (((HK2.out.only' Y3' (.inr (by omega))).alloc _).alloc _).grown G5 hnr⟩)
        have HPB : Hid (∀ w3 (v : Int), Src w3 g (M + 4 * k + 4) → Only g (g + 1) (w2.alloc (.cells #[] 9)).drew w3 → ∀ v5 w5, w5.ownsRow w.heap.size 37 3 v5 (n + 1) (rgs rs ++ [.string nm, .int .i64 (1 + v), .slice (some ⟨w2.heap.size, 0, none⟩) 0 0]) →
            (w3.alloc (.cells #[.string nm, .int .i64 (1 + v), .slice (some ⟨w2.heap.size, 0, none⟩) 0 0] 37)).grownBy w5 u4.ownBlock →
            DR w w5 g (M + 4 * (k + 1)) v5 (n + 1) 0 (rs ++ [⟨nm, 1 + v, some ⟨w2.heap.size, 0, none⟩, 0, 0, []⟩]) ∧ Blk w5 w.heap.size 9 #[.string ⟨#[101, 97, 115, 116]⟩, .string ⟨#[108, 97, 107, 101]⟩, .string ⟨#[110, 111, 114, 116, 104]⟩, .string ⟨#[114, 105, 100, 103, 101]⟩, .string ⟨#[115, 111, 117, 116, 104]⟩, .string ⟨#[119, 101, 115, 116]⟩]) := Lib.hid (fun w3 v S3 Y3 v5 w5 O5 G5 => by
          have Y3' : Only g (g + 1) (w2.alloc (.cells #[] 9)) w3 := ⟨Y3.os, Y3.tape, Y3.output, Y3.size, Y3.block⟩
          have hs3 : w2.heap.size + 1 ≤ w3.heap.size := by have := Y3'.size; simpa using this
          have ho0 := Own.of_owns (World.ownsRow_lit (w := w2) (base := w2.heap.size) (e := 9) (size := 1) #[] 0 (Nat.le_refl _) (by simp [maxLen]) (by simp)) (Nat.le_refl _)
          have ho := (ho0.only Y3' (.inr (by omega))).widen (Nat.le_refl _) (show (w2.alloc (.cells #[] 9)).heap.size ≤ w3.heap.size from Y3'.size)
          have Y4 : Only g (g + 1) w2 w3 := ((Only.refl g (g + 1) w2).alloc' (.cells #[] 9)).trans Y3'
          have hp := HD2.out.push (M2 := M + 4 * (k + 1)) (nr := []) Y4 (S3.more (by omega)) (by omega) ho ((Below.refl _ _).alloc (Nat.le_refl _) _) O5 G5
          exact ⟨hp, ((HK2.out.only' Y4 (.inr (by omega))).alloc _).grown G5 hnr⟩)
        have HOA : Hid (∀ w3, Only g (g + 1) w2.drew w3 → ∀ o1 o2, ((w3.alloc o1).alloc o2).ownsRow w.heap.size 37 3 u4 n (rgs rs)) := Lib.hid (fun w3 Y3 o1 o2 => owns_al (owns_al (HD2.out.own.row.only (⟨Y3.os, Y3.tape, Y3.output, Y3.size, Y3.block⟩ : Only g (g + 1) w2 w3) (.inr (by omega))).1 o1) o2)
        have HOB : Hid (∀ w3, Only g (g + 1) (w2.alloc (.cells #[] 9)).drew w3 → ∀ o2, (w3.alloc o2).ownsRow w.heap.size 37 3 u4 n (rgs rs)) := Lib.hid (fun w3 Y3 o2 => owns_al (HD2.out.own.row.only (((Only.refl g (g + 1) w2).alloc' (.cells #[] 9)).trans (⟨Y3.os, Y3.tape, Y3.output, Y3.size, Y3.block⟩ : Only g (g + 1) (w2.alloc (.cells #[] 9)) w3)) (.inr (by omega))).1 o2)
        have hszA : ∀ w3, Only g (g + 1) w2.drew w3 → w.heap.size ≤ w3.heap.size := fun w3 Y3 => Nat.le_trans hs2 Y3.size
        have hszB : ∀ w3, Only g (g + 1) (w2.alloc (.cells #[] 9)).drew w3 → w.heap.size ≤ w3.heap.size := fun w3 Y3 => Nat.le_trans hs2 (Nat.le_trans (by simp) Y3.size)
        go_upto_region 7 with (fail)
        go_region_held3 (fun w' => w'.cell? ⟨w.heap.size, k, none⟩ = some (.string nm))
          (first | exact keepCO (by assumption) hnb (by assumption) | exact keepCG (by assumption) hnr (by assumption) | exact keepCA _ (by assumption) | exact hc0 | exact keepCA _ hc0 | (go_keep; done))
          (first
            | (go_at_call 40; refine (pick_c g (M + 4 * k + 2) 4 w2.drew HD2.out.drew.src (by omega) (by omega)).mono ?_; rintro e w3 ⟨v, rfl, hv0, hv1, S3, Y3⟩
               have HW3 : Hid (Src w3 g (M + 4 * k + 4) ∧ Only g (g + 1) w2.drew w3) := Lib.hid ⟨S3, Y3⟩
               have hwv : IntKind.i64.wrap (1 + v) = 1 + v := IntWalk.i64_in _ (by omega))
            | (go_at_call 40; refine (pick_c g (M + 4 * k + 2) 4 (w2.alloc (.cells #[] 9)).drew (HD2.out.alloc _).drew.src (by omega) (by omega)).mono ?_; rintro e w3 ⟨v, rfl, hv0, hv1, S3, Y3⟩
               have HW3 : Hid (Src w3 g (M + 4 * k + 4) ∧ Only g (g + 1) (w2.alloc (.cells #[] 9)).drew w3) := Lib.hid ⟨S3, Y3⟩
               have hwv : IntKind.i64.wrap (1 + v) = 1 + v := IntWalk.i64_in _ (by omega))
            | (refine step_append_any _ (by rfl) (.tmp 18) (.tmp 28) _ (by rfl) w.heap.size 37 i1 _ 3 48 Tryz.underlying24 HJ.out.1 HJ.out.2.1 HJ.out.2.2.1 HJ.out.2.2.2 rfl (by omega) _ n (rgs rs) (by rfl) (HOA.out w3 HW3.out.2 _ _) (w3.heap.size + 1 + 1) (some ⟨w3.heap.size + 1, 0, none⟩) 1 1 [.string nm, .int .i64 (1 + v), .slice (some ⟨w3.heap.size, 0, none⟩) 0 0] (by rfl) (reads_two w3 _ 37 [.string nm, .int .i64 (1 + v), .slice (some ⟨w3.heap.size, 0, none⟩) 0 0]) (by simp [Value.oneCell']) (by simp [maxLen]; omega) (by omega) (by have := hszA w3 HW3.out.2; simp; omega) ?_
               intro v5 w5 O5 G5 h5
               have HST : Hid (∃ rs', DR w w5 g (M + 4 * (k + 1)) v5 (n + 1) 0 rs' ∧ Blk w5 w.heap.size 9 #[.string ⟨#[101, 97, 115, 116]⟩, .string ⟨#[108, 97, 107, 101]⟩, .string ⟨#[110, 111, 114, 116, 104]⟩, .string ⟨#[114, 105, 100, 103, 101]⟩, .string ⟨#[115, 111, 117, 116, 104]⟩, .string ⟨#[119, 101, 115, 116]⟩]) := Lib.hid ⟨_, HPA.out w3 v HW3.out.1 HW3.out.2 v5 w5 O5 G5⟩)
            | (refine step_append_any _ (by rfl) (.tmp 18) (.tmp 28) _ (by rfl) w.heap.size 37 i1 _ 3 48 Tryz.underlying24 HJ.out.1 HJ.out.2.1 HJ.out.2.2.1 HJ.out.2.2.2 rfl (by omega) _ n (rgs rs) (by rfl) (HOB.out w3 HW3.out.2 _) (w3.heap.size + 1) (some ⟨w3.heap.size, 0, none⟩) 1 1 [.string nm, .int .i64 (1 + v), .slice (some ⟨w2.heap.size, 0, none⟩) 0 0] (by rfl) (reads_one w3 37 [.string nm, .int .i64 (1 + v), .slice (some ⟨w2.heap.size, 0, none⟩) 0 0]) (by simp [Value.oneCell']) (by simp [maxLen]; omega) (by omega) (by have := hszB w3 HW3.out.2; simp; omega) ?_
               intro v5 w5 O5 G5 h5
               have HST : Hid (∃ rs', DR w w5 g (M + 4 * (k + 1)) v5 (n + 1) 0 rs' ∧ Blk w5 w.heap.size 9 #[.string ⟨#[101, 97, 115, 116]⟩, .string ⟨#[108, 97, 107, 101]⟩, .string ⟨#[110, 111, 114, 116, 104]⟩, .string ⟨#[114, 105, 100, 103, 101]⟩, .string ⟨#[115, 111, 117, 116, 104]⟩, .string ⟨#[119, 101, 115, 116]⟩]) := Lib.hid ⟨_, HPB.out w3 v HW3.out.1 HW3.out.2 v5 w5 O5 G5⟩)
            | fail "no arm")
        all_goals
          obtain ⟨rs', hst⟩ := HST.out
          have HST1 := Lib.hid hst.1
          have HST2 := Lib.hid hst.2
          clear HPA HPB HOA HOB hszA hszB HST hst HW3 hwv HJ hnb hnr HK2 HD2
          go_wp2
          go_roundw
          case rel => exact ⟨k + 1, n + 1, rs', by omega, by omega, by go_num, HST1, HST2⟩
          case measure => simp [intOf] <;> omega
      · go_wp2
        go_roundw
        case rel => exact ⟨k + 1, n, rs, by omega, by omega, by go_num, Lib.hid (HD2.out.more (by omega) (Nat.le_refl _)), HK2⟩
        case measure => simp [intOf] <;> omega
    · have hk66 : ¬ (k : Int) < 6 := by omega
      have hn6 : n ≤ 6 := by omega
      obtain ⟨A4, c4, rfl, _, _⟩ := HD.out.own.row.slice
      have H0 : Hid (DR w wo g (M + 24 + 16 * 0) (.slice A4 n c4) n (8 * 0) rs) := Lib.hid (HD.out.more (by omega) (by omega))
      clear HK HD hws hnk hlt
      go_wp2
      go_loopw [6] (fun iv wr => ∃ (i : Nat) (rs : List Rg), i ≤ n ∧ iv = .int .i64 i ∧ Hid (DR w wr g (M + 24 + 16 * i) (.slice A4 n c4) n (8 * i) rs)) (fun iv _ => n - (intOf iv).toNat)
      case atStart => exact ⟨0, rs, Nat.zero_le _, rfl, H0⟩
      case round =>
        clear H0
        obtain ⟨i, rs, hi, rfl, HD⟩ := hrel
        generalize wr = wi at *
        by_cases hin : i < n
        · have hiw : IntKind.i64.wrap ((i : Int) + 1) = ((i + 1 : Nat) : Int) := IntWalk.i64_in _ (by omega)
          have hinn : (i : Int) < (n : Int) := by omega
          have hi0 : (0 : Int) ≤ (i : Int) := by omega
          have H1 : Hid (DR w wi g (M + 24 + 16 * i + 2 * (i + 1)) (.slice A4 n c4) n (8 * i + (i + 1)) rs) := Lib.hid (HD.out.more (by omega) (by omega))
          clear HD
          go_wp2
          go_loopw [7] (fun jv wr => ∃ (j : Nat) (rs : List Rg), i + 1 ≤ j ∧ j ≤ n ∧ jv = .int .i64 j ∧ Hid (DR w wr g (M + 24 + 16 * i + 2 * j) (.slice A4 n c4) n (8 * i + j) rs)) (fun jv _ => n - (intOf jv).toNat)
          case atStart => exact ⟨i + 1, rs, Nat.le_refl _, by omega, by go_num, H1⟩
          case round =>
            clear H1
            obtain ⟨j, rs, hj1, hj, rfl, HD⟩ := hrel
            generalize wr = wj at *
            by_cases hjn : j < n
            · have hjnn : (j : Int) < (n : Int) := by omega
              have hj0 : (0 : Int) ≤ (j : Int) := by omega
              go_wp2_with fail
              refine (one_c g _ 2 wj HD.out.src (by omega) (by omega)).mono ?_
              rintro e w2 ⟨b, rfl, S2, Y2⟩
              have HD2 := Lib.hid (HD.out.turn S2 Y2)
              clear S2 Y2 HD
              cases b
              · go_wp2
                go_roundw
                case rel => exact ⟨j + 1, rs, by omega, by omega, by go_num, Lib.hid (HD2.out.more (by omega) (by omega))⟩
                case measure => simp [intOf] <;> omega
              · obtain ⟨gt, rfl, hgt1, hgt2, hgt3⟩ := HD2.out.own.row.at_ (by omega)
                have hrl := HD2.out.own.regs.len
                have hx := List.getElem?_eq_getElem (l := rs) (i := i) (by omega)
                have hy := List.getElem?_eq_getElem (l := rs) (i := j) (by omega)
                generalize rs[i] = x at hx
                generalize rs[j] = y at hy
                have hxn : x.n ≤ 8 * i + j := HD2.out.few x (List.mem_of_getElem? hx)
                have hyn : y.n ≤ 8 * i + j := HD2.out.few y (List.mem_of_getElem? hy)
                obtain ⟨i0, hi1, hz1, hs1, hb1⟩ := info_parts info_str
                have HI := Lib.hid (And.intro hi1 (And.intro hz1 (And.intro hs1 hb1)))
                clear hi1 hz1 hs1 hb1
                obtain ⟨_, _, ci2, _⟩ := HD2.out.own.atOwn hx
                obtain ⟨cj0, _, _, _⟩ := HD2.out.own.atOwn hy
                have hinx := HD2.out.own.inn x (List.mem_of_getElem? hx)
                have hofx := HD2.out.own.off x (List.mem_of_getElem? hx)
                have ci2a : ∀ o, (w2.alloc o).cell? ⟨gt, i * 3 + 2, none⟩ = some (.slice x.A x.n x.c) := fun o => keepCA o ci2
                have HOX : Hid (∀ o, (w2.alloc o).drew.ownsRow w.heap.size 9 1 (.slice x.A x.n x.c) x.n (strs x.near)) := Lib.hid (fun o => (hinx.below ((Below.refl w2.heap.size w2).alloc (Nat.le_refl _) o) (Nat.le_refl _)).1)
                have hgx : some gt ≠ (Value.slice x.A x.n x.c).ownBlock := fun e => hofx gt e.symm rfl
                have HRW : Hid (∀ o, Own (w2.alloc o) w.heap.size w2.heap.size 37 3 (.slice (some ⟨gt, 0, none⟩) n c4) n (rgs rs)) := Lib.hid (fun o => HD2.out.own.row.below ((Below.refl w2.heap.size w2).alloc (Nat.le_refl _) o) (Nat.le_refl _))
                have hsz : w.heap.size ≤ w2.heap.size := HD2.out.only.size
                have HX := Lib.hid hx
                clear hinx hofx
                go_upto_region 15 with (fail)
                go_region_law (first
                  | (refine step_append_any _ (by rfl) (.tmp 52) (.tmp 58) _ (by rfl) w.heap.size 9 i0 _ 1 16 Tryz.underlying33 HI.out.1 HI.out.2.1 HI.out.2.2.1 HI.out.2.2.2 rfl (by omega) _ x.n (strs x.near) (by rfl) (HOX.out _) (w2.heap.size + 1) (some ⟨w2.heap.size, 0, none⟩) 1 1 [.string y.id] (by rfl) (reads_one w2 9 [.string y.id]) (by simp [Value.oneCell']) (by simp [maxLen]; omega) (by omega) (by simp; omega) ?_
                     intro v4 w4 O4 G4 h4
                     obtain ⟨A5, c5, rfl, _, _⟩ := (Own.of_owns O4 (Nat.le_refl _)).slice
                     have cc4 : w4.cell? ⟨gt, i * 3 + 2, none⟩ = some (.slice x.A x.n x.c) := keepCG G4 hgx (ci2a _)
                     have ff4 : w4.frozen? ⟨gt, i * 3 + 2, none⟩ = false := (Own.grownBy (HRW.out (.cells #[.string y.id] 9)) ⟨G4.os, G4.tape, G4.output, G4.size, G4.block⟩ (fun q hq => by have e : gt = q := (by simpa [Value.ownBlock] using hq); subst e; exact hgx)).1.frozenAt (i * 3 + 2)
                     have HST := Lib.hid (HD2.out.app (K2 := 8 * i + j + 1) ((Below.refl w2.heap.size w2).alloc (Nat.le_refl _) (.cells #[.string y.id] 9)) HX.out O4 ⟨G4.os, G4.tape, G4.output, G4.size, G4.block⟩ h4 (by omega) (by omega)))
                  | fail "no arm")
                all_goals
                  clear ci2 cj0 ci2a HOX hgx HRW cc4 ff4 HX
                  obtain ⟨w6, hw6⟩ : ∃ W, W = w4.setCell ⟨gt, i * 3 + 2, none⟩ (.slice A5 (x.n + 1) c5) := ⟨_, rfl⟩
                  rw [← hw6] at HST ⊢
                  clear hw6
                  have hxb : (rs.set i ⟨x.id, x.lv, A5, x.n + 1, c5, x.near ++ [y.id]⟩)[i]? = some ⟨x.id, x.lv, A5, x.n + 1, c5, x.near ++ [y.id]⟩ := List.getElem?_set_self (by omega)
                  have hyb : (rs.set i ⟨x.id, x.lv, A5, x.n + 1, c5, x.near ++ [y.id]⟩)[j]? = some y := by rw [List.getElem?_set_ne (by omega)]; exact hy
                  obtain ⟨_, _, ci2b, _⟩ := HST.out.own.atOwn hyb
                  obtain ⟨cj0b, _, _, _⟩ := HST.out.own.atOwn hxb
                  have hinxb := HST.out.own.inn y (List.mem_of_getElem? hyb)
                  have hofxb := HST.out.own.off y (List.mem_of_getElem? hyb)
                  have ci2ab : ∀ o, (w6.alloc o).cell? ⟨gt, j * 3 + 2, none⟩ = some (.slice y.A y.n y.c) := fun o => keepCA o ci2b
                  have HOXb : Hid (∀ o, (w6.alloc o).drew.ownsRow w.heap.size 9 1 (.slice y.A y.n y.c) y.n (strs y.near)) := Lib.hid (fun o => (hinxb.below ((Below.refl w6.heap.size w6).alloc (Nat.le_refl _) o) (Nat.le_refl _)).1)
                  have hgxb : some gt ≠ (Value.slice y.A y.n y.c).ownBlock := fun e => hofxb gt e.symm rfl
                  have HRWb : Hid (∀ o, Own (w6.alloc o) w.heap.size w6.heap.size 37 3 (.slice (some ⟨gt, 0, none⟩) n c4) n (rgs (rs.set i ⟨x.id, x.lv, A5, x.n + 1, c5, x.near ++ [y.id]⟩))) := Lib.hid (fun o => HST.out.own.row.below ((Below.refl w6.heap.size w6).alloc (Nat.le_refl _) o) (Nat.le_refl _))
                  have hszb : w.heap.size ≤ w6.heap.size := HST.out.only.size
                  have HXb := Lib.hid hyb
                  clear hinxb hofxb
                  go_upto_region 16 with (fail)
                  go_region_law (first
                    | (refine step_append_any _ (by rfl) (.tmp 68) (.tmp 74) _ (by rfl) w.heap.size 9 i0 _ 1 16 Tryz.underlying33 HI.out.1 HI.out.2.1 HI.out.2.2.1 HI.out.2.2.2 rfl (by omega) _ y.n (strs y.near) (by rfl) (HOXb.out _) (w6.heap.size + 1) (some ⟨w6.heap.size, 0, none⟩) 1 1 [.string x.id] (by rfl) (reads_one w6 9 [.string x.id]) (by simp [Value.oneCell']) (by simp [maxLen]; omega) (by omega) (by simp; omega) ?_
                       intro v4b w4b O4 G4 h4
                       obtain ⟨A5b, c5b, rfl, _, _⟩ := (Own.of_owns O4 (Nat.le_refl _)).slice
                       have cc4b : w4b.cell? ⟨gt, j * 3 + 2, none⟩ = some (.slice y.A y.n y.c) := keepCG G4 hgxb (ci2ab _)
                       have ff4b : w4b.frozen? ⟨gt, j * 3 + 2, none⟩ = false := (Own.grownBy (HRWb.out (.cells #[.string x.id] 9)) ⟨G4.os, G4.tape, G4.output, G4.size, G4.block⟩ (fun q hq => by have e : gt = q := (by simpa [Value.ownBlock] using hq); subst e; exact hgxb)).1.frozenAt (j * 3 + 2)
                       have HSTb := Lib.hid (HST.out.app (K2 := 8 * i + j + 1) ((Below.refl w6.heap.size w6).alloc (Nat.le_refl _) (.cells #[.string x.id] 9)) HXb.out O4 ⟨G4.os, G4.tape, G4.output, G4.size, G4.block⟩ h4 (by omega) (by omega)))
                    | fail "no arm")
                  all_goals
                    clear ci2b cj0b ci2ab HOXb hgxb HRWb cc4b ff4b HXb
                    go_wp2
                    go_roundw
                    case rel => exact ⟨j + 1, _, by omega, by omega, by go_num, Lib.hid (HSTb.out.more (by omega) (by omega))⟩
                    case measure => simp [intOf] <;> omega
            · obtain rfl : j = n := by omega
              go_wp2
              go_roundw
              case rel => exact ⟨i + 1, rs, by omega, by go_num, Lib.hid (HD.out.more (by omega) (by omega))⟩
              case measure => simp [intOf] <;> omega
        · obtain rfl : i = n := by omega
          go_wp2
          go_ret
          exact ⟨_, i, rs, rfl, HD.out.more (by omega) (by omega), by omega⟩
end Go.Proofs.YteklfeeamjgplaaGreatDoor
