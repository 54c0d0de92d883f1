/- XRgR, XRgS: merged texts. -/
import Derived.Test.YteklfeeamjgplaaGreatDoorRgOQ
/- Copies of lists of regions, by the program. -/
namespace Go.Proofs.YteklfeeamjgplaaGreatDoor
open Go.ChangeShapes Go.WideShapes Go.ChangeAt Go.RowKit
set_option linter.unusedVariables false
theorem info_rg : (Tryz.prog.info? 37).map (fun i => (i.zero, i.size, i.bytes)) = some (some (.agg #[.string ⟨#[]⟩, .int .i64 0, .slice none 0 0]), 3, 48) := by kernel_rfl
theorem own_types_ne {w : World} {lo hi lo' hi' s s' n n' : Nat} {T T' : TypeId} {v v' : Value} {xs xs' : List Value} (h : Own w lo hi T s v n xs) (h' : Own w lo' hi' T' s' v' n' xs') (hne : T ≠ T') {g : Nat} (hg : v.ownBlock = some g) : v'.ownBlock ≠ some g := by
  intro hg'
  rcases h.1.2 with ⟨rfl, _⟩ | ⟨g1, cap, cur, rfl, _, hb, _⟩
  · simp [Value.ownBlock] at hg
  rcases h'.1.2 with ⟨rfl, _⟩ | ⟨g2, cap', cur', rfl, _, hb', _⟩
  · simp [Value.ownBlock] at hg'
  simp [Value.ownBlock] at hg hg'
  subst hg; subst hg'
  rw [hb] at hb'
  injection hb' with e
  injection e with _ e2
  exact hne e2
theorem Own.grownBy {w w' : World} {lo hi s n : Nat} {T : TypeId} {v : Value} {xs : List Value} {row : Option Nat} (h : Own w lo hi T s v n xs) (hg : w.grownBy w' row) (hne : ∀ g, v.ownBlock = some g → some g ≠ row) : Own w' lo hi T s v n xs := by
  refine ⟨⟨h.1.1, ?_⟩, h.2⟩
  rcases h.1.2 with hn | ⟨g, cap, cur, rfl, hb, hgb, rest⟩
  · exact .inl hn
  · refine .inr ⟨g, cap, cur, rfl, hb, ?_, rest⟩
    rw [hg.block g (Array.getElem?_eq_some_iff.1 hgb).1 (hne g (by simp [Value.ownBlock]))]
    exact hgb
theorem strs_one (l : List ByteArray) : ∀ u ∈ strs l, u.oneCell' = true := by
  intro u hu
  simp only [strs, List.mem_map] at hu
  obtain ⟨z, _, rfl⟩ := hu
  simp [Value.oneCell']
theorem rgs_one (l : List Rg) : ∀ u ∈ rgs l, u.oneCell' = true := by
  intro u hu
  obtain ⟨i, hi⟩ := List.getElem?_of_mem hu
  obtain ⟨s, _, h⟩ := rgs_inv hi
  rcases h with ⟨_, rfl⟩ | ⟨_, rfl⟩ | ⟨_, rfl⟩ <;> simp [Value.oneCell', Rg.row]
theorem Reads.nil_n {w : World} {B s n : Nat} {xs : List Value} (h : Reads w B s none n xs) : n = 0 ∧ xs = [] := by
  have hn : n = 0 := by
    rcases Nat.eq_zero_or_pos n with h0 | h0
    · exact h0
    · obtain ⟨ad, e, _⟩ := h.2 h0; cases e
  subst hn
  exact ⟨rfl, List.eq_nil_of_length_eq_zero (by simpa using h.1)⟩
set_option maxHeartbeats 2000000 in
set_option maxRecDepth 100000 in
theorem scloneS_c (A : Option Addr) (n c B : Nat) (l : List ByteArray) (w : World) (ha : Reads w B 1 A n (strs l)) (hB : B ≤ w.heap.size) (hn : n ≤ 1048576) :
    Calls Tryz.prog 28 #[.slice A n c] w fun e w' => ∃ D d, e = .returned (.slice D n d) ∧ Own w' w.heap.size w'.heap.size 9 1 (.slice D n d) n (strs l) ∧ Below w.heap.size w w' := by
  rcases A with _ | ad
  · obtain ⟨rfl, hl⟩ := ha.nil_n
    have HL := Lib.hid hl
    have hq : ∀ w : World, (Go.binOp .eql 33 (.slice none 0 c) (.slice none 0 0)).run Tryz.prog w = .ok (.bool true) w := fun w => by kernel_rfl
    clear ha hl
    go_enter Tryz.func28, Tryz.ntmps28
    go_wp2
    go_ret
    exact ⟨none, 0, rfl, by rw [HL.out]; exact Own.nil, Below.refl _ _⟩
  · have HA := Lib.hid ha
    clear ha
    obtain ⟨i0, hi, hz, hs, hb⟩ := info_parts info_str
    have O1 : Hid ((w.alloc (.cells #[] 9)).ownsRow w.heap.size 9 1 (.slice (some ⟨w.heap.size, 0, none⟩) 0 0) 0 (strs [])) := Lib.hid (World.ownsRow_lit (w := w) (base := w.heap.size) (e := 9) (size := 1) #[] 0 (Nat.le_refl _) (by simp [maxLen]) (by simp))
    have hq : ∀ w : World, (Go.binOp .eql 33 (.slice (some ad) n c) (.slice none 0 0)).run Tryz.prog w = .ok (.bool false) w := fun w => by kernel_rfl
    have HI := Lib.hid (And.intro hi (And.intro hz (And.intro hs hb)))
    clear hi hz hs hb
    go_enter Tryz.func28, Tryz.ntmps28
    go_wp2_with (at_builtin; refine wpList_append_any _ rfl (.tmp 5) (.tmp 6) _ rfl w.heap.size 9 i0 _ 1 16 Tryz.underlying33 HI.out.1 HI.out.2.1 HI.out.2.2.1 HI.out.2.2.2 rfl (by omega) _ 0 (strs []) rfl O1.out B (some ad) n c (strs l) rfl (HA.out.alloc hB _) (strs_one l) (by simp [maxLen]; omega) (by omega) (by simp) ?_)
    intro v' w' O4 G4 _
    have B4 : Below w.heap.size (w.alloc (.cells #[] 9)) w' := (Below.refl _ _).grown G4 (by simp) (fun k hk => (O1.out.lt k hk).1)
    have B5 := Lib.hid ((((Below.refl w.heap.size w).alloc (Nat.le_refl _) _)).trans B4)
    obtain ⟨D, d, hv, _, _⟩ := (Own.of_owns O4 (Nat.le_refl _)).slice
    subst hv
    have O5 : Hid (Own w' w.heap.size w'.heap.size 9 1 (.slice D (0 + n) d) (0 + n) (strs l)) := Lib.hid (by have h := Own.of_owns O4 (Nat.le_refl _); simpa [strs] using h)
    clear O4 G4 B4
    go_wp2
    go_ret
    refine ⟨D, d, by simp, ?_, B5.out⟩
    have h := O5.out
    rw [Nat.zero_add] at h
    exact h
set_option maxHeartbeats 2000000 in
set_option maxRecDepth 100000 in
theorem scloneR_c (A : Option Addr) (n c B : Nat) (rs : List Rg) (w : World) (ha : Reads w B 3 A n (rgs rs)) (hB : B ≤ w.heap.size) (hn : n ≤ 1048576) :
    Calls Tryz.prog 59 #[.slice A n c] w fun e w' => ∃ D d, e = .returned (.slice D n d) ∧ Own w' w.heap.size w'.heap.size 37 3 (.slice D n d) n (rgs rs) ∧ Below w.heap.size w w' := by
  rcases A with _ | ad
  · obtain ⟨rfl, hl⟩ := ha.nil_n
    have HL := Lib.hid hl
    have hq : ∀ w : World, (Go.binOp .eql 24 (.slice none 0 c) (.slice none 0 0)).run Tryz.prog w = .ok (.bool true) w := fun w => by kernel_rfl
    clear ha hl
    go_enter Tryz.func59, Tryz.ntmps59
    go_wp2
    go_ret
    exact ⟨none, 0, rfl, by rw [HL.out]; exact Own.nil, Below.refl _ _⟩
  · have HA := Lib.hid ha
    clear ha
    obtain ⟨i0, hi, hz, hs, hb⟩ := info_parts info_rg
    have O1 : Hid ((w.alloc (.cells #[] 37)).ownsRow w.heap.size 37 3 (.slice (some ⟨w.heap.size, 0, none⟩) 0 0) 0 (rgs [])) := Lib.hid (World.ownsRow_lit (w := w) (base := w.heap.size) (e := 37) (size := 3) #[] 0 (Nat.le_refl _) (by simp [maxLen]) (by simp))
    have hq : ∀ w : World, (Go.binOp .eql 24 (.slice (some ad) n c) (.slice none 0 0)).run Tryz.prog w = .ok (.bool false) w := fun w => by kernel_rfl
    have HI := Lib.hid (And.intro hi (And.intro hz (And.intro hs hb)))
    clear hi hz hs hb
    go_enter Tryz.func59, Tryz.ntmps59
    go_wp2_with (at_builtin; refine wpList_append_any _ rfl (.tmp 5) (.tmp 6) _ rfl w.heap.size 37 i0 _ 3 48 Tryz.underlying24 HI.out.1 HI.out.2.1 HI.out.2.2.1 HI.out.2.2.2 rfl (by omega) _ 0 (rgs []) rfl O1.out B (some ad) n c (rgs rs) rfl (HA.out.alloc hB _) (rgs_one rs) (by simp [maxLen]; omega) (by omega) (by simp) ?_)
    intro v' w' O4 G4 _
    have B4 : Below w.heap.size (w.alloc (.cells #[] 37)) w' := (Below.refl _ _).grown G4 (by simp) (fun k hk => (O1.out.lt k hk).1)
    have B5 := Lib.hid ((((Below.refl w.heap.size w).alloc (Nat.le_refl _) _)).trans B4)
    obtain ⟨D, d, hv, _, _⟩ := (Own.of_owns O4 (Nat.le_refl _)).slice
    subst hv
    have O5 : Hid (Own w' w.heap.size w'.heap.size 37 3 (.slice D (0 + n) d) (0 + n) (rgs rs)) := Lib.hid (by have h := Own.of_owns O4 (Nat.le_refl _); simpa [rgs] using h)
    clear O4 G4 B4
    go_wp2
    go_ret
    refine ⟨D, d, by simp, ?_, B5.out⟩
    have h := O5.out
    rw [Nat.zero_add] at h
    exact h
/-- a list of regions of which the first have names of their own -/
structure PartCl (w0 wr : World) (H0 H : Nat) (v : Value) (n k : Nat) (rs ds : List Rg) : Prop where
  row : Own wr w0.heap.size H0 37 3 v n (rgs (ds ++ rs.drop k))
  len : ds.length = k
  dat : ds.map Rg.dat = (rs.take k).map Rg.dat
  inn : ∀ x ∈ ds, Own wr H0 H 9 1 x.row x.n (strs x.near)
  pw : ds.Pairwise fun x y => ∀ g, x.blk = some g → y.blk ≠ some g
  bel : Below w0.heap.size w0 wr
  hH : H ≤ wr.heap.size
  h0 : w0.heap.size ≤ H0
  h1 : H0 ≤ H
theorem PartCl.done {w0 wr : World} {H0 H n : Nat} {v : Value} {rs ds : List Rg} (h : PartCl w0 wr H0 H v n n rs ds) (hl : rs.length = n) : OwnRegs wr w0.heap.size wr.heap.size v n ds ∧ ds.map Rg.dat = rs.map Rg.dat := by
  have hd : rs.drop n = [] := List.drop_of_length_le (by omega)
  have hr := h.row
  rw [hd, List.append_nil] at hr
  refine ⟨⟨hr.widen (Nat.le_refl _) (by have := h.h1; have := h.hH; omega), fun x hx => (h.inn x hx).widen (by have := h.h0; omega) h.hH, fun x hx g hg => ?_, h.pw⟩, ?_⟩
  · have h1 := (h.inn x hx).blk_bd hg
    intro hv
    have h2 := hr.blk_bd hv
    omega
  · rw [h.dat, List.take_of_length_le (by omega)]
theorem PartCl.step {w0 wr w1 : World} {H0 H n k g c d : Nat} {D : Option Addr} {rs ds : List Rg} {x : Rg} (h : PartCl w0 wr H0 H (.slice (some ⟨g, 0, none⟩) n c) n k rs ds) (hx : rs[k]? = some x) (hb : Below wr.heap.size wr w1)
    (ho : Own w1 wr.heap.size w1.heap.size 9 1 (.slice D x.n d) x.n (strs x.near)) :
    PartCl w0 (w1.setCell ⟨g, k * 3 + 2, none⟩ (.slice D x.n d)) H0 w1.heap.size (.slice (some ⟨g, 0, none⟩) n c) n (k + 1) rs (ds ++ [⟨x.id, x.lv, D, x.n, d, x.near⟩]) := by
  have hs1 := hb.size
  have hH := h.hH
  have h1 := h.h1
  have hbw := h.bel.size
  have hr1 := h.row.below hb (by omega)
  have hst := hr1.stored (j := k * 3 + 2) (.slice D x.n d)
  have hgx : (ds ++ rs.drop k)[k]? = some x := by rw [List.getElem?_append_right (by rw [h.len]; exact Nat.le_refl _), h.len, Nat.sub_self, List.getElem?_drop, Nat.add_zero, hx]
  have hset := rgs_set (y := ⟨x.id, x.lv, D, x.n, d, x.near⟩) (j := 2) (u := .slice D x.n d) hgx rfl (by omega)
  have hkl := (List.getElem?_eq_some_iff.1 hx).1
  have hlist : (ds ++ rs.drop k).set k ⟨x.id, x.lv, D, x.n, d, x.near⟩ = (ds ++ [⟨x.id, x.lv, D, x.n, d, x.near⟩]) ++ rs.drop (k + 1) := by
    rw [List.set_append_right _ _ (by rw [h.len]; exact Nat.le_refl _), h.len, Nat.sub_self, List.drop_eq_getElem_cons hkl, List.set_cons_zero, List.append_assoc]; rfl
  rw [hset, hlist] at hst
  have hgb := hr1.blk_bd (g := g) (by simp [Value.ownBlock])
  have hw0 := h.h0
  refine ⟨hst.1, by simp [h.len], ?_, ?_, ?_, ?_, by simp, h.h0, by omega⟩
  · rw [take_snoc_rg hx, List.map_append, List.map_append, h.dat]; rfl
  · intro y hy
    rcases List.mem_append.1 hy with h2 | h2
    · exact (((h.inn y h2).below hb hH).setOut (p := ⟨g, k * 3 + 2, none⟩) (by show g < H0; omega) _).widen (Nat.le_refl _) (by omega)
    · simp at h2; subst h2
      exact ((ho.setOut (p := ⟨g, k * 3 + 2, none⟩) (by show g < wr.heap.size; omega) _)).widen (by omega) (Nat.le_refl _)
  · rw [List.pairwise_append]
    refine ⟨h.pw, by simp, ?_⟩
    intro a ha b hb2 q hq
    simp at hb2; subst hb2
    have h3 := (h.inn a ha).blk_bd hq
    intro hq2
    have h4 := ho.blk_bd (g := q) hq2
    omega
  · exact (h.bel.trans (hb.mono hbw)).setCell (by show w0.heap.size ≤ g; omega) _
set_option maxHeartbeats 2000000 in
theorem cloneRegions_c (A : Option Addr) (n c B : Nat) (rs : List Rg) (w : World) (ha : Regs w B A n rs) (hB : B ≤ w.heap.size) (hx : ∀ x ∈ rs, x.n ≤ 1048576) (hn : n ≤ 1048576) :
    Calls Tryz.prog 35 #[.slice A n c] w fun e w' => ∃ D d ds, e = .returned (.slice D n d) ∧ OwnRegs w' w.heap.size w'.heap.size (.slice D n d) n ds ∧ ds.map Rg.dat = rs.map Rg.dat ∧ Below w.heap.size w w' := by
  have HA := Lib.hid ha
  have HX := Lib.hid hx
  have HL := Lib.hid ha.len
  clear ha hx
  go_enter Tryz.func35, Tryz.ntmps35
  go_wp2_with fail
  refine (scloneR_c A n c B rs w HA.out.row hB hn).mono ?_
  rintro e w1 ⟨D, d, rfl, O1, B1⟩
  have HP : Hid (PartCl w w1 w1.heap.size w1.heap.size (.slice D n d) n 0 rs []) := Lib.hid ⟨O1, rfl, rfl, fun x hx => by simp at hx, List.Pairwise.nil, B1, Nat.le_refl _, B1.size, Nat.le_refl _⟩
  have hH0 := B1.size
  generalize w1.heap.size = H0 at HP hH0
  clear O1 B1
  go_wp2
  go_loopw [10] (fun i wr => ∃ (k H : Nat) (ds : List Rg), k ≤ n ∧ i = .int .i64 k ∧ Hid (PartCl w wr H0 H (.slice D n d) n k rs ds)) (fun i _ => n - (intOf i).toNat)
  case atStart => exact ⟨0, _, [], Nat.zero_le _, rfl, HP⟩
  case round =>
    clear HP
    obtain ⟨k, H, ds, hk, rfl, HP⟩ := hrel
    have hwz := HP.out.bel.size
    by_cases hlt : k < n
    · obtain ⟨g, rfl, hg1, hg2, hg3⟩ := HP.out.row.at_ (by omega)
      obtain ⟨ad, x, rfl, hbl, hs, hnx, c0, c1, c2⟩ := (HA.out.below (HP.out.bel.mono hB)).at_ hlt
      have HXS := Lib.hid hs
      have hxn := HX.out x (List.mem_of_getElem? hs)
      have HNX := Lib.hid hnx
      have hkn : (k : Int) < (n : Int) := by omega
      clear hs hnx
      obtain ⟨W1, hW1⟩ : ∃ W, W = wr.alloc (.cells #[.string x.id, .int .i64 x.lv, .slice x.A x.n x.c] 37) := ⟨_, rfl⟩
      have HWE := Lib.hid hW1
      have BW : Below wr.heap.size wr W1 := by rw [hW1]; exact (Below.refl _ _).alloc (Nat.le_refl _) _
      have hsW : W1.heap.size = wr.heap.size + 1 := by rw [hW1]; simp
      clear hW1
      go_wp2_with fail
      rw [← HWE.out]
      refine (scloneS_c x.A x.n x.c B x.near W1 (Reads.below HNX.out (BW.mono (by omega))) (by omega) hxn).mono ?_
      rintro e w3 ⟨E, ee, rfl, O3, B3⟩
      have hs3 := B3.size
      have BB : Below wr.heap.size wr w3 := BW.trans (B3.mono (by omega))
      have HS := Lib.hid (HP.out.step HXS.out BB (O3.widen (by omega) (Nat.le_refl _)))
      have hcell : ∃ u, w3.cell? ⟨g, k * 3 + 2, none⟩ = some u := by
        have hr := HP.out.row.below BB (by have := HP.out.h1; have := HP.out.hH; omega)
        rw [hr.1.cellAt (k * 3 + 2) (by omega)]
        refine ⟨_, List.getElem?_eq_getElem ?_⟩
        rw [rgs_len, List.length_append, HP.out.len, List.length_drop, HL.out]; omega
      obtain ⟨u, hc⟩ := hcell
      have hfr : w3.frozen? ⟨g, k * 3 + 2, none⟩ = false := (HP.out.row.below BB (by have := HP.out.h1; have := HP.out.hH; omega)).1.frozenAt (k * 3 + 2)
      clear O3 B3 BB c0 c1 c2 HWE BW
      go_wp2
      go_roundw
      case rel => exact ⟨k + 1, _, _, by omega, by go_num, HS⟩
      case measure => simp [intOf]; omega
    · obtain rfl : k = n := by omega
      have hd := HP.out.done HL.out
      have HD1 := Lib.hid hd.1
      have HD2 := Lib.hid hd.2
      clear hd
      go_wp2
      go_ret
      exact ⟨D, d, ds, rfl, HD1.out, HD2.out, HP.out.bel⟩
end Go.Proofs.YteklfeeamjgplaaGreatDoor

/- Copies of lists of regions, by the reference. -/
namespace Go.Proofs.YteklfeeamjgplaaGreatDoor
open Go.ChangeShapes Go.WideShapes Go.ChangeAt Go.RowKit
set_option linter.unusedVariables false
theorem keepLB {lo : Nat} {wr W W1 : World} {S : World → Prop} (hS : ∀ W', Below lo wr W' → S W') (hb : Below lo W W1) (h : Below lo wr W) : Below lo wr W1 ∧ S W1 :=
  ⟨h.trans hb, hS _ (h.trans hb)⟩
theorem keepLD {lo : Nat} {wr W : World} {S : World → Prop} (hS : ∀ W', Below lo wr W' → S W') (h : Below lo wr W) : Below lo wr W.drew ∧ S W.drew := ⟨h.drew, hS _ h.drew⟩
theorem keepLA {lo : Nat} {wr W : World} {S : World → Prop} {o : Obj} (hS : ∀ W', Below lo wr W' → S W') (hl : lo ≤ wr.heap.size) (h : Below lo wr W) : Below lo wr (W.alloc o) ∧ S (W.alloc o) :=
  ⟨h.alloc (Nat.le_trans hl h.size) o, hS _ (h.alloc (Nat.le_trans hl h.size) o)⟩
theorem keepLAD {lo : Nat} {wr W : World} {S : World → Prop} {o : Obj} (hS : ∀ W', Below lo wr W' → S W') (hl : lo ≤ wr.heap.size) (h : Below lo wr W) : Below lo wr (W.alloc o).drew ∧ S (W.alloc o).drew :=
  ⟨(h.alloc (Nat.le_trans hl h.size) o).drew, hS _ (h.alloc (Nat.le_trans hl h.size) o).drew⟩
theorem reads_one (W : World) (T : TypeId) (l : List Value) : Reads (W.alloc (.cells l.toArray T)) (W.heap.size + 1) l.length (some ⟨W.heap.size, 0, none⟩) 1 l := by
  refine ⟨by simp, fun _ => ⟨_, rfl, Nat.lt_succ_self _, fun j u hu => ?_⟩⟩
  have e : (⟨W.heap.size, 0, none⟩ : Addr).add j = ⟨W.heap.size, j, none⟩ := by unfold Addr.add; split <;> simp_all
  rw [e, (Blk.new W T l.toArray).cell j]
  simpa using hu
structure PartOw (w0 wr : World) (v : Value) (k : Nat) (rs ds : List Rg) : Prop where
  row : wr.ownsRow w0.heap.size 37 3 v k (rgs ds)
  len : ds.length = k
  dat : ds.map Rg.dat = (rs.take k).map Rg.dat
  inn : ∀ x ∈ ds, Own wr w0.heap.size wr.heap.size 9 1 x.row x.n (strs x.near)
  pw : ds.Pairwise fun x y => ∀ g, x.blk = some g → y.blk ≠ some g
  bel : Below w0.heap.size w0 wr
theorem PartOw.done {w0 wr : World} {n c : Nat} {A : Option Addr} {rs ds : List Rg} (h : PartOw w0 wr (.slice A n c) n rs ds) (hl : rs.length = n) : OwnRegs wr w0.heap.size wr.heap.size (.slice A n c) n ds ∧ ds.map Rg.dat = rs.map Rg.dat := by
  have hr := Own.of_owns h.row (Nat.le_refl _)
  refine ⟨⟨hr, h.inn, fun x hx g hg => own_types_ne (h.inn x hx) hr (by decide) hg, h.pw⟩, ?_⟩
  rw [h.dat, List.take_of_length_le (by omega)]
theorem PartOw.step {w0 wr wa X w2 : World} {k d : Nat} {v v2 : Value} {D : Option Addr} {rs ds : List Rg} {x : Rg} (h : PartOw w0 wr v k rs ds) (hx : rs[k]? = some x) (hb : Below wr.heap.size wr wa)
    (ho : Own wa wr.heap.size wa.heap.size 9 1 (.slice D x.n d) x.n (strs x.near)) (hX : Below wa.heap.size wa X) (ho2 : w2.ownsRow w0.heap.size 37 3 v2 (k + 1) (rgs ds ++ [.string x.id, .int .i64 x.lv, .slice D x.n d])) (hg : X.grownBy w2 v.ownBlock) :
    PartOw w0 w2 v2 (k + 1) rs (ds ++ [⟨x.id, x.lv, D, x.n, d, x.near⟩]) := by
  have hs1 := hb.size
  have hs2 := hX.size
  have hs3 := hg.size
  have hbw := h.bel.size
  have hrX : Own X w0.heap.size X.heap.size 37 3 v k (rgs ds) := ((Own.of_owns h.row (Nat.le_refl _)).below (hb.trans (hX.mono hs1)) (Nat.le_refl _)).widen (Nat.le_refl _) (by omega)
  have key : ∀ {lo hi n : Nat} {u : Value} {xs : List Value}, Own X lo hi 9 1 u n xs → Own w2 lo hi 9 1 u n xs := fun hu => hu.grownBy hg (fun g hgu e => own_types_ne hu hrX (by decide) hgu e.symm)
  refine ⟨by rw [rgs_app]; exact ho2, by simp [h.len], ?_, ?_, ?_, ?_⟩
  · rw [take_snoc_rg hx, List.map_append, List.map_append, h.dat]; rfl
  · intro y hy
    rcases List.mem_append.1 hy with h2 | h2
    · exact (key ((h.inn y h2).below (hb.trans (hX.mono hs1)) (Nat.le_refl _))).widen (Nat.le_refl _) (by omega)
    · simp at h2; subst h2
      exact (key (ho.below hX (Nat.le_refl _))).widen (by omega) (by omega)
  · rw [List.pairwise_append]
    refine ⟨h.pw, by simp, ?_⟩
    intro a ha b hb2 q hq
    simp at hb2; subst hb2
    have h3 := (h.inn a ha).blk_bd hq
    intro hq2
    have h4 := ho.blk_bd (g := q) hq2
    omega
  · have h5 : Below w0.heap.size X w2 := (Below.refl _ _).grown hg (by omega) (fun q hq => (hrX.blk_bd hq).1)
    exact (h.bel.trans ((hb.mono hbw).trans (hX.mono (by omega)))).trans h5
end Go.Proofs.YteklfeeamjgplaaGreatDoor
