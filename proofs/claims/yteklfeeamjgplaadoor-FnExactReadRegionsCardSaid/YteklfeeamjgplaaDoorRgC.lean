/- Lists of regions: copying, comparing, measuring. -/
import Derived.Test.YteklfeeamjgplaaDoorRgB
namespace Go.Proofs.YteklfeeamjgplaaDoor
open Go.ChangeShapes Go.WideShapes Go.ChangeAt Go.RowKit
set_option linter.unusedVariables false

theorem Own.setOut {w : World} {lo hi s n : Nat} {T : TypeId} {v : Value} {xs : List Value} (h : Own w lo hi T s v n xs) {p : Addr} (hp : p.block < lo) (u : Value) : Own (w.setCell p u) lo hi T s v n xs :=
  h.only (lo' := p.block) (hi' := p.block + 1) ⟨rfl, rfl, rfl, by simp, fun k hk hc => Below.heap_setCell _ _ _ _ (by omega)⟩ (.inr hp)
theorem Own.blk_bd {w : World} {lo hi s n g : Nat} {T : TypeId} {v : Value} {xs : List Value} (h : Own w lo hi T s v n xs) (hg : v.ownBlock = some g) : lo ≤ g ∧ g < hi := ⟨(h.1.lt g hg).1, h.2 g hg⟩
theorem take_snoc_rg {α : Type} {l : List α} {k : Nat} {x : α} (h : l[k]? = some x) : l.take (k + 1) = l.take k ++ [x] := by rw [List.take_add_one, h]; rfl
theorem info_rg : (Tryd.prog.info? 38).map (fun i => (i.zero, i.size, i.bytes)) = some (some (.agg #[.string ⟨#[]⟩, .int .i64 0, .slice none 0 0]), 3, 48) := by kernel_rfl
/-- the rows copied so far -/
structure PartRg (w wr : World) (n k H : Nat) (C : Array Value) (rs rs' : List Rg) : Prop where
  blk : Blk wr w.heap.size 38 C
  size : C.size = n * 3
  len : rs'.length = k
  dat : rs'.map Rg.dat = (rs.take k).map Rg.dat
  cel : ∀ (j : Nat) (x : Rg), rs'[j]? = some x → C[j * 3]? = some (.string x.id) ∧ C[j * 3 + 1]? = some (.int .i64 x.lv) ∧ C[j * 3 + 2]? = some x.row
  inn : ∀ x ∈ rs', Own wr (w.heap.size + 1) H 9 1 x.row x.n (strs x.near)
  pw : rs'.Pairwise fun x y => ∀ g, x.blk = some g → y.blk ≠ some g
  bel : Below w.heap.size w wr
  hH : H ≤ wr.heap.size
  hw : w.heap.size + 1 ≤ H
theorem PartRg.done {w wr : World} {n H : Nat} {C : Array Value} {rs rs' : List Rg} (h : PartRg w wr n n H C rs rs') (hl : rs.length = n) (hn : n ≤ 1048576) :
    OwnRegs wr w.heap.size wr.heap.size (.slice (some ⟨w.heap.size, 0, none⟩) n n) n rs' ∧ rs'.map Rg.dat = rs.map Rg.dat := by
  have hC : C.toList = rgs rs' := list_of_cells (by rw [h.size, rgs_len, h.len]) (fun i u hu => by
    obtain ⟨s, h1, h2⟩ := rgs_inv hu
    obtain ⟨c0, c1, c2⟩ := h.cel _ _ h1
    rcases h2 with ⟨h3, rfl⟩ | ⟨h3, rfl⟩ | ⟨h3, rfl⟩
    · rwa [show i / 3 * 3 = i by omega] at c0
    · rwa [show i / 3 * 3 + 1 = i by omega] at c1
    · rwa [show i / 3 * 3 + 2 = i by omega] at c2)
  have ho := Own.of_blk (lo := w.heap.size) (hi := wr.heap.size) (n := n) (s := 3) h.blk h.size (Nat.le_refl _) h.blk.lt (by simp [maxLen]; omega)
  rw [hC] at ho
  refine ⟨⟨ho, fun x hx => (h.inn x hx).widen (by omega) h.hH, fun x hx g hg => ?_, h.pw⟩, by rw [h.dat, List.take_of_length_le (by omega)]⟩
  have := (h.inn x hx).blk_bd hg
  simp [Value.ownBlock]; omega
set_option maxHeartbeats 4000000 in
theorem toRegionS_own (A : Option Addr) (n c BA : Nat) (rs : List Rg) (w : World) (ha : Regs w BA A n rs) (hx : ∀ x ∈ rs, x.n ≤ 1048576) (hB : BA ≤ w.heap.size) (hn : n ≤ 1048576) :
    Calls Tryd.prog 7 #[.slice A n c] w fun e w' => ∃ D d rs', e = .returned (.slice D n d) ∧ OwnRegs w' w.heap.size w'.heap.size (.slice D n d) n rs' ∧ rs'.map Rg.dat = rs.map Rg.dat ∧ Below w.heap.size w w' := by
  obtain ⟨i0, hi, hz, hs, hb⟩ := info_parts info_rg
  have hmk : ∀ W : World, (Instr.makeSlice 25 (.int .i64 (n : Int)) (.int .i64 (n : Int))).run Tryd.prog W = .ok (.slice (some ⟨W.heap.size, 0, none⟩) n n) (W.alloc (.cells (madeCells #[.string ⟨#[]⟩, .int .i64 0, .slice none 0 0] (n * 3)) 38)) := fun W => by
    have h := run_make_rowN (P := Tryd.prog) 25 38 i0 _ Tryd.underlying25 hi hz .i64 .i64 n n (Nat.le_refl _) (by rw [hb]; omega) (by omega) W
    rw [hs] at h
    exact h
  have hlen := Lib.hid ha.len
  have HA := Lib.hid ha
  have HX := Lib.hid hx
  clear hi hz hs hb i0 ha hx
  go_enter Tryd.func7, Tryd.ntmps7
  go_wp2
  clear hmk
  go_loopw [4] (fun i wr => ∃ (k H : Nat) (C : Array Value) (rs' : List Rg), k ≤ n ∧ i = .int .i64 k ∧ Hid (PartRg w wr n k H C rs rs')) (fun i _ => n - (intOf i).toNat)
  case atStart => exact ⟨0, w.heap.size + 1, _, [], Nat.zero_le _, rfl, Lib.hid ⟨Blk.new _ _ _, made_size _ _, rfl, rfl, fun j x h => by simp at h, fun x h => by simp at h, List.Pairwise.nil, (Below.refl _ _).alloc (Nat.le_refl _) _, by simp, Nat.le_refl _⟩⟩
  case round =>
    obtain ⟨k, H, C, rs', hk, rfl, HP⟩ := hrel
    by_cases hlt : k < n
    · obtain ⟨ad, x, rfl, hbl, hsk, hnr, c0, c1, c2⟩ := (HA.out.below (HP.out.bel.mono hB)).at_ hlt
      have HZ := Lib.hid hsk
      have hxn := HX.out x (List.mem_of_getElem? hsk)
      have hbs := HP.out.bel.size
      have HNR := Lib.hid hnr
      clear hsk hnr
      go_wp2_with fail
      refine (toRegion_c x BA wr HNR.out (by omega) hxn).mono ?_
      rintro e w1 ⟨D, d, rfl, O1, B1⟩
      have hs1 := B1.size
      have KB := Lib.hid (HP.out.blk.below B1 HP.out.blk.lt)
      have HO := Lib.hid O1
      have HB1 := Lib.hid B1
      have hsz : C.size = n * 3 := HP.out.size
      have g0 : w1.cell? ⟨w.heap.size, k * 3, none⟩ = some (C[k * 3]'(by omega)) := (KB.out.cell (k * 3)).trans (Array.getElem?_eq_getElem _)
      have g1 : w1.cell? ⟨w.heap.size, k * 3 + 1, none⟩ = some (C[k * 3 + 1]'(by omega)) := (KB.out.cell (k * 3 + 1)).trans (Array.getElem?_eq_getElem _)
      have g2 : w1.cell? ⟨w.heap.size, k * 3 + 2, none⟩ = some (C[k * 3 + 2]'(by omega)) := (KB.out.cell (k * 3 + 2)).trans (Array.getElem?_eq_getElem _)
      have f0 := KB.out.frozen (k * 3)
      have f1 := KB.out.frozen (k * 3 + 1)
      have f2 := KB.out.frozen (k * 3 + 2)
      clear O1 B1 c0 c1 c2
      go_wp2
      go_roundw
      case rel =>
        refine ⟨k + 1, w1.heap.size, _, rs' ++ [⟨x.id, x.lv, D, x.n, d, x.near⟩], by omega, by go_num, Lib.hid ⟨((KB.out.set_ (k * 3) (.string x.id)).set_ (k * 3 + 1) (.int .i64 x.lv)).set_ (k * 3 + 2) (.slice D x.n d), by simp [hsz], by simp [HP.out.len], ?_, ?_, ?_, ?_, ?_, by simp, by have := HP.out.hw; have := HP.out.hH; omega⟩⟩
        · rw [take_snoc_rg HZ.out, List.map_append, List.map_append, HP.out.dat]; rfl
        · intro j y hy
          have hlr := HP.out.len
          by_cases hj : j < k
          · rw [List.getElem?_append_left (by omega)] at hy
            obtain ⟨a0, a1, a2⟩ := HP.out.cel j y hy
            refine ⟨?_, ?_, ?_⟩
            all_goals (rw [Array.getElem?_setIfInBounds, if_neg (by omega), Array.getElem?_setIfInBounds, if_neg (by omega), Array.getElem?_setIfInBounds, if_neg (by omega)]; assumption)
          · rw [List.getElem?_append_right (by omega)] at hy
            have hjk : j = k := by
              have := (List.getElem?_eq_some_iff.1 hy).1
              simp at this; omega
            subst hjk
            rw [hlr, Nat.sub_self] at hy
            simp at hy
            subst hy
            refine ⟨?_, ?_, ?_⟩
            · rw [Array.getElem?_setIfInBounds, if_neg (by omega), Array.getElem?_setIfInBounds, if_neg (by omega), Array.getElem?_setIfInBounds, if_pos rfl, if_pos (by omega)]
            · rw [Array.getElem?_setIfInBounds, if_neg (by omega), Array.getElem?_setIfInBounds, if_pos rfl, if_pos (by simp; omega)]
            · rw [Array.getElem?_setIfInBounds, if_pos rfl, if_pos (by simp; omega)]; rfl
        · intro y hy
          have st : ∀ {s m : Nat} {T : TypeId} {v : Value} {xs : List Value} {lo hi : Nat}, w.heap.size < lo → Own w1 lo hi T s v m xs → Own (((w1.setCell ⟨w.heap.size, k * 3, none⟩ (.string x.id)).setCell ⟨w.heap.size, k * 3 + 1, none⟩ (.int .i64 x.lv)).setCell ⟨w.heap.size, k * 3 + 2, none⟩ (.slice D x.n d)) lo hi T s v m xs := fun hl h =>
            ((h.setOut (p := ⟨w.heap.size, k * 3, none⟩) hl _).setOut (p := ⟨w.heap.size, k * 3 + 1, none⟩) hl _).setOut (p := ⟨w.heap.size, k * 3 + 2, none⟩) hl _
          have hH := HP.out.hH
          have hw := HP.out.hw
          rcases List.mem_append.1 hy with h | h
          · exact (st (by omega) ((HP.out.inn y h).below HB1.out hH)).widen (Nat.le_refl _) (by omega)
          · simp at h
            subst h
            exact (st (by omega) HO.out).widen (by omega) (Nat.le_refl _)
        · refine List.pairwise_append.2 ⟨HP.out.pw, List.pairwise_singleton _ _, fun a ha b hb g hg hg2 => ?_⟩
          simp at hb
          subst hb
          have h1 := (HP.out.inn a ha).blk_bd hg
          have h2 := HO.out.blk_bd hg2
          have hH := HP.out.hH
          omega
        · exact (((HP.out.bel.trans (HB1.out.mono hbs)).setCell (p := ⟨w.heap.size, k * 3, none⟩) (Nat.le_refl _) _).setCell (p := ⟨w.heap.size, k * 3 + 1, none⟩) (Nat.le_refl _) _).setCell (p := ⟨w.heap.size, k * 3 + 2, none⟩) (Nat.le_refl _) _
      case measure => simp [intOf]; omega
    · obtain rfl : k = n := by omega
      go_wp2
      go_ret
      obtain ⟨h1, h2⟩ := HP.out.done hlen.out hn
      exact ⟨_, k, rs', rfl, h1, h2, HP.out.bel⟩
set_option maxHeartbeats 2000000 in
theorem eqRegionS_same (A D : Option Addr) (n m c d BA BD : Nat) (rs ss : List Rg) (w : World) (ha : Regs w BA A n rs) (hd : Regs w BD D m ss) (he : rs.map Rg.dat = ss.map Rg.dat) (hx : ∀ x ∈ rs, x.n ≤ 1048576) (hA : BA ≤ w.heap.size) (hD : BD ≤ w.heap.size) (hn : n ≤ 1048576) :
    Calls Tryd.prog 9 #[.slice A n c, .slice D m d] w fun e w' => e = .returned (.bool true) ∧ Below w.heap.size w w' := by
  obtain rfl : n = m := by rw [← ha.len, ← hd.len]; simpa using congrArg List.length he
  have HA := Lib.hid ha
  have HD := Lib.hid hd
  have HE := Lib.hid he
  clear ha hd he
  go_enter Tryd.func9, Tryd.ntmps9
  go_wp2
  go_loopw [5] (fun i wr => ∃ k : Nat, k ≤ n ∧ i = .int .i64 k ∧ Hid (Below w.heap.size w wr)) (fun i _ => n - (intOf i).toNat)
  case atStart => exact ⟨0, Nat.zero_le _, rfl, Lib.hid (Below.refl _ _)⟩
  case round =>
    obtain ⟨k, hk, rfl, HT⟩ := hrel
    by_cases hlt : k < n
    · have HA1 := Lib.hid (HA.out.below (HT.out.mono hA))
      have HD1 := Lib.hid (HD.out.below (HT.out.mono hD))
      obtain ⟨ad, x, rfl, hb1, hs, hnx, hcx⟩ := HA1.out.at_ hlt
      obtain ⟨ad', y, rfl, hb2, ht, hny, hcy⟩ := HD1.out.at_ hlt
      have hxy : x.dat = y.dat := by
        have h1 : (rs.map Rg.dat)[k]? = some x.dat := by simp [hs]
        have h2 : (ss.map Rg.dat)[k]? = some y.dat := by simp [ht]
        rw [HE.out, h2] at h1; injection h1 with h1; exact h1.symm
      have HNX := Lib.hid hnx
      have HNY := Lib.hid hny
      have HXY := Lib.hid hxy
      have HS : Hid (∀ W', Below wr.heap.size wr W' → (RgAt W' ad k x ∧ RgAt W' ad' k y)) := Lib.hid fun W' hW => by
        have k1 := hW.mono (show BA ≤ wr.heap.size by have := HT.out.size; omega)
        have k2 := hW.mono (show BD ≤ wr.heap.size by have := HT.out.size; omega)
        obtain ⟨a1, x1, e1, _, s1, _, q1⟩ := (HA1.out.below k1).at_ hlt
        obtain ⟨a2, x2, e2, _, s2, _, q2⟩ := (HD1.out.below k2).at_ hlt
        obtain rfl : ad = a1 := by injection e1
        obtain rfl : ad' = a2 := by injection e2
        obtain rfl : x = x1 := by rw [hs] at s1; injection s1
        obtain rfl : y = x2 := by rw [ht] at s2; injection s2
        exact ⟨q1, q2⟩
      have hxn : x.n ≤ 1152921504606846976 := by have := hx x (List.mem_of_getElem? hs); omega
      have h0 := HS.out wr (Below.refl _ _)
      unfold RgAt at h0
      obtain ⟨⟨c0, c1, c2⟩, d0, d1, d2⟩ := h0
      have hB := Below.refl wr.heap.size wr
      have hwz := HT.out.size
      clear hs ht hnx hny hcx hcy hxy
      go_wp2
      go_region_held3 (fun w' => Below wr.heap.size wr w' ∧ (w'.cell? (ad.add (k * 3)) = some (.string x.id) ∧ w'.cell? ⟨(ad.add (k * 3)).block, (ad.add (k * 3)).off + 1, none⟩ = some (.int .i64 x.lv) ∧
          w'.cell? ⟨(ad.add (k * 3)).block, (ad.add (k * 3)).off + 2, none⟩ = some (.slice x.A x.n x.c)) ∧ w'.cell? (ad'.add (k * 3)) = some (.string y.id) ∧ w'.cell? ⟨(ad'.add (k * 3)).block, (ad'.add (k * 3)).off + 1, none⟩ = some (.int .i64 y.lv) ∧
          w'.cell? ⟨(ad'.add (k * 3)).block, (ad'.add (k * 3)).off + 2, none⟩ = some (.slice y.A y.n y.c)) (first | exact keepB HS.out (by assumption) (by first | assumption | exact And.left (by assumption)) | exact keepD HS.out (by assumption) | (go_keep; done))
        (first | (go_at_call 21; refine (eqRegion_same x y BA BD _ (HNX.out.below (Below.mono (by first | assumption | exact And.left (by assumption)) (by omega))) (HNY.out.below (Below.mono (by first | assumption | exact And.left (by assumption)) (by omega))) (Nat.le_trans (show BA ≤ wr.heap.size by omega) (Below.size (by first | assumption | exact And.left (by assumption)))) (Nat.le_trans (show BD ≤ wr.heap.size by omega) (Below.size (by first | assumption | exact And.left (by assumption)))) HXY.out hxn).mono ?_; rintro e w1 ⟨rfl, hb⟩))
      replace hb := Lib.hid (HT.out.drew.trans (hb.mono HT.out.size))
      clear hB c0 c1 c2 d0 d1 d2 HS
      go_wp2
      go_roundw
      case rel => exact ⟨k + 1, by omega, by go_num, hb⟩
      case measure => simp [intOf]; omega
    · go_wp2
      go_ret
      exact ⟨rfl, HT.out⟩
def sumN (rs : List Rg) : Nat := (rs.map Rg.n).sum
theorem sumN_take {rs : List Rg} {k : Nat} {x : Rg} (h : rs[k]? = some x) : sumN (rs.take (k + 1)) = sumN (rs.take k) + x.n := by
  unfold sumN; rw [List.take_add_one, h]; simp
/-- sizes that no machine goes past -/
def RgFit (x : Rg) : Prop := x.id.size ≤ maxLen ∧ (∀ s ∈ x.near, s.size ≤ maxLen) ∧ x.n ≤ 9223372036854775807
set_option maxHeartbeats 1000000 in
theorem szRegion_c (x : Rg) (BA : Nat) (left : Int) (w : World) (hx : Near w BA x) (hB : BA ≤ w.heap.size) (hf : RgFit x) (h0 : 0 ≤ left) (h1 : left ≤ 1048576) :
    Calls Tryd.prog 14 #[x.val, .int .i64 left] w (SzPost left x.n w) := by
  have hl := hf.1
  simp only [maxLen] at hl
  by_cases hid : left < (x.id.size : Int)
  · clear hx hf
    obtain ⟨id, lv, A, n, c, near⟩ := x
    simp only [Rg.val] at *
    go_enter Tryd.func14, Tryd.ntmps14
    go_wp2
    go_ret
    exact ⟨-1, rfl, .inl rfl, by go_grown⟩
  · have HS := Lib.hid fun W (hW : Below w.heap.size w W) z h0 h1 => szStringS_c x.A x.n x.c BA x.near z W (hx.below (hW.mono hB)) hf.2.1 h0 h1 hf.2.2
    clear hx hf
    obtain ⟨id, lv, A, n, c, near⟩ := x
    simp only [Rg.val] at *
    have HT := Lib.hid ((Below.refl w.heap.size w).alloc (Nat.le_refl _) (.cells #[.string id, .int .i64 lv, .slice A n c] 36))
    go_enter Tryd.func14, Tryd.ntmps14
    go_wp2_with fail
    refine (HS.out _ HT.out (left - id.size) (by omega) (by omega)).mono ?_
    rintro e w1 ⟨v, rfl, hv, B1⟩
    have HB := Lib.hid (HT.out.trans (B1.mono (by simp)))
    clear B1
    rcases hv with rfl | ⟨hv0, hv1⟩
    · go_wp2
      go_ret
      exact ⟨-1, rfl, .inl rfl, HB.out⟩
    · go_wp2
      go_ret
      exact ⟨v, rfl, .inr ⟨hv0, by omega⟩, HB.out⟩
set_option maxHeartbeats 1000000 in
theorem szRegionS_c (A : Option Addr) (n c BA : Nat) (rs : List Rg) (left : Int) (w : World) (ha : Regs w BA A n rs) (hB : BA ≤ w.heap.size) (hf : ∀ x ∈ rs, RgFit x) (h0 : 0 ≤ left) (h1 : left ≤ 1048576) (hn : n ≤ 9223372036854775807) :
    Calls Tryd.prog 5 #[.slice A n c, .int .i64 left] w (SzPost left (n + sumN rs) w) := by
  by_cases h : left < (n : Int)
  · clear ha
    go_enter Tryd.func5, Tryd.ntmps5
    go_wp2
    go_ret
    exact ⟨-1, rfl, .inl rfl, Below.refl _ _⟩
  · have HL := Lib.hid ha.len
    have HA := Lib.hid ha
    have HF := Lib.hid hf
    have HM := Lib.hid (show ∀ k x, rs[k]? = some x → sumN (rs.take (k + 1)) = sumN (rs.take k) + x.n from fun k x h => sumN_take h)
    clear hf ha
    go_enter Tryd.func5, Tryd.ntmps5
    go_wp2
    go_loopw [1, 5] (fun v i wr => ∃ (k : Nat) (z : Int), k ≤ n ∧ i = .int .i64 k ∧ v = .int .i64 z ∧ 0 ≤ z ∧ Hid (z + n + sumN (rs.take k) ≤ left) ∧ Hid (Below w.heap.size w wr)) (fun _ i _ => n - (intOf i).toNat)
    case atStart => exact ⟨0, left - n, Nat.zero_le _, rfl, rfl, by omega, Lib.hid (by simp [sumN]), Lib.hid (Below.refl _ _)⟩
    case round =>
      obtain ⟨k, z, hk, rfl, rfl, hz0, HZ, HT⟩ := hrel
      have hzl : z ≤ 1048576 := by have := HZ.out; omega
      by_cases hlt : k < n
      · obtain ⟨ad, x, rfl, hbl, hs, hnx, c0, c1, c2⟩ := (HA.out.below (HT.out.mono hB)).at_ hlt
        have hfx := HF.out x (List.mem_of_getElem? hs)
        have hm := HM.out k x hs
        have HMX := Lib.hid hm
        have HSZ := Lib.hid (szRegion_c x BA z wr hnx (by have := HT.out.size; omega) hfx hz0 hzl)
        have hx63 := hfx.2.2
        clear hs hnx hfx hm
        go_wp2_with fail
        refine HSZ.out.mono ?_
        rintro e w1 ⟨v, rfl, hv, B1⟩
        have HB := Lib.hid (HT.out.trans (B1.mono HT.out.size))
        clear B1 c0 c1 c2
        rcases hv with rfl | ⟨hv0, hv1⟩
        · go_wp2
          go_ret
          exact ⟨-1, rfl, .inl rfl, HB.out⟩
        · go_wp2
          go_roundw
          case rel => exact ⟨k + 1, v, by omega, by go_num, rfl, hv0, Lib.hid (by rw [HMX.out]; have := HZ.out; omega), HB⟩
          case measure => simp [intOf]; omega
      · obtain rfl : k = n := by omega
        have hz := HZ.out
        rw [List.take_of_length_le (by have := HL.out; omega)] at hz
        go_wp2
        go_ret
        exact ⟨z, rfl, .inr ⟨hz0, by omega⟩, HT.out⟩
theorem sumN_mem : ∀ {rs : List Rg} {x : Rg}, x ∈ rs → x.n ≤ sumN rs
  | y :: rs, x, h => by
    have e : sumN (y :: rs) = y.n + sumN rs := by simp [sumN]
    rcases List.mem_cons.1 h with rfl | h
    · omega
    · have := sumN_mem h; omega
end Go.Proofs.YteklfeeamjgplaaDoor
