/- FnZones: texts of zones read back (plain); drawn lines and pressures. -/
import Derived.Test.YtjmnhmghpikknaaDoorFzP
import Derived.Test.YtjmnhmghpikknaaDoorSrc2
namespace Go.Proofs.YtjmnhmghpikknaaDoor
open Go.ChangeShapes Go.WideShapes Go.ChangeAt Go.RowKit
set_option linter.unusedVariables false
theorem joinZ_len : ∀ P : List (List UInt8), (∀ p ∈ P, p.length ≤ 6) → (Lib.join P [32]).length ≤ 7 * P.length
  | [], _ => by simp [Lib.join]
  | [x], h => by
    rw [Lib.join_one]
    have := h x (by simp)
    simp; omega
  | x :: y :: r, h => by
    have ih := joinZ_len (y :: r) (fun p hp => h p (List.mem_cons_of_mem _ hp))
    have h1 := h x (by simp)
    rw [join_two, List.length_append, List.length_cons]
    simp only [List.length_cons] at ih ⊢
    omega
theorem textZ_size {zs : List Int} (h : okZ zs = true) : (textZ zs).size ≤ 448 := by
  rw [okZ_iff] at h
  have h1 := joinZ_len (tlZ (zs.map nameZ)) (fun p hp => by
    unfold tlZ at hp
    obtain ⟨b, hb, rfl⟩ := List.mem_map.1 hp
    obtain ⟨z, hz, rfl⟩ := List.mem_map.1 hb
    rw [size_l]
    exact (name_len (h.2 z hz)).2)
  have h2 : (tlZ (zs.map nameZ)).length = zs.length := by simp [tlZ]
  have h3 : (textZ zs).size = (Lib.join (tlZ (zs.map nameZ)) [32]).length := rfl
  omega
theorem spec_text {zs : List Int} (h : okZ zs = true) : specZ (textZ zs) = (zs, true) := by
  have hok := okZ_iff.1 h
  by_cases h0 : zs = []
  · subst h0
    unfold specZ
    rw [if_pos (by rfl)]
  · have htl : tlZ (zs.map nameZ) ≠ [] := by simpa [tlZ] using h0
    have hsp : splitS (textZ zs) 32 = zs.map nameZ := by
      obtain ⟨h1, h2, h3⟩ := splitS_ok (textZ zs) 32
      refine tlZ_inj (join_uniq h1 htl h2 (fun p hp => ?_) (by rw [h3]; rfl))
      unfold tlZ at hp
      obtain ⟨b, hb, rfl⟩ := List.mem_map.1 hp
      obtain ⟨z, hz, rfl⟩ := List.mem_map.1 hb
      exact name_no
    have hzn : (zs.map nameZ).map zn = zs := by
      rw [List.map_map]
      conv => rhs; rw [← List.map_id zs]
      exact List.map_congr_left (fun z hz => zn_nameZ (hok.2 z hz))
    have hs : (textZ zs).size ≠ 0 := by
      intro e
      have h1 : (textZ zs).data.toList = [] := List.eq_nil_of_length_eq_zero (by rw [size_l]; exact e)
      have h2 : (splitS (textZ zs) 32).length = zs.length := by rw [hsp]; simp
      obtain ⟨g1, g2, g3⟩ := splitS_ok (textZ zs) 32
      rcases count_join g2 with hc | hc
      · rw [g3, h1] at hc
        have : (tlZ (splitS (textZ zs) 32)).length = 1 := by simpa using hc.symm
        rw [show (tlZ (splitS (textZ zs) 32)).length = (splitS (textZ zs) 32).length by simp [tlZ], h2] at this
        obtain ⟨z, rfl⟩ := List.length_eq_one_iff.1 this
        have h5 : (textZ [z]).size = (nameZ z).size := by
          show (Lib.join [(nameZ z).data.toList] [32]).length = _
          rw [Lib.join_one, size_l]
        have := (name_len (hok.2 z (by simp))).1
        omega
      · exact g1 hc
    unfold specZ
    rw [if_neg hs, hsp, hzn, if_pos]
    rw [List.all_map, List.length_map]
    simp only [Bool.and_eq_true, List.all_eq_true, decide_eq_true_eq]
    exact ⟨fun z hz => by show decide (0 ≤ zn (nameZ z)) = true; rw [zn_nameZ (hok.2 z hz)]; simpa using (hok.2 z hz).1, hok.1⟩
theorem one_c (g M : Nat) (n : Int) (w : World) (h : Src w g M) (hM : M ≤ 500000000000000000) (hn : n ≤ 1000000000000) :
    Calls Tryd.prog 20 #[.pointer (some ⟨g, 0, none⟩), .int .i64 n] w fun e w' => ∃ b : Bool, e = .returned (.bool b) ∧ Src w' g (M + 2) ∧ Only g (g + 1) w w' := by
  have HS := Lib.hid h; clear h
  go_enter Tryd.func20, Tryd.ntmps20
  go_wp2_with fail
  refine (pick_c g M n w HS.out (by omega) (by omega)).mono ?_
  rintro e w1 ⟨v, rfl, hv0, hv1, S1, Y1⟩
  have S1' := Lib.hid S1
  have Y1' := Lib.hid Y1
  clear S1 Y1 hv1
  go_wp2
  go_ret
  exact ⟨_, rfl, S1'.out, Y1'.out⟩
theorem make_i64 (n : Nat) (hn : n ≤ 1048576) (W : World) : (Instr.makeSlice 27 (.int .i64 (n : Int)) (.int .i64 (n : Int))).run Tryd.prog W = .ok (.slice (some ⟨W.heap.size, 0, none⟩) n n) (W.alloc (.cells (madeCells #[.int .i64 0] n) 2)) := by
  obtain ⟨i0, hi, hz, hs, hb⟩ := info_parts info_i64
  have h := run_make_rowN (P := Tryd.prog) 27 2 i0 _ Tryd.underlying27 hi hz .i64 .i64 n n (Nat.le_refl _) (by rw [hb]; omega) (by omega) W
  rw [hs, Nat.mul_one] at h
  exact h
theorem made_own (n : Nat) (hn : n ≤ 1048576) (W : World) : Own (W.alloc (.cells (madeCells #[.int .i64 0] n) 2)) W.heap.size (W.heap.size + 1) 2 1 (.slice (some ⟨W.heap.size, 0, none⟩) n n) n (ints (List.replicate n 0)) := by
  have h := Own.of_blk (lo := W.heap.size) (hi := W.heap.size + 1) (n := n) (s := 1) (Blk.new W 2 (madeCells #[.int .i64 0] n)) (by have := congrArg List.length (toList_madeCells_one (.int .i64 0) n); simpa using this) (Nat.le_refl _) (by omega) (by simp [maxLen]; omega)
  rw [toList_madeCells_one] at h
  simpa [ints] using h
/-- a drawn line, being made -/
structure DZ (w wr : World) (g M : Nat) (v : Value) (m : Nat) (xs : List Int) : Prop where
  row : wr.ownsRow w.heap.size 2 1 v m (ints xs)
  src : Src wr g M
  only : Only g (g + 1) w wr
section
variable {w wr : World} {g M m : Nat} {v : Value} {xs : List Int}
theorem only_after {lo hi : Nat} {w w' w'' : World} (h : Only lo hi w w') (hb : Below w.heap.size w' w'') : Only lo hi w w'' :=
  ⟨hb.os.trans h.os, hb.tape.trans h.tape, hb.output.trans h.output, Nat.le_trans h.size hb.size, fun k hk hc => (hb.block k hk).trans (h.block k hk hc)⟩
theorem DZ.alloc (h : DZ w wr g M v m xs) (o : Obj) : DZ w (wr.alloc o) g M v m xs := ⟨owns_alZ h.row o, h.src.alloc o, h.only.alloc' o⟩
theorem DZ.turn {w2 : World} {M2 : Nat} (h : DZ w wr g M v m xs) (hg : g < w.heap.size) (hs : Src w2 g M2) (ho : Only g (g + 1) wr w2) : DZ w w2 g M2 v m xs :=
  ⟨((Own.of_owns h.row (Nat.le_refl _)).only ho (.inr (by omega))).1, hs, h.only.trans ho⟩
theorem DZ.push {w2 : World} {v2 : Value} {z : Int} (h : DZ w wr g M v m xs) (hg : g < w.heap.size) (ho : w2.ownsRow w.heap.size 2 1 v2 (m + 1) (ints (xs ++ [z]))) (hb : Below w.heap.size wr w2) : DZ w w2 g M v2 (m + 1) (xs ++ [z]) :=
  ⟨ho, h.src.below hb hg, only_after h.only hb⟩
end
theorem Own.only_lt {w w' : World} {lo hi lo' hi' s n : Nat} {T : TypeId} {v : Value} {xs : List Value} (h : Own w lo hi T s v n xs) (ho : Only lo' hi' w w') (hd : hi' ≤ lo) : Own w' lo hi T s v n xs := h.only ho (.inr hd)
def ZonesPost (w : World) (g M : Nat) (e : Ending) (w' : World) : Prop :=
  ∃ A n c xs, e = .returned (.slice A n c) ∧ Own w' w.heap.size w'.heap.size 2 1 (.slice A n c) n (ints xs) ∧ n ≤ 100 ∧ Src w' g M ∧ Only g (g + 1) w w'
theorem ZonesPost.of {w wr : World} {g M m : Nat} {v : Value} {xs : List Int} (h : DZ w wr g M v m xs) (hm : m ≤ 100) : ZonesPost w g M (.returned v) wr := by
  have h1 := Own.of_owns h.row (Nat.le_refl _)
  obtain ⟨A, c, rfl, _, _⟩ := h1.slice
  exact ⟨A, m, c, xs, rfl, h1, hm, h.src, h.only⟩
set_option maxHeartbeats 4000000 in
set_option maxRecDepth 100000 in
theorem l16DrawZones_c (g M : Nat) (w : World) (h : Src w g M) (hM : M ≤ 100000000000000000) :
    Calls Tryd.prog 19 #[.pointer (some ⟨g, 0, none⟩)] w (ZonesPost w g (M + 50)) := by
  have hg := h.lt
  have D1 : Hid (DZ w (w.alloc (.cells #[] 2)) g M (.slice (some ⟨w.heap.size, 0, none⟩) 0 0) 0 []) := Lib.hid ⟨World.ownsRow_lit (w := w) (base := w.heap.size) (e := 2) (size := 1) #[] 0 (Nat.le_refl _) (by simp [maxLen]) (by simp), h.alloc _, (Only.refl g (g + 1) w).alloc' _⟩
  clear h
  go_enter Tryd.func19, Tryd.ntmps19
  go_wp2_with fail
  refine (pick_c g M 9 _ D1.out.src (by omega) (by omega)).mono ?_
  rintro e w1 ⟨v, rfl, hv0, hv1, S1, Y1⟩
  have D2 := Lib.hid (D1.out.turn hg S1 Y1)
  obtain ⟨j0, rfl⟩ : ∃ j : Nat, v = j := ⟨v.toNat, by omega⟩
  have hj0 : j0 ≤ 8 := by omega
  clear S1 Y1 D1 hv1 hv0
  go_wp2
  go_loopw [3, 4] (fun ov kv wr => ∃ (j m : Nat) (xs : List Int), j ≤ j0 ∧ m ≤ 2 * (8 - j) ∧ kv = .int .i64 j ∧ Hid (DZ w wr g (M + 2 + 4 * (8 - j)) ov m xs)) (fun _ kv _ => (intOf kv).toNat)
  case atStart => exact ⟨j0, 0, [], Nat.le_refl _, by omega, rfl, Lib.hid ⟨D2.out.row, D2.out.src.more (by omega), D2.out.only⟩⟩
  case round =>
    clear D2
    obtain ⟨j, m, xs, hj, hm, rfl, HD⟩ := hrel
    have hws := HD.out.only.size
    by_cases hlt : 0 < j
    · obtain ⟨i, rfl⟩ : ∃ i, j = i + 1 := ⟨j - 1, by omega⟩
      have hj1 : (0 : Int) < ((i + 1 : Nat) : Int) := by omega
      go_wp2_with fail
      refine (pick_c g _ 4 wr HD.out.src (by omega) (by omega)).mono ?_
      rintro e w2 ⟨z, rfl, hz0, hz1, S2, Y2⟩
      have HD2 := Lib.hid (HD.out.turn hg S2 Y2)
      clear S2 hz1
      have hs2 : w.heap.size ≤ w2.heap.size := HD2.out.only.size
      go_wp2_with (at_builtin; refine app_i64 rfl (.tmp 12) (.tmp 15) rfl w.heap.size _ m xs z _ rfl (HD2.out.alloc (.cells #[.int .i64 z] 2)).row rfl ?_ (by omega) ?_ ?_)
      rotate_left 2
      · intro v3 w3 O3 B3 hs3
        have HD3 := Lib.hid ((HD2.out.alloc _).push hg O3 B3)
        have hs3' : w.heap.size ≤ w3.heap.size := HD3.out.only.size
        clear O3 B3 HD2 HD Y2
        go_wp2_with fail
        refine (one_c g _ 2 w3 HD3.out.src (by omega) (by omega)).mono ?_
        rintro e w4 ⟨b, rfl, S4, Y4⟩
        have HD4 := Lib.hid (HD3.out.turn hg S4 Y4)
        have hs4 : w.heap.size ≤ w4.heap.size := HD4.out.only.size
        clear S4 Y4 HD3
        obtain ⟨ys, hys⟩ : ∃ ys, xs ++ [z] = ys := ⟨_, rfl⟩
        rw [hys] at HD4
        clear hys
        obtain ⟨A3, c3, rfl, _, _⟩ := (Own.of_owns HD4.out.row (Nat.le_refl _)).slice
        cases b
        · go_wp2
          go_roundw
          case rel => exact ⟨i, m + 1, _, by omega, by omega, by go_num, Lib.hid ⟨HD4.out.row, HD4.out.src.more (by omega), HD4.out.only⟩⟩
          case measure => simp [intOf] <;> omega
        · obtain ⟨gb, rfl, _, _, _⟩ := (Own.of_owns HD4.out.row (Nat.le_refl w4.heap.size)).at_ (by omega)
          have hc : ∃ y, w4.cell? ⟨gb, m, none⟩ = some (.int .i64 y) := by
            rw [HD4.out.row.cellAt m (by omega)]
            have hl : m < (ints ys).length := by
              have := HD4.out.row.1
              omega
            obtain ⟨y, _, hy⟩ := ints_get (List.getElem?_eq_getElem hl)
            exact ⟨y, by rw [List.getElem?_eq_getElem hl, hy]⟩
          obtain ⟨y, hc⟩ := hc
          have hm1 : ((m + 1 : Nat) : Int) - 1 = (m : Int) := by omega
          go_wp2_with (at_builtin; refine app_i64 rfl (.tmp 19) (.tmp 26) rfl w.heap.size _ (m + 1) ys y _ rfl (HD4.out.alloc (.cells #[.int .i64 y] 2)).row rfl ?_ (by omega) ?_ ?_)
          rotate_left 2
          · intro v5 w5 O5 B5 hs5
            have HD5 := Lib.hid ((HD4.out.alloc _).push hg O5 B5)
            clear O5 B5 HD4 hc
            go_wp2
            go_roundw
            case rel => exact ⟨i, m + 2, _, by omega, by omega, by go_num, Lib.hid ⟨HD5.out.row, HD5.out.src.more (by omega), HD5.out.only⟩⟩
            case measure => simp [intOf] <;> omega
          · exact (Blk.new _ _ _).cell 0
          · simp; omega
      · exact (Blk.new _ _ _).cell 0
      · simp; omega
    · obtain rfl : j = 0 := by omega
      have HD0 : Hid (DZ w wr g (M + 34) u3 m xs) := HD
      clear HD
      go_wp2_with fail
      refine (pick_c g _ 18 wr HD0.out.src (by omega) (by omega)).mono ?_
      rintro e w2 ⟨z, rfl, hz0, hz1, S2, Y2⟩
      have HD2 := Lib.hid (HD0.out.turn hg S2 Y2)
      have hs2 : w.heap.size ≤ w2.heap.size := HD2.out.only.size
      clear S2 Y2 hz1 HD0
      by_cases h0 : z = 0
      · subst h0
        go_wp2_with fail
        refine (among_c g w2.heap.size (M + 36) 2 [-1, 4] _ (HD2.out.alloc _).src (Blk.new _ _ _) (by omega) rfl (by omega) (by omega) (by omega)).mono ?_
        rintro e w3 ⟨y, rfl, mm, S3, Y3⟩
        have HD3 := Lib.hid ((HD2.out.alloc _).turn hg S3 Y3)
        have hs3 : w.heap.size ≤ w3.heap.size := HD3.out.only.size
        clear S3 Y3 HD2 mm
        go_wp2_with (at_builtin; refine app_i64 rfl (.tmp 32) (.tmp 36) rfl w.heap.size _ m xs y _ rfl (HD3.out.alloc (.cells #[.int .i64 y] 2)).row rfl ?_ (by omega) ?_ ?_)
        rotate_left 2
        · intro v5 w5 O5 B5 hs5
          have HD5 := Lib.hid ((HD3.out.alloc _).push hg O5 B5)
          clear O5 B5 HD3
          go_wp2
          go_ret
          exact ZonesPost.of ⟨HD5.out.row, HD5.out.src.more (by omega), HD5.out.only⟩ (by omega)
        · exact (Blk.new _ _ _).cell 0
        · simp; omega
      · by_cases h1 : z = 1
        · subst h1
          go_wp2_with fail
          refine (among_c g w2.heap.size (M + 36) 2 [64, 65] _ (HD2.out.alloc _).src (Blk.new _ _ _) (by omega) rfl (by omega) (by omega) (by omega)).mono ?_
          rintro e w3 ⟨y, rfl, mm, S3, Y3⟩
          have HD3 := Lib.hid ((HD2.out.alloc _).turn hg S3 Y3)
          have hs3 : w.heap.size ≤ w3.heap.size := HD3.out.only.size
          obtain ⟨n, rfl, hn⟩ : ∃ n : Nat, y = n ∧ n ≤ 65 := by
            simp at mm
            rcases mm with rfl | rfl
            · exact ⟨64, rfl, by omega⟩
            · exact ⟨65, rfl, by omega⟩
          have hmk := fun W => make_i64 n (by omega) W
          have HO := Lib.hid (made_own n (by omega) w3)
          have HS5 := Lib.hid (HD3.out.src.alloc (.cells (madeCells #[.int .i64 0] n) 2))
          have HY5 := Lib.hid (HD3.out.only.alloc' (.cells (madeCells #[.int .i64 0] n) 2))
          clear S3 Y3 HD2 mm HD3
          go_wp2
          go_ret
          exact ⟨_, n, n, _, rfl, HO.out.widen hs3 (by simp), by omega, HS5.out.more (by omega), HY5.out⟩
        · go_wp2
          go_ret
          exact ZonesPost.of ⟨HD2.out.row, HD2.out.src.more (by omega), HD2.out.only⟩ (by omega)
end Go.Proofs.YtjmnhmghpikknaaDoor
