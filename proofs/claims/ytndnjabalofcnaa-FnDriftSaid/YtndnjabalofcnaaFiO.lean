/- Directions as the reference draws them; DrawDriftRun, DrawWorstWind. -/
import Derived.Test.YtndnjabalofcnaaFiN
namespace Go.Proofs.Ytndnjabalofcnaa
open Go.ChangeShapes Go.WideShapes Go.ChangeAt Go.RowKit
set_option linter.unusedVariables false

def DrawLPost (w : World) (g M : Nat) (e : Ending) (w' : World) : Prop :=
  ∃ (A : Option Addr) (n c : Nat) (zs : List Int), e = .returned (.slice A n c) ∧ Own w' w.heap.size w'.heap.size 2 1 (.slice A n c) n (ints zs) ∧ n ≤ 100 ∧ Src w' g M ∧ Only g (g + 1) w w'
theorem Only.trB {w w1 w2 : World} {g lo : Nat} (h : Only g (g + 1) w w1) (hb : Below lo w1 w2) (hl : w.heap.size ≤ lo) : Only g (g + 1) w w2 :=
  ⟨hb.os.trans h.os, hb.tape.trans h.tape, hb.output.trans h.output, Nat.le_trans h.size hb.size, fun j hj hc => (hb.block j (by omega)).trans (h.block j hj hc)⟩
set_option maxHeartbeats 8000000 in
theorem l06DrawGusts_c (g M : Nat) (w : World) (h : Src w g M) (hM : M ≤ 100000000000000) :
    Calls Try.prog 60 #[.pointer (some ⟨g, 0, none⟩)] w (DrawLPost w g (M + 30)) := by
  have HS := Lib.hid h
  have hgl := h.lt
  clear h
  have O1 : Hid ((w.alloc (.cells #[] 2)).ownsRow w.heap.size 2 1 (.slice (some ⟨w.heap.size, 0, none⟩) 0 0) 0 (ints [])) := Lib.hid (World.ownsRow_lit (w := w) (base := w.heap.size) (e := 2) (size := 1) #[] 0 (Nat.le_refl _) (by simp [maxLen]) (by simp))
  go_enter Try.func60, Try.ntmps60
  go_wp2_with fail
  refine (pick_c g M 7 _ (HS.out.alloc _) (by omega) (by omega)).mono ?_
  rintro e w1 ⟨v, rfl, a0, a1, S1, Y1⟩
  have S1' := Lib.hid S1
  have Y1' := Lib.hid (((Only.refl g (g + 1) w).alloc' _).trans Y1)
  have O2 := Lib.hid (owns_keep O1.out Y1 (by omega))
  clear S1 Y1 O1
  obtain ⟨m0, rfl⟩ : ∃ m0 : Nat, v = m0 := ⟨v.toNat, by omega⟩
  have hm0 : m0 ≤ 7 := by omega
  go_wp2
  go_loopw [3, 4] (fun o k wr => ∃ (m n' : Nat) (xs : List Int), m ≤ 7 ∧ n' + m ≤ 7 ∧ k = .int .i64 m ∧ Hid (wr.ownsRow w.heap.size 2 1 o n' (ints xs)) ∧ Hid (Src wr g (M + 2 + 2 * n')) ∧ Hid (Only g (g + 1) w wr)) (fun _ k _ => (intOf k).toNat)
  case atStart => exact ⟨m0, 0, [], hm0, by omega, rfl, O2, S1', Y1'⟩
  case round =>
    clear O2 S1' Y1' a0 a1
    obtain ⟨m, n', xs, hm, hnm, rfl, HO, HS1, HY⟩ := hrel
    have hsz := HY.out.size
    by_cases h0 : m = 0
    · subst h0
      go_wp2_with fail
      refine (pick_c g (M + 2 + 2 * n') 18 wr HS1.out (by omega) (by omega)).mono ?_
      rintro e w2 ⟨v2, rfl, b0, b1, S2, Y2⟩
      have S2' := Lib.hid S2
      have Y2' := Lib.hid (HY.out.trans Y2)
      have O2 := Lib.hid (owns_keep HO.out Y2 (by omega))
      have hs2 := Y2.size
      clear S2 Y2 HO HS1 HY
      by_cases c0 : v2 = 0
      · subst c0
        go_wp2_with fail
        refine (among_c g w2.heap.size (M + 2 + 2 * n' + 2) 2 [-1, 4] _ (S2'.out.alloc _) (Blk.new _ _ _) (by have := S2'.out.lt; omega) rfl (by omega) (by omega) (by omega)).mono ?_
        rintro e w3 ⟨z, rfl, mm, S3, Y3⟩
        have S3' := Lib.hid S3
        have Y3' := Lib.hid ((Y2'.out.alloc' _).trans Y3)
        have O3 := Lib.hid (owns_keep (owns_al O2.out _) Y3 (by omega))
        have hs3 : w2.heap.size + 1 ≤ w3.heap.size := by have := Y3.size; simpa using this
        clear S3 Y3 mm O2 S2' Y2'
        go_wp2_with (at_builtin; refine app_i64 rfl (.tmp 21) (.tmp 25) rfl w.heap.size _ n' xs z _ rfl (owns_al O3.out _) rfl ?_ (by omega) ?_ ?_)
        rotate_left 2
        · intro v4 w4 O4 B4 hs4
          obtain ⟨A', c', hv', hnc, _⟩ := (Own.of_owns O4 (Nat.le_refl _)).slice
          subst hv'
          have O4' := Lib.hid (Own.of_owns O4 (Nat.le_refl w4.heap.size))
          have S4' := Lib.hid ((S3'.out.alloc _).below B4 hgl)
          have Y4' := Lib.hid ((Y3'.out.alloc' _).trB B4 (Nat.le_refl _))
          clear O4 B4 hs4 O3 S3' Y3'
          go_wp2
          go_ret
          exact ⟨A', n' + 1, c', xs ++ [z], rfl, O4'.out, by omega, S4'.out.more (by omega), Y4'.out⟩
        · exact (Blk.new _ _ _).cell 0
        · simp; omega
      · by_cases c1 : v2 = 1
        · subst c1
          go_wp2_with fail
          refine (among_c g w2.heap.size (M + 2 + 2 * n' + 2) 2 [24, 25] _ (S2'.out.alloc _) (Blk.new _ _ _) (by have := S2'.out.lt; omega) rfl (by omega) (by omega) (by omega)).mono ?_
          rintro e w3 ⟨z, rfl, mm, S3, Y3⟩
          obtain ⟨k, rfl, hk⟩ : ∃ k : Nat, z = k ∧ (k = 24 ∨ k = 25) := ⟨z.toNat, by simp at mm; omega, by simp at mm; omega⟩
          have S3' := Lib.hid S3
          have Y3' := Lib.hid ((Y2'.out.alloc' _).trans Y3)
          have hs3 : w2.heap.size + 1 ≤ w3.heap.size := by have := Y3.size; simpa using this
          have hmk := make_i64 k (by omega) w3
          have HMO := Lib.hid (made_own k (by omega) w3)
          clear S3 Y3 mm O2 S2' Y2'
          go_wp2
          go_ret
          exact ⟨_, k, k, List.replicate k 0, rfl, HMO.out.widen (by omega) (by simp), by omega, (S3'.out.alloc _).more (by omega), Y3'.out.alloc' _⟩
        · obtain ⟨A', c', hv', hnc, _⟩ := (Own.of_owns O2.out (Nat.le_refl _)).slice
          subst hv'
          go_wp2
          go_ret
          exact ⟨A', n', c', xs, rfl, Own.of_owns O2.out (Nat.le_refl _), by omega, S2'.out.more (by omega), Y2'.out⟩
    · have hmp : 0 < m := by omega
      go_wp2_with fail
      refine (pick_c g (M + 2 + 2 * n') 4 wr HS1.out (by omega) (by omega)).mono ?_
      rintro e w2 ⟨v2, rfl, b0, b1, S2, Y2⟩
      have S2' := Lib.hid S2
      have Y2' := Lib.hid (HY.out.trans Y2)
      have O2 := Lib.hid (owns_keep HO.out Y2 (by omega))
      have hs2 := Y2.size
      clear S2 Y2 HO HS1 HY
      go_wp2_with (at_builtin; refine app_i64 rfl (.tmp 12) (.tmp 15) rfl w.heap.size _ n' xs v2 _ rfl (owns_al O2.out _) rfl ?_ (by omega) ?_ ?_)
      rotate_left 2
      · intro v4 w4 O4 B4 hs4
        have O4' := Lib.hid O4
        have S4' := Lib.hid ((S2'.out.alloc _).below B4 hgl)
        have Y4' := Lib.hid ((Y2'.out.alloc' _).trB B4 (Nat.le_refl _))
        clear O4 B4 hs4 O2 S2' Y2'
        go_wp2
        go_roundw
        case rel => exact ⟨m - 1, n' + 1, xs ++ [v2], by omega, by omega, by rw [show ((m - 1 : Nat) : Int) = (m : Int) - 1 from by omega], O4', Lib.hid (S4'.out.more (by omega)), Y4'⟩
        case measure => simp [intOf]; omega
      · exact (Blk.new _ _ _).cell 0
      · simp; omega
def DrawRunPost (w : World) (e : Ending) (w' : World) : Prop :=
  ∃ (f : Fi) (A : Option Addr) (n c : Nat) (D : Option Addr) (m d : Nat) (zs : List Int) (sh : Int), e = .returned (.tuple #[f.val A n c, .slice D m d, .int .i64 sh]) ∧
    Own w' w.heap.size w'.heap.size 2 1 (.slice A n c) n (ints f.hs) ∧ Own w' w.heap.size w'.heap.size 2 1 (.slice D m d) m (ints zs) ∧ n ≤ 100 ∧ m ≤ 100 ∧ Below w.heap.size w w'
set_option maxHeartbeats 8000000 in
theorem DrawDriftRun_c (A : Option Addr) (n c : Nat) (zs : List Int) (w : World) (ha : Bytes w w.heap.size A n zs) (hn : n ≤ 1152921504606846976) :
    Calls Try.prog 32 #[.slice A n c] w (DrawRunPost w) := by
  have HA := Lib.hid ha; clear ha
  have HX : Hid (Blk (w.alloc (.cells #[.int .i64 0, .int .i64 0, .slice none 0 0] 26)) w.heap.size 26 #[.int .i64 0, .int .i64 0, .slice none 0 0]) := Lib.hid (Blk.new _ _ _)
  have HT0 := Lib.hid ((Below.refl w.heap.size w).alloc (Nat.le_refl _) (.cells #[.int .i64 0, .int .i64 0, .slice none 0 0] 26))
  go_enter Try.func32, Try.ntmps32
  go_wp2_with fail
  refine (l00From_c A n c zs _ ((HA.out.below HT0.out).more (by simp)) hn).mono ?_
  rintro e w1 ⟨rfl, S1, B1, hs1⟩
  have hs1' : w1.heap.size = w.heap.size + 1 + 1 := by first | exact hs1 | (simp at hs1; omega)
  have S1' := Lib.hid S1
  have K1 := Lib.hid (HX.out.below B1 (by simp))
  have T1 := Lib.hid (HT0.out.trans (B1.mono (by simp)))
  clear S1 B1 hs1 HX HT0
  go_wp2_with fail
  refine (l06Draw_c (w.heap.size + 1) 0 w1 (by first | exact S1'.out | (have h := S1'.out; simp at h; exact h)) (by omega)).mono ?_
  rintro e w2 ⟨f, A2, n2, c2, rfl, O2, hn1, hn2, _, _, S2, Y2⟩
  obtain ⟨r, co, xs⟩ := f
  simp only [Fi.val, Fi.cells] at O2 ⊢
  have hs2 := Y2.size
  obtain ⟨X, hX⟩ : ∃ X, X = w2.alloc (.cells #[.int .i64 r, .int .i64 co, .slice A2 n2 c2] 26) := ⟨_, rfl⟩
  have BX : Below w2.heap.size w2 X := by rw [hX]; exact (Below.refl _ _).alloc (Nat.le_refl _) _
  have hsX : X.heap.size = w2.heap.size + 1 := by rw [hX]; simp
  have KF : Hid (Blk X w2.heap.size 26 #[.int .i64 r, .int .i64 co, .slice A2 n2 c2]) := Lib.hid (by rw [hX]; exact Blk.new _ _ _)
  have K2 := Lib.hid ((K1.out.only' Y2 (by omega)).below BX (by have := K1.out.lt; omega))
  have O2' := Lib.hid (O2.below BX (Nat.le_refl _))
  have S2' := Lib.hid (S2.below BX S2.lt)
  have T2 := Lib.hid ((T1.out.trans (Y2.below (B := w.heap.size) (by omega) (by omega))).trans (BX.mono (by omega)))
  have HX := Lib.hid hX
  clear hX BX O2 S2 Y2 K1 T1 S1'
  go_wp2_with fail
  rw [← HX.out]
  refine (l06DrawGusts_c (w.heap.size + 1) _ X S2'.out (by omega)).mono ?_
  rintro e w3 ⟨D, m, d, ys, rfl, O3, hm, S3, Y3⟩
  have hs3 := Y3.size
  have KF3 := Lib.hid (KF.out.only' Y3 (by omega))
  have K3 := Lib.hid (K2.out.only' Y3 (by omega))
  have O23 := Lib.hid (O2'.out.only Y3 (by omega))
  have O33 := Lib.hid O3
  have S3' := Lib.hid S3
  have T3 := Lib.hid (T2.out.trans (Y3.below (B := w.heap.size) (by omega) (by omega)))
  clear O3 S3 Y3 KF K2 O2' S2' T2
  have b0 : w3.drew.cell? ⟨w2.heap.size, 0, none⟩ = some (.int .i64 r) := KF3.out.cell 0
  have b1 : w3.drew.cell? ⟨w2.heap.size, 1, none⟩ = some (.int .i64 co) := KF3.out.cell 1
  have b2 : w3.drew.cell? ⟨w2.heap.size, 2, none⟩ = some (.slice A2 n2 c2) := KF3.out.cell 2
  go_upto_region 4 with (fail)
  go_region_law (go_simp; go_at_call 61; refine (l06DrawShare_c (w.heap.size + 1) _ w3.drew S3'.out (by omega)).mono ?_; rintro e w4 ⟨sh, rfl, _, _, S4, Y4⟩; have Y4' : Only (w.heap.size + 1) (w.heap.size + 1 + 1) w3 w4 := ⟨Y4.os, Y4.tape, Y4.output, Y4.size, Y4.block⟩; have KF4 : Blk w4 w2.heap.size 26 #[.int .i64 r, .int .i64 co, .slice A2 n2 c2] := KF3.out.only' Y4' (by omega); have K4 : Blk w4 w.heap.size 26 #[.int .i64 0, .int .i64 0, .slice none 0 0] := K3.out.only' Y4' (by omega); have p0 : w4.cell? ⟨w2.heap.size, 0, none⟩ = some (.int .i64 r) := KF4.cell 0; have p1 : w4.cell? ⟨w2.heap.size, 1, none⟩ = some (.int .i64 co) := KF4.cell 1; have p2 : w4.cell? ⟨w2.heap.size, 2, none⟩ = some (.slice A2 n2 c2) := KF4.cell 2; have z0 : w4.cell? ⟨w.heap.size, 0, none⟩ = some (.int .i64 0) := K4.cell 0; have z1 : w4.cell? ⟨w.heap.size, 1, none⟩ = some (.int .i64 0) := K4.cell 1; have z2 : w4.cell? ⟨w.heap.size, 2, none⟩ = some (.slice none 0 0) := K4.cell 2; have s0 := K4.frozen 0; have s1 := K4.frozen 1; have s2 := K4.frozen 2)
  all_goals
    have hs4 := Y4'.size
    have O24 := Lib.hid (O23.out.only Y4' (by omega))
    have O34 := Lib.hid (O33.out.only Y4' (by omega))
    have T4 := Lib.hid (T3.out.trans (Y4'.below (B := w.heap.size) (by omega) (by omega)))
    clear Y4 Y4' S4 KF4 K4
    go_wp2
    refine bodyPost_ret (v := .tuple #[.agg #[.int .i64 r, .int .i64 co, .slice A2 n2 c2], .slice D m d, .int .i64 sh]) (by simp [results, Try.results32, go_sem, z0, z1, z2]) rfl ?_
    exact ⟨⟨r, co, xs⟩, A2, n2, c2, D, m, d, ys, sh, rfl, (set3_own O24.out (.inl (by omega)) _ _ _).widen (by omega) (by simp; omega), (set3_own O34.out (.inl (by omega)) _ _ _).widen (by omega) (by simp; omega), hn2, hm, set3_below T4.out (Nat.le_refl _) _ _ _⟩
def DrawWindPost (w : World) (e : Ending) (w' : World) : Prop :=
  ∃ (f : Fi) (A : Option Addr) (n c : Nat) (sh cell : Int), e = .returned (.tuple #[f.val A n c, .int .i64 sh, .int .i64 cell]) ∧
    Own w' w.heap.size w'.heap.size 2 1 (.slice A n c) n (ints f.hs) ∧ n ≤ 100 ∧ -1 ≤ cell ∧ cell ≤ 101 ∧ Below w.heap.size w w'
set_option maxHeartbeats 8000000 in
theorem DrawWorstWind_c (A : Option Addr) (n c : Nat) (zs : List Int) (w : World) (ha : Bytes w w.heap.size A n zs) (hn : n ≤ 1152921504606846976) :
    Calls Try.prog 37 #[.slice A n c] w (DrawWindPost w) := by
  have HA := Lib.hid ha; clear ha
  have HX : Hid (Blk (w.alloc (.cells #[.int .i64 0, .int .i64 0, .slice none 0 0] 26)) w.heap.size 26 #[.int .i64 0, .int .i64 0, .slice none 0 0]) := Lib.hid (Blk.new _ _ _)
  have HT0 := Lib.hid ((Below.refl w.heap.size w).alloc (Nat.le_refl _) (.cells #[.int .i64 0, .int .i64 0, .slice none 0 0] 26))
  go_enter Try.func37, Try.ntmps37
  go_wp2_with fail
  refine (l00From_c A n c zs _ ((HA.out.below HT0.out).more (by simp)) hn).mono ?_
  rintro e w1 ⟨rfl, S1, B1, hs1⟩
  have hs1' : w1.heap.size = w.heap.size + 1 + 1 := by first | exact hs1 | (simp at hs1; omega)
  have S1' := Lib.hid S1
  have K1 := Lib.hid (HX.out.below B1 (by simp))
  have T1 := Lib.hid (HT0.out.trans (B1.mono (by simp)))
  clear S1 B1 hs1 HX HT0
  go_wp2_with fail
  refine (l06Draw_c (w.heap.size + 1) 0 w1 (by first | exact S1'.out | (have h := S1'.out; simp at h; exact h)) (by omega)).mono ?_
  rintro e w2 ⟨f, A2, n2, c2, rfl, O2, hn1, hn2, _, _, S2, Y2⟩
  obtain ⟨r, co, xs⟩ := f
  simp only [Fi.val, Fi.cells] at O2 ⊢
  have hs2 := Y2.size
  obtain ⟨X, hX⟩ : ∃ X, X = w2.alloc (.cells #[.int .i64 r, .int .i64 co, .slice A2 n2 c2] 26) := ⟨_, rfl⟩
  have BX : Below w2.heap.size w2 X := by rw [hX]; exact (Below.refl _ _).alloc (Nat.le_refl _) _
  have hsX : X.heap.size = w2.heap.size + 1 := by rw [hX]; simp
  have KF : Hid (Blk X w2.heap.size 26 #[.int .i64 r, .int .i64 co, .slice A2 n2 c2]) := Lib.hid (by rw [hX]; exact Blk.new _ _ _)
  have K2 := Lib.hid ((K1.out.only' Y2 (by omega)).below BX (by have := K1.out.lt; omega))
  have O2' := Lib.hid (O2.below BX (Nat.le_refl _))
  have S2' := Lib.hid (S2.below BX S2.lt)
  have T2 := Lib.hid ((T1.out.trans (Y2.below (B := w.heap.size) (by omega) (by omega))).trans (BX.mono (by omega)))
  have HX := Lib.hid hX
  clear hX BX O2 S2 Y2 K1 T1 S1'
  go_wp2_with fail
  rw [← HX.out]
  refine (l06DrawShare_c (w.heap.size + 1) _ X S2'.out (by omega)).mono ?_
  rintro e w3 ⟨sh, rfl, _, _, S3, Y3⟩
  have hs3 := Y3.size
  have KF3 := Lib.hid (KF.out.only' Y3 (by omega))
  have K3 := Lib.hid (K2.out.only' Y3 (by omega))
  have O23 := Lib.hid (O2'.out.only Y3 (by omega))
  have S3' := Lib.hid S3
  have T3 := Lib.hid (T2.out.trans (Y3.below (B := w.heap.size) (by omega) (by omega)))
  clear S3 Y3 KF K2 O2' S2' T2
  have b0 : w3.drew.cell? ⟨w2.heap.size, 0, none⟩ = some (.int .i64 r) := KF3.out.cell 0
  have b1 : w3.drew.cell? ⟨w2.heap.size, 1, none⟩ = some (.int .i64 co) := KF3.out.cell 1
  have b2 : w3.drew.cell? ⟨w2.heap.size, 2, none⟩ = some (.slice A2 n2 c2) := KF3.out.cell 2
  have e1 : IntKind.i64.wrap ((n2 : Int) + 2) = (n2 : Int) + 2 := IntWalk.i64_in _ (by omega)
  go_upto_region 4 with (fail)
  go_region_law (go_simp; go_at_call 64; refine (pick_c (w.heap.size + 1) _ ((n2 : Int) + 2) w3.drew S3'.out (by omega) (by omega)).mono ?_; rintro e w4 ⟨cl, rfl, q0, q1, S4, Y4⟩; have e2 : IntKind.i64.wrap (cl - 1) = cl - 1 := IntWalk.i64_in _ (by omega); have Y4' : Only (w.heap.size + 1) (w.heap.size + 1 + 1) w3 w4 := ⟨Y4.os, Y4.tape, Y4.output, Y4.size, Y4.block⟩; have KF4 : Blk w4 w2.heap.size 26 #[.int .i64 r, .int .i64 co, .slice A2 n2 c2] := KF3.out.only' Y4' (by omega); have K4 : Blk w4 w.heap.size 26 #[.int .i64 0, .int .i64 0, .slice none 0 0] := K3.out.only' Y4' (by omega); have p0 : w4.cell? ⟨w2.heap.size, 0, none⟩ = some (.int .i64 r) := KF4.cell 0; have p1 : w4.cell? ⟨w2.heap.size, 1, none⟩ = some (.int .i64 co) := KF4.cell 1; have p2 : w4.cell? ⟨w2.heap.size, 2, none⟩ = some (.slice A2 n2 c2) := KF4.cell 2; have z0 : w4.cell? ⟨w.heap.size, 0, none⟩ = some (.int .i64 0) := K4.cell 0; have z1 : w4.cell? ⟨w.heap.size, 1, none⟩ = some (.int .i64 0) := K4.cell 1; have z2 : w4.cell? ⟨w.heap.size, 2, none⟩ = some (.slice none 0 0) := K4.cell 2; have s0 := K4.frozen 0; have s1 := K4.frozen 1; have s2 := K4.frozen 2)
  all_goals
    have hs4 := Y4'.size
    have O24 := Lib.hid (O23.out.only Y4' (by omega))
    have T4 := Lib.hid (T3.out.trans (Y4'.below (B := w.heap.size) (by omega) (by omega)))
    clear Y4 Y4' S4 KF4 K4
    go_wp2
    refine bodyPost_ret (v := .tuple #[.agg #[.int .i64 r, .int .i64 co, .slice A2 n2 c2], .int .i64 sh, .int .i64 (cl - 1)]) (by simp [results, Try.results37, go_sem, z0, z1, z2]) rfl ?_
    exact ⟨⟨r, co, xs⟩, A2, n2, c2, sh, cl - 1, rfl, (set3_own O24.out (.inl (by omega)) _ _ _).widen (by omega) (by simp; omega), hn2, by omega, by omega, set3_below T4.out (Nat.le_refl _) _ _ _⟩
end Go.Proofs.Ytndnjabalofcnaa
