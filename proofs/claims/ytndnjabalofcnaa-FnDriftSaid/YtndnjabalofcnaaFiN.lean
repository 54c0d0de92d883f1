/- Fields, directions and shares, as the reference draws them. -/
import Derived.Test.YtndnjabalofcnaaFiM
import Derived.Test.YtndnjabalofcnaaSrc2
import Derived.Deep.RegionLaw
namespace Go.Proofs.Ytndnjabalofcnaa
open Go.ChangeShapes Go.WideShapes Go.ChangeAt Go.RowKit
set_option linter.unusedVariables false

/-- the state between two choices: the source, the field's box, its row above the box, what has turned -/
structure DFi (w W : World) (g M fb : Nat) (r co : Int) (v : Value) (n : Nat) (xs : List Int) : Prop where
  src : Src W g M
  blk : Blk W fb 26 #[.int .i64 r, .int .i64 co, v]
  only : Only g (g + 1) w W
  zero : Blk W w.heap.size 26 #[.int .i64 0, .int .i64 0, .slice none 0 0]
  own : W.ownsRow (fb + 1) 2 1 v n (ints xs)
  hfb : w.heap.size < fb
  hg : g < w.heap.size
theorem owns_keep {w w' : World} {lo lo' hi' s n : Nat} {T : TypeId} {v : Value} {xs : List Value} (h : w.ownsRow lo T s v n xs) (ho : Only lo' hi' w w') (hd : hi' ≤ lo) : w'.ownsRow lo T s v n xs :=
  ((Own.of_owns h (Nat.le_refl _)).only ho (.inr hd)).1
theorem owns_set {w : World} {lo s n : Nat} {T : TypeId} {v : Value} {xs : List Value} (h : w.ownsRow lo T s v n xs) {p : Addr} (hp : p.block < lo) (u : Value) : (w.setCell p u).ownsRow lo T s v n xs :=
  ((Own.of_owns h (Nat.le_refl _)).setOut hp u).1
theorem DFi.turn {w W W' : World} {g M M' fb : Nat} {r co : Int} {v : Value} {n : Nat} {xs : List Int} (h : DFi w W g M fb r co v n xs) (hs : Src W' g M') (ho : Only g (g + 1) W W') : DFi w W' g M' fb r co v n xs :=
  ⟨hs, h.blk.only' ho (by have := h.hfb; have := h.hg; omega), h.only.trans ho, h.zero.only' ho (by have := h.hg; omega), owns_keep h.own ho (by have := h.hfb; have := h.hg; omega), h.hfb, h.hg⟩
theorem DFi.alloc {w W : World} {g M fb : Nat} {r co : Int} {v : Value} {n : Nat} {xs : List Int} (h : DFi w W g M fb r co v n xs) (o : Obj) : DFi w (W.alloc o) g M fb r co v n xs :=
  ⟨h.src.alloc o, h.blk.alloc o, h.only.alloc' o, h.zero.alloc o, owns_al h.own o, h.hfb, h.hg⟩
/-- the box is stored into -/
theorem DFi.box {w W : World} {g M fb : Nat} {r co : Int} {v v' : Value} {n n' : Nat} {xs xs' : List Int} (h : DFi w W g M fb r co v n xs) (hb : W.ownsRow (fb + 1) 2 1 v' n' (ints xs')) : DFi w (W.setCell ⟨fb, 2, none⟩ v') g M fb r co v' n' xs' :=
  ⟨h.src.set (by show g < fb; have := h.hfb; have := h.hg; omega) _, by simpa using h.blk.set_ 2 v', h.only.setNew (by show w.heap.size ≤ fb; have := h.hfb; omega) _, h.zero.far (by show w.heap.size ≠ fb; have := h.hfb; omega) _, owns_set hb (by show fb < fb + 1; omega) _, h.hfb, h.hg⟩
/-- a step that leaves all below the rows' own blocks as it was -/
theorem DFi.grown {w W W' : World} {g M fb : Nat} {r co : Int} {v v' : Value} {n n' : Nat} {xs xs' : List Int} (h : DFi w W g M fb r co v n xs) (hb : Below (fb + 1) W W') (ho : W'.ownsRow (fb + 1) 2 1 v' n' (ints xs')) : DFi w (W'.setCell ⟨fb, 2, none⟩ v') g M fb r co v' n' xs' := by
  have h1 := h.hfb; have h2 := h.hg
  have k : Blk W' fb 26 #[.int .i64 r, .int .i64 co, v] := h.blk.below hb (by omega)
  have hs := h.only.size
  exact ⟨(h.src.below hb (by omega)).set (by show g < fb; omega) _, by simpa using k.set_ 2 v', (⟨hb.os.trans h.only.os, hb.tape.trans h.only.tape, hb.output.trans h.only.output, Nat.le_trans hs hb.size, fun j hj hc => (hb.block j (by omega)).trans (h.only.block j hj hc)⟩ : Only g (g + 1) w W').setNew (by show w.heap.size ≤ fb; omega) _, (h.zero.below hb (by omega)).far (by show w.heap.size ≠ fb; omega) _, owns_set ho (by show fb < fb + 1; omega) _, h1, h2⟩
def DrawFiPost (K : Int) (w : World) (g M : Nat) (e : Ending) (w' : World) : Prop :=
  ∃ (f : Fi) (A : Option Addr) (n c : Nat), e = .returned (f.val A n c) ∧ Own w' w.heap.size w'.heap.size 2 1 (.slice A n c) n (ints f.hs) ∧ 1 ≤ n ∧ n ≤ 100 ∧ -K ≤ f.rows ∧ f.rows ≤ K ∧ Src w' g M ∧ Only g (g + 1) w w'
theorem DFi.done {w W : World} {g M M' fb : Nat} {r co : Int} {A : Option Addr} {n c : Nat} {xs : List Int} {e : Ending} (h : DFi w W g M fb r co (.slice A n c) n xs) (hM : M ≤ M') (h1 : 1 ≤ n) (h2 : n ≤ 100) {K : Int} (h3 : -K ≤ r ∧ r ≤ K)
    (he : e = .returned (.agg #[.int .i64 r, .int .i64 co, .slice A n c])) : DrawFiPost K w g M' e (((W.setCell ⟨w.heap.size, 0, none⟩ (.int .i64 r)).setCell ⟨w.heap.size, 1, none⟩ (.int .i64 co)).setCell ⟨w.heap.size, 2, none⟩ (.slice A n c)) := by
  have hb := h.hfb
  have hg := h.hg
  refine ⟨⟨r, co, xs⟩, A, n, c, he, ?_, h1, h2, h3.1, h3.2, (((h.src.set (p := ⟨w.heap.size, 0, none⟩) hg _).set (p := ⟨w.heap.size, 1, none⟩) hg _).set (p := ⟨w.heap.size, 2, none⟩) hg _).more hM,
    ((h.only.setNew (p := ⟨w.heap.size, 0, none⟩) (Nat.le_refl _) _).setNew (p := ⟨w.heap.size, 1, none⟩) (Nat.le_refl _) _).setNew (p := ⟨w.heap.size, 2, none⟩) (Nat.le_refl _) _⟩
  have h4 : w.heap.size < fb + 1 := by omega
  exact (Own.of_owns (owns_set (owns_set (owns_set h.own (p := ⟨w.heap.size, 0, none⟩) h4 _) (p := ⟨w.heap.size, 1, none⟩) h4 _) (p := ⟨w.heap.size, 2, none⟩) h4 _) (Nat.le_refl _)).widen (by omega) (Nat.le_refl _)
set_option maxHeartbeats 8000000 in
theorem l06DrawOk_c (g M : Nat) (w : World) (h : Src w g M) (hM : M ≤ 100000000000000000) :
    Calls Try.prog 73 #[.pointer (some ⟨g, 0, none⟩)] w (DrawFiPost 1000 w g (M + 36)) := by
  have HS := Lib.hid h
  have hgl := h.lt
  clear h
  go_enter Try.func73, Try.ntmps73
  go_wp2_with fail
  refine (pick_c g M 4 _ (HS.out.alloc _) (by omega) (by omega)).mono ?_
  rintro e w1 ⟨v1, rfl, a1, b1, S1, Y1⟩
  have S1' := Lib.hid S1
  have Y1' := Lib.hid Y1
  clear S1 Y1
  go_wp2_with fail
  refine (pick_c g (M + 2) 4 _ S1'.out (by omega) (by omega)).mono ?_
  rintro e w2 ⟨v2, rfl, a2, b2, S2, Y2⟩
  obtain ⟨r, hr⟩ : ∃ r : Int, r = 1 + v1 := ⟨_, rfl⟩
  obtain ⟨co, hco⟩ : ∃ r : Int, r = 1 + v2 := ⟨_, rfl⟩
  have hsz : w.heap.size < w2.heap.size := by have h1 := Y1'.out.size; have h2 := Y2.size; simp at h1; omega
  have D0 : Hid (DFi w (w2.alloc (.cells #[.int .i64 r, .int .i64 co, .slice none 0 0] 26)) g (M + 4) w2.heap.size r co (.slice none 0 0) 0 []) := Lib.hid
    ⟨S2.alloc _, Blk.new _ _ _, (((Only.refl g (g + 1) w).alloc' _).trans (Y1'.out.trans Y2)).alloc' _, (((Blk.new _ _ _).only' Y1'.out (.inr (by omega))).only' Y2 (.inr (by omega))).alloc _, World.ownsRow_nil _ _ _ _, hsz, hgl⟩
  clear S2 Y2 S1' Y1'
  have hrb : 1 ≤ r ∧ r ≤ 4 := by omega
  have hcb : 1 ≤ co ∧ co ≤ 4 := by omega
  have HR := Lib.hid hr
  have HC := Lib.hid hco
  clear hr hco
  obtain ⟨m1, m2⟩ := mul_bd (a := r) (b := co) (A := 4) (B := 4) (by omega) (by omega) (by omega) (by omega)
  have m3 : 1 * 1 ≤ r * co := Int.mul_le_mul (by omega) (by omega) (by omega) (by omega)
  obtain ⟨N, hN⟩ : ∃ N : Nat, r * co = N := ⟨(r * co).toNat, by omega⟩
  obtain ⟨fb, hfb⟩ : ∃ fb, fb = w2.heap.size := ⟨_, rfl⟩
  have HFB := Lib.hid hfb
  rw [← hfb] at D0 hsz
  have HN := Lib.hid hN
  have hN1 : 1 ≤ N := by omega
  have hN2 : N ≤ 16 := by omega
  clear hfb hN m1 m2 m3
  go_upto_region 2 with (fail)
  rw [← HR.out, ← HC.out, ← HFB.out]
  generalize hX : w2.alloc (.cells #[.int .i64 r, .int .i64 co, .slice none 0 0] 26) = X at *
  clear hX a1 b1 a2 b2
  go_wp2
  go_loopw [4] (fun i wr => ∃ (k : Nat) (v : Value) (xs : List Int), k ≤ N ∧ i = .int .i64 k ∧ Hid (DFi w wr g (M + 4 + 2 * k) fb r co v k xs)) (fun i _ => N - (intOf i).toNat)
  case atStart => exact ⟨0, _, [], Nat.zero_le _, rfl, D0⟩
  case round =>
    clear D0
    obtain ⟨k, v, xs, hk, rfl, HD⟩ := hrel
    have c0 : wr.cell? ⟨fb, 0, none⟩ = some (.int .i64 r) := HD.out.blk.cell 0
    have c1 : wr.cell? ⟨fb, 1, none⟩ = some (.int .i64 co) := HD.out.blk.cell 1
    have c2 : wr.cell? ⟨fb, 2, none⟩ = some v := HD.out.blk.cell 2
    have e1 : IntKind.i64.wrap (r * co) = N := by rw [HN.out]; exact IntWalk.i64_in _ (by omega)
    by_cases hlt : k < N
    · have f2 := HD.out.blk.frozen 2
      have hB0 := HD.out.blk.lt
      have hlt' : (k : Int) < (N : Int) := by omega
      go_upto_region 5 with (fail)
      clear c0 c1 e1
      go_region_law (first
        | (refine step_app_i64 (by rfl) (.tmp 22) (.tmp 26) (by rfl) (fb + 1) _ k xs (250 * v3) _ (by rfl) (owns_al HOW3 _) (by rfl) ((Blk.new _ _ _).cell 0) (by omega) (by simp; omega) ?_; intro v' w' O4 B4; obtain ⟨A', c', hv', hnc, _⟩ := (Own.of_owns O4 (Nat.le_refl _)).slice; subst hv'; have KB4 : Blk w' fb 26 #[.int .i64 r, .int .i64 co, v] := (KB3.alloc _).below B4 (by omega); have c4 : w'.cell? ⟨fb, 2, none⟩ = some v := KB4.cell 2; have f4 := KB4.frozen 2)
        | (go_simp; go_at_call 64; refine (pick_c g (M + 4 + 2 * k) 80 wr.drew HD.out.src (by omega) (by omega)).mono ?_; rintro e w3 ⟨v3, rfl, a3, b3, S3, Y3⟩; have hs3 : wr.heap.size ≤ w3.heap.size := Y3.size; have e3 : IntKind.i64.wrap (250 * v3) = 250 * v3 := IntWalk.i64_in _ (by omega); have HOW3 : w3.ownsRow (fb + 1) 2 1 v k (ints xs) := owns_keep (w := wr.drew) HD.out.own Y3 (by have := HD.out.hfb; have := HD.out.hg; omega); have KB3 : Blk w3 fb 26 #[.int .i64 r, .int .i64 co, v] := Blk.only' (w := wr.drew) HD.out.blk Y3 (by have := HD.out.hfb; have := HD.out.hg; omega); have c3 : w3.cell? ⟨fb, 2, none⟩ = some v := KB3.cell 2; have c3a : ∀ o, (w3.alloc o).cell? ⟨fb, 2, none⟩ = some v := fun o => (KB3.alloc o).cell 2))
      all_goals
        have HDN : Hid (DFi w (w'.setCell ⟨fb, 2, none⟩ (.slice A' (k + 1) c')) g (M + 4 + 2 * (k + 1)) fb r co (.slice A' (k + 1) c') (k + 1) (xs ++ [250 * v3])) := Lib.hid (((HD.out.turn (M' := M + 4 + 2 * (k + 1)) (W' := w3) S3 ⟨Y3.os, Y3.tape, Y3.output, Y3.size, Y3.block⟩).alloc _).grown B4 O4)
        clear O4 B4 KB4 c4 f4 S3 Y3 HOW3 KB3 c3 c3a e3
        go_wp2
        go_roundw
        case rel => exact ⟨k + 1, _, _, by omega, by go_num, HDN⟩
        case measure => simp [intOf]; omega
    · obtain rfl : k = N := by omega
      obtain ⟨A', c', hv', hnc, _⟩ := (Own.of_owns HD.out.own (Nat.le_refl _)).slice
      subst hv'
      have z0 : wr.cell? ⟨w.heap.size, 0, none⟩ = some (.int .i64 0) := HD.out.zero.cell 0
      have z1 : wr.cell? ⟨w.heap.size, 1, none⟩ = some (.int .i64 0) := HD.out.zero.cell 1
      have z2 : wr.cell? ⟨w.heap.size, 2, none⟩ = some (.slice none 0 0) := HD.out.zero.cell 2
      have s0 := HD.out.zero.frozen 0
      have s1 := HD.out.zero.frozen 1
      have s2 := HD.out.zero.frozen 2
      go_wp2
      refine bodyPost_ret (v := .agg #[.int .i64 r, .int .i64 co, .slice A' k c']) (by simp [results, Try.results73, go_sem, z0, z1, z2]) rfl ?_
      exact HD.out.done (by omega) (by omega) (by omega) (by omega) rfl
/-- the same, with the row in blocks lo..hi, the box outside them -/
structure DF2 (w W : World) (g M fb lo hi : Nat) (r co : Int) (v : Value) (n : Nat) (xs : List Int) : Prop where
  src : Src W g M
  blk : Blk W fb 26 #[.int .i64 r, .int .i64 co, v]
  only : Only g (g + 1) w W
  zero : Blk W w.heap.size 26 #[.int .i64 0, .int .i64 0, .slice none 0 0]
  own : Own W lo hi 2 1 v n (ints xs)
  hlo : w.heap.size < lo
  hhi : hi ≤ W.heap.size
  hfl : fb < lo ∨ hi ≤ fb
  hfb : w.heap.size < fb
  hg : g < w.heap.size
section
variable {w W W' : World} {g M M' fb lo hi : Nat} {r co r' co' : Int} {v v' : Value} {n n' : Nat} {xs xs' : List Int}
theorem DF2.turn (h : DF2 w W g M fb lo hi r co v n xs) (hs : Src W' g M') (ho : Only g (g + 1) W W') : DF2 w W' g M' fb lo hi r co v n xs := by
  have h1 := h.hfb; have h2 := h.hg; have h3 := h.hlo
  exact ⟨hs, h.blk.only' ho (by omega), h.only.trans ho, h.zero.only' ho (by omega), h.own.only ho (by omega), h3, Nat.le_trans h.hhi ho.size, h.hfl, h1, h2⟩
theorem DF2.alloc (h : DF2 w W g M fb lo hi r co v n xs) (o : Obj) : DF2 w (W.alloc o) g M fb lo hi r co v n xs :=
  ⟨h.src.alloc o, h.blk.alloc o, h.only.alloc' o, h.zero.alloc o, h.own.below ((Below.refl _ _).alloc (Nat.le_refl _) o) h.hhi, h.hlo, by have := h.hhi; simp; omega, h.hfl, h.hfb, h.hg⟩
theorem DF2.set0 (h : DF2 w W g M fb lo hi r co v n xs) : DF2 w (W.setCell ⟨fb, 0, none⟩ (.int .i64 r')) g M fb lo hi r' co v n xs := by
  have h1 := h.hfb; have h2 := h.hg
  exact ⟨h.src.set (by show g < fb; omega) _, by simpa using h.blk.set_ 0 (.int .i64 r'), h.only.setNew (by show w.heap.size ≤ fb; omega) _, h.zero.far (by show w.heap.size ≠ fb; omega) _, h.own.setFar (by show fb < lo ∨ hi ≤ fb; exact h.hfl) _, h.hlo, by simpa using h.hhi, h.hfl, h1, h2⟩
theorem DF2.put {gb c : Nat} (h : DF2 w W g M fb lo hi r co (.slice (some ⟨gb, 0, none⟩) n c) n xs) (hn : 0 < n) (j : Nat) (z : Int) : DF2 w (W.setCell ⟨gb, j, none⟩ (.int .i64 z)) g M fb lo hi r co (.slice (some ⟨gb, 0, none⟩) n c) n (xs.set j z) := by
  have h1 := h.hfb; have h2 := h.hg; have h3 := h.hlo; have h4 := h.hfl
  obtain ⟨g', e, k1, k2, _⟩ := h.own.at_ hn
  have e' : gb = g' := by injection e with e; injection e
  subst e'
  refine ⟨h.src.set (by show g < gb; omega) _, h.blk.far (by show fb ≠ gb; omega) _, h.only.setNew (by show w.heap.size ≤ gb; omega) _, h.zero.far (by show w.heap.size ≠ gb; omega) _, ?_, h3, by simpa using h.hhi, h4, h1, h2⟩
  have hs := (h.own.stored (j := j) (.int .i64 z)).1
  rwa [show (ints xs).set j (.int .i64 z) = ints (xs.set j z) from by simp [ints, List.map_set]] at hs
theorem DF2.fresh {lo' hi' : Nat} (h : DF2 w W g M fb lo hi r co v n xs) (ho : Own W lo' hi' 2 1 v' n' (ints xs')) (hl : fb < lo') (hh : hi' ≤ W.heap.size) :
    DF2 w (((W.setCell ⟨fb, 0, none⟩ (.int .i64 r')).setCell ⟨fb, 1, none⟩ (.int .i64 co')).setCell ⟨fb, 2, none⟩ v') g M fb lo' hi' r' co' v' n' xs' := by
  have h1 := h.hfb; have h2 := h.hg
  have h3 : g < fb := by omega
  have h4 : w.heap.size ≤ fb := by omega
  have h5 : w.heap.size ≠ fb := by omega
  exact ⟨((h.src.set (p := ⟨fb, 0, none⟩) h3 _).set (p := ⟨fb, 1, none⟩) h3 _).set (p := ⟨fb, 2, none⟩) h3 _, set3_blk h.blk _ _ _,
    ((h.only.setNew (p := ⟨fb, 0, none⟩) h4 _).setNew (p := ⟨fb, 1, none⟩) h4 _).setNew (p := ⟨fb, 2, none⟩) h4 _, set3_far h.zero h5 _ _ _,
    set3_own ho (.inl hl) _ _ _, by omega, by simpa using hh, .inl hl, h1, h2⟩
theorem DF2.done {A : Option Addr} {c : Nat} {e : Ending} (h : DF2 w W g M fb lo hi r co (.slice A n c) n xs) (hM : M ≤ M') (h1 : 1 ≤ n) (h2 : n ≤ 100) {K : Int} (h3 : -K ≤ r ∧ r ≤ K)
    (he : e = .returned (.agg #[.int .i64 r, .int .i64 co, .slice A n c])) : DrawFiPost K w g M' e (((W.setCell ⟨w.heap.size, 0, none⟩ (.int .i64 r)).setCell ⟨w.heap.size, 1, none⟩ (.int .i64 co)).setCell ⟨w.heap.size, 2, none⟩ (.slice A n c)) := by
  have hg := h.hg
  have hl := h.hlo
  have hh := h.hhi
  refine ⟨⟨r, co, xs⟩, A, n, c, he, ?_, h1, h2, h3.1, h3.2, (((h.src.set (p := ⟨w.heap.size, 0, none⟩) hg _).set (p := ⟨w.heap.size, 1, none⟩) hg _).set (p := ⟨w.heap.size, 2, none⟩) hg _).more hM,
    ((h.only.setNew (p := ⟨w.heap.size, 0, none⟩) (Nat.le_refl _) _).setNew (p := ⟨w.heap.size, 1, none⟩) (Nat.le_refl _) _).setNew (p := ⟨w.heap.size, 2, none⟩) (Nat.le_refl _) _⟩
  exact (set3_own h.own (.inl hl) _ _ _).widen (by omega) (by simpa using hh)
end
def DrawIntPost (w : World) (g M : Nat) (e : Ending) (w' : World) : Prop := ∃ v : Int, e = .returned (.int .i64 v) ∧ -1 ≤ v ∧ v ≤ 1001 ∧ Src w' g M ∧ Only g (g + 1) w w'
theorem l06DrawShare_c (g M : Nat) (w : World) (h : Src w g M) (hM : M ≤ 100000000000000000) :
    Calls Try.prog 61 #[.pointer (some ⟨g, 0, none⟩)] w (DrawIntPost w g (M + 2)) := by
  have HS := Lib.hid h
  have hgl := h.lt
  clear h
  go_enter Try.func61, Try.ntmps61
  go_wp2_with fail
  refine (among_c g w.heap.size M 8 [0, 100, 300, 500, 1000, 1001, -1, 250] _ (HS.out.alloc _) (Blk.new _ _ _) (by omega) rfl (by omega) (by omega) (by omega)).mono ?_
  rintro e w1 ⟨v, rfl, m, S1, Y1⟩
  have S1' := Lib.hid S1
  have Y1' := Lib.hid Y1
  clear S1 Y1
  have hv : -1 ≤ v ∧ v ≤ 1001 := by simp at m; omega
  clear m
  go_wp2
  go_ret
  exact ⟨v, rfl, hv.1, hv.2, S1'.out, ((Only.refl g (g + 1) w).alloc' _).trans Y1'.out⟩
theorem make_i64 (n : Nat) (hn : n ≤ 1048576) (W : World) : (Instr.makeSlice 22 (.int .i64 (n : Int)) (.int .i64 (n : Int))).run Try.prog W = .ok (.slice (some ⟨W.heap.size, 0, none⟩) n n) (W.alloc (.cells (madeCells #[.int .i64 0] n) 2)) := by
  obtain ⟨i0, hi, hz, hs, hb⟩ := info_parts info_i64
  have h := run_make_rowN (P := Try.prog) 22 2 i0 _ Try.underlying22 hi hz .i64 .i64 n n (Nat.le_refl _) (by rw [hb]; omega) (by omega) W
  rw [hs, Nat.mul_one] at h
  exact h
theorem made_own (n : Nat) (hn : n ≤ 1048576) (W : World) : Own (W.alloc (.cells (madeCells #[.int .i64 0] n) 2)) W.heap.size (W.heap.size + 1) 2 1 (.slice (some ⟨W.heap.size, 0, none⟩) n n) n (ints (List.replicate n 0)) := by
  have h := Own.of_blk (lo := W.heap.size) (hi := W.heap.size + 1) (n := n) (s := 1) (Blk.new W 2 (madeCells #[.int .i64 0] n)) (by have := congrArg List.length (toList_madeCells_one (.int .i64 0) n); simpa using this) (Nat.le_refl _) (by omega) (by simp [maxLen]; omega)
  rw [toList_madeCells_one] at h
  simpa [ints] using h
theorem DF2.remake {w W : World} {g M fb lo hi : Nat} {r co : Int} {v : Value} {n : Nat} {xs : List Int} (h : DF2 w W g M fb lo hi r co v n xs) (r' co' : Int) (k : Nat) (hk : k ≤ 1048576) :
    DF2 w ((((W.setCell ⟨fb, 0, none⟩ (.int .i64 r')).setCell ⟨fb, 1, none⟩ (.int .i64 co')).setCell ⟨fb, 2, none⟩ (.slice (some ⟨W.heap.size, 0, none⟩) k k)).alloc (.cells (madeCells #[.int .i64 0] k) 2))
      g M fb W.heap.size (W.heap.size + 1) r' co' (.slice (some ⟨W.heap.size, 0, none⟩) k k) k (List.replicate k 0) := by
  have h1 := h.hfb; have h2 := h.hg; have hl := h.blk.lt
  have h3 : g < fb := by omega
  have h4 : w.heap.size ≤ fb := by omega
  have h5 : w.heap.size ≠ fb := by omega
  have hm := made_own k hk (((W.setCell ⟨fb, 0, none⟩ (.int .i64 r')).setCell ⟨fb, 1, none⟩ (.int .i64 co')).setCell ⟨fb, 2, none⟩ (.slice (some ⟨W.heap.size, 0, none⟩) k k))
  have hz : (((W.setCell ⟨fb, 0, none⟩ (.int .i64 r')).setCell ⟨fb, 1, none⟩ (.int .i64 co')).setCell ⟨fb, 2, none⟩ (.slice (some ⟨W.heap.size, 0, none⟩) k k)).heap.size = W.heap.size := by simp
  rw [hz] at hm
  exact ⟨(((h.src.set (p := ⟨fb, 0, none⟩) h3 _).set (p := ⟨fb, 1, none⟩) h3 _).set (p := ⟨fb, 2, none⟩) h3 _).alloc _, (set3_blk h.blk _ _ _).alloc _,
    (((h.only.setNew (p := ⟨fb, 0, none⟩) h4 _).setNew (p := ⟨fb, 1, none⟩) h4 _).setNew (p := ⟨fb, 2, none⟩) h4 _).alloc' _, (set3_far h.zero h5 _ _ _).alloc _,
    hm, by omega, by simp, .inl hl, h1, h2⟩
set_option maxHeartbeats 8000000 in
theorem l06Draw_c (g M : Nat) (w : World) (h : Src w g M) (hM : M ≤ 100000000000000) :
    Calls Try.prog 59 #[.pointer (some ⟨g, 0, none⟩)] w (DrawFiPost 2000 w g (M + 50)) := by
  have HS := Lib.hid h
  have hgl := h.lt
  clear h
  go_enter Try.func59, Try.ntmps59
  go_wp2_with fail
  refine (l06DrawOk_c g M _ (HS.out.alloc _) (by omega)).mono ?_
  rintro e w1 ⟨f, A, n, c, rfl, O1, hn1, hn2, hr1, hr2, S1, Y1⟩
  obtain ⟨r, co, xs⟩ := f
  simp only [Fi.val, Fi.cells] at O1 hr1 hr2 ⊢
  have hsz : w.heap.size < w1.heap.size := by have h1 := Y1.size; simp at h1; omega
  obtain ⟨fb, hfb⟩ : ∃ fb, fb = w1.heap.size := ⟨_, rfl⟩
  obtain ⟨X, hX⟩ : ∃ X, X = w1.alloc (.cells #[.int .i64 r, .int .i64 co, .slice A n c] 26) := ⟨_, rfl⟩
  have D0 : Hid (DF2 w X g (M + 36) fb (w.heap.size + 1) w1.heap.size r co (.slice A n c) n xs) := Lib.hid (by
    rw [hX, hfb]
    exact ⟨S1.alloc _, Blk.new _ _ _, (((Only.refl g (g + 1) w).alloc' _).trans Y1).alloc' _, ((Blk.new _ _ _).only' Y1 (.inr (by omega))).alloc _,
      (O1.below ((Below.refl _ _).alloc (Nat.le_refl _) _) (Nat.le_refl _)).widen (by simp) (Nat.le_refl _), by omega, by simp, .inr (Nat.le_refl _), hsz, hgl⟩)
  obtain ⟨gb, rfl, _, _, _⟩ := O1.at_ (by omega)
  have HX := Lib.hid hX
  have HFB := Lib.hid hfb
  have hhi : w1.heap.size ≤ fb := by omega
  clear O1 S1 Y1 hX hfb
  go_upto_region 2 with (fail)
  rw [← HX.out, ← HFB.out]
  generalize w1.heap.size = hi at *
  clear HX HFB hsz
  go_wp2_with fail
  refine (pick_c g (M + 36) 20 X D0.out.src (by omega) (by omega)).mono ?_
  rintro e w2 ⟨v, rfl, a0, a1, S2, Y2⟩
  have D2 := Lib.hid (D0.out.turn S2 Y2)
  clear S2 Y2 D0
  by_cases h0 : v = 0
  · subst h0
    have c0 : w2.cell? ⟨fb, 0, none⟩ = some (.int .i64 r) := D2.out.blk.cell 0
    go_wp2_with fail
    refine (among_c g w2.heap.size (M + 38) 3 [0, 9, r + 1] _ (D2.out.alloc _).src (Blk.new _ _ _) (by have := D2.out.src.lt; omega) rfl (by omega) (by omega) (by omega)).mono ?_
    rintro e w3 ⟨r', rfl, m, S3, Y3⟩
    have D3 := Lib.hid ((D2.out.alloc _).turn S3 Y3)
    have hr' : -2000 ≤ r' ∧ r' ≤ 2000 := by simp at m; omega
    clear S3 Y3 m c0 D2
    have c0 : w3.cell? ⟨fb, 0, none⟩ = some (.int .i64 r) := D3.out.blk.cell 0
    have f0 := D3.out.blk.frozen 0
    go_upto_region 15 with (fail)
    obtain ⟨W4, hW4⟩ : ∃ W4, W4 = w3.setCell ⟨fb, 0, none⟩ (.int .i64 r') := ⟨_, rfl⟩
    rw [← hW4]
    have D4 : Hid (DF2 w W4 g _ fb _ _ r' co (.slice (some ⟨gb, 0, none⟩) n c) n xs) := Lib.hid (by rw [hW4]; exact D3.out.set0)
    clear c0 f0 hW4 D3
    have y0 : W4.cell? ⟨fb, 0, none⟩ = some (.int .i64 (r')) := D4.out.blk.cell 0
    have y1 : W4.cell? ⟨fb, 1, none⟩ = some (.int .i64 (co)) := D4.out.blk.cell 1
    have y2 : W4.cell? ⟨fb, 2, none⟩ = some (.slice (some ⟨gb, 0, none⟩) n c) := D4.out.blk.cell 2
    have z0 : W4.cell? ⟨w.heap.size, 0, none⟩ = some (.int .i64 0) := D4.out.zero.cell 0
    have z1 : W4.cell? ⟨w.heap.size, 1, none⟩ = some (.int .i64 0) := D4.out.zero.cell 1
    have z2 : W4.cell? ⟨w.heap.size, 2, none⟩ = some (.slice none 0 0) := D4.out.zero.cell 2
    have s0 := D4.out.zero.frozen 0
    have s1 := D4.out.zero.frozen 1
    have s2 := D4.out.zero.frozen 2
    go_wp2
    refine bodyPost_ret (v := .agg #[.int .i64 (r'), .int .i64 (co), .slice (some ⟨gb, 0, none⟩) n c]) (by simp [results, Try.results59, go_sem, z0, z1, z2]) rfl ?_
    exact D4.out.done (by omega) (by omega) (by omega) (by omega) rfl
  · by_cases h1 : v = 1
    · subst h1
      have hB0 : Hid (∀ W, Below (fb + 1) w2 W → (W.cell? ⟨fb, 2, none⟩ = some (.slice (some ⟨gb, 0, none⟩) n c))) := Lib.hid fun W hW => (D2.out.blk.below hW (by omega)).cell 2
      have hfl := D2.out.blk.lt
      have hne : gb ≠ g ∧ fb ≠ g ∧ gb ≠ fb := by
        obtain ⟨g', e, k1, k2, _⟩ := D2.out.own.at_ (by omega)
        have e' : gb = g' := by injection e with e; injection e
        have := D2.out.hlo; have := D2.out.hg; have := D2.out.hfl; have := D2.out.hfb
        omega
      have K2 : ∀ o, Blk (w2.alloc o).drew fb 26 #[.int .i64 r, .int .i64 co, .slice (some ⟨gb, 0, none⟩) n c] := fun o => D2.out.blk.alloc o
      have c2 : w2.drew.cell? ⟨fb, 2, none⟩ = some (.slice (some ⟨gb, 0, none⟩) n c) := D2.out.blk.cell 2
      have c2a : ∀ o, (w2.alloc o).drew.cell? ⟨fb, 2, none⟩ = some (.slice (some ⟨gb, 0, none⟩) n c) := fun o => (K2 o).cell 2
      have hnp : (0 : Int) < (n : Int) := by omega
      have hnp2 : 0 < n := by omega
      go_upto_region 6 with (fail)
      go_region_law (go_simp; go_at_call 74; refine (among_c g w2.heap.size (M + 38) 4 [-1, 0, 1000000, 1000001] (w2.alloc (.cells #[.int .i64 (-1), .int .i64 0, .int .i64 1000000, .int .i64 1000001] 2)).drew (D2.out.alloc _).src (Blk.new w2 _ _) (by have := D2.out.src.lt; omega) rfl (by omega) (by omega) (by omega)).mono ?_; rintro e w3 ⟨z', rfl, mm, S3, Y3⟩; have D3 : Hid (DF2 w w3 g (M + 38 + 2) fb _ _ r co (.slice (some ⟨gb, 0, none⟩) n c) n xs) := Lib.hid ((D2.out.alloc (.cells #[.int .i64 (-1), .int .i64 0, .int .i64 1000000, .int .i64 1000001] 2)).turn S3 ⟨Y3.os, Y3.tape, Y3.output, Y3.size, Y3.block⟩); have c3 : w3.cell? ⟨fb, 2, none⟩ = some (.slice (some ⟨gb, 0, none⟩) n c) := D3.out.blk.cell 2; have a3 : w3.cell? ⟨gb, 0, none⟩ = some (.int .i64 (lAt xs 0)) := D3.out.own.cellI (by omega); have f3 : w3.frozen? ⟨gb, 0, none⟩ = false := D3.out.own.1.frozenAt 0)
      all_goals
        obtain ⟨W4, hW4⟩ : ∃ W4, W4 = w3.setCell ⟨gb, 0, none⟩ (.int .i64 z') := ⟨_, rfl⟩
        try rw [← hW4]
        have D4 : Hid (DF2 w W4 g _ fb _ _ r co (.slice (some ⟨gb, 0, none⟩) n c) n (xs.set 0 z')) := Lib.hid (by rw [hW4]; exact D3.out.put (by omega) 0 z')
        clear hW4 c3 a3 f3 c2 c2a K2 S3 Y3 mm D3 D2
        have y0 : W4.cell? ⟨fb, 0, none⟩ = some (.int .i64 (r)) := D4.out.blk.cell 0
        have y1 : W4.cell? ⟨fb, 1, none⟩ = some (.int .i64 (co)) := D4.out.blk.cell 1
        have y2 : W4.cell? ⟨fb, 2, none⟩ = some (.slice (some ⟨gb, 0, none⟩) n c) := D4.out.blk.cell 2
        have z0 : W4.cell? ⟨w.heap.size, 0, none⟩ = some (.int .i64 0) := D4.out.zero.cell 0
        have z1 : W4.cell? ⟨w.heap.size, 1, none⟩ = some (.int .i64 0) := D4.out.zero.cell 1
        have z2 : W4.cell? ⟨w.heap.size, 2, none⟩ = some (.slice none 0 0) := D4.out.zero.cell 2
        have s0 := D4.out.zero.frozen 0
        have s1 := D4.out.zero.frozen 1
        have s2 := D4.out.zero.frozen 2
        go_wp2
        refine bodyPost_ret (v := .agg #[.int .i64 (r), .int .i64 (co), .slice (some ⟨gb, 0, none⟩) n c]) (by simp [results, Try.results59, go_sem, z0, z1, z2]) rfl ?_
        exact D4.out.done (by omega) (by omega) (by omega) (by omega) rfl
    · by_cases h2 : v = 2
      · subst h2
        go_wp2_with fail
        refine (among_c g w2.heap.size (M + 38) 2 [8, 9] _ (D2.out.alloc _).src (Blk.new _ _ _) (by have := D2.out.src.lt; omega) rfl (by omega) (by omega) (by omega)).mono ?_
        rintro e w3 ⟨r', rfl, m, S3, Y3⟩
        have D3 := Lib.hid ((D2.out.alloc _).turn S3 Y3)
        obtain ⟨k, rfl, hk⟩ : ∃ k : Nat, r' = k ∧ (k = 8 ∨ k = 9) := ⟨r'.toNat, by simp at m; omega, by simp at m; omega⟩
        have hmk := make_i64 (8 * k) (by omega) w3
        have e8 : ((8 * k : Nat) : Int) = 8 * (k : Int) := by omega
        rw [e8] at hmk
        have c0 : w3.cell? ⟨fb, 0, none⟩ = some (.int .i64 r) := D3.out.blk.cell 0
        have c1 : w3.cell? ⟨fb, 1, none⟩ = some (.int .i64 co) := D3.out.blk.cell 1
        have c2 : w3.cell? ⟨fb, 2, none⟩ = some (.slice (some ⟨gb, 0, none⟩) n c) := D3.out.blk.cell 2
        have f0 := D3.out.blk.frozen 0
        have f1 := D3.out.blk.frozen 1
        have f2 := D3.out.blk.frozen 2
        have hfl := D3.out.blk.lt
        have hRM := Lib.hid (D3.out.remake (k : Int) 8 (8 * k) (by omega))
        clear S3 Y3 m D2 e8 D3
        go_upto_region 15 with (fail)
        clear c0 c1 c2 f0 f1 f2 hmk
        obtain ⟨q3, hq3⟩ : ∃ q, q = w3.heap.size := ⟨_, rfl⟩
        rw [← hq3] at hRM ⊢
        have hq4 : fb < q3 := by omega
        clear hq3 hfl
        generalize hW4 : (((w3.setCell ⟨fb, 0, none⟩ (.int .i64 (k : Int))).setCell ⟨fb, 1, none⟩ (.int .i64 8)).setCell ⟨fb, 2, none⟩ (.slice (some ⟨q3, 0, none⟩) (8 * k) (8 * k))).alloc (.cells (madeCells #[.int .i64 0] (8 * k)) 2) = W4 at *
        clear hW4
        have y0 : W4.cell? ⟨fb, 0, none⟩ = some (.int .i64 (k)) := hRM.out.blk.cell 0
        have y1 : W4.cell? ⟨fb, 1, none⟩ = some (.int .i64 (8)) := hRM.out.blk.cell 1
        have y2 : W4.cell? ⟨fb, 2, none⟩ = some (.slice (some ⟨q3, 0, none⟩) (8 * k) (8 * k)) := hRM.out.blk.cell 2
        have z0 : W4.cell? ⟨w.heap.size, 0, none⟩ = some (.int .i64 0) := hRM.out.zero.cell 0
        have z1 : W4.cell? ⟨w.heap.size, 1, none⟩ = some (.int .i64 0) := hRM.out.zero.cell 1
        have z2 : W4.cell? ⟨w.heap.size, 2, none⟩ = some (.slice none 0 0) := hRM.out.zero.cell 2
        have s0 := hRM.out.zero.frozen 0
        have s1 := hRM.out.zero.frozen 1
        have s2 := hRM.out.zero.frozen 2
        go_wp2
        refine bodyPost_ret (v := .agg #[.int .i64 (k), .int .i64 (8), .slice (some ⟨q3, 0, none⟩) (8 * k) (8 * k)]) (by simp [results, Try.results59, go_sem, z0, z1, z2]) rfl ?_
        exact hRM.out.done (by omega) (by omega) (by omega) (by omega) rfl
      · by_cases h3 : v = 3
        · subst h3
          have c2 : w2.cell? ⟨fb, 2, none⟩ = some (.slice (some ⟨gb, 0, none⟩) n c) := D2.out.blk.cell 2
          clear c2
          go_wp2
          go_loopw [5] (fun i wr => ∃ (k : Nat) (ys : List Int), k ≤ n ∧ i = .int .i64 k ∧ Hid (DF2 w wr g (M + 38) fb (w.heap.size + 1) hi r co (.slice (some ⟨gb, 0, none⟩) n c) n ys)) (fun i _ => n - (intOf i).toNat)
          case atStart => exact ⟨0, xs, Nat.zero_le _, rfl, D2⟩
          case round =>
            clear D2
            obtain ⟨k, ys, hk, rfl, D⟩ := hrel
            have c2 : wr.cell? ⟨fb, 2, none⟩ = some (.slice (some ⟨gb, 0, none⟩) n c) := D.out.blk.cell 2
            by_cases hlt : k < n
            · have a3 : wr.cell? ⟨gb, k, none⟩ = some (.int .i64 (lAt ys k)) := D.out.own.cellI hlt
              have f3 : wr.frozen? ⟨gb, k, none⟩ = false := D.out.own.1.frozenAt k
              have hkn : (k : Int) < (n : Int) := by omega
              go_wp2
              go_roundw
              case rel => exact ⟨k + 1, _, by omega, by go_num, Lib.hid (D.out.put (by omega) k 900000)⟩
              case measure => simp [intOf]; omega
            · obtain rfl : k = n := by omega
              have y0 : wr.cell? ⟨fb, 0, none⟩ = some (.int .i64 (r)) := D.out.blk.cell 0
              have y1 : wr.cell? ⟨fb, 1, none⟩ = some (.int .i64 (co)) := D.out.blk.cell 1
              have y2 : wr.cell? ⟨fb, 2, none⟩ = some (.slice (some ⟨gb, 0, none⟩) k c) := D.out.blk.cell 2
              have z0 : wr.cell? ⟨w.heap.size, 0, none⟩ = some (.int .i64 0) := D.out.zero.cell 0
              have z1 : wr.cell? ⟨w.heap.size, 1, none⟩ = some (.int .i64 0) := D.out.zero.cell 1
              have z2 : wr.cell? ⟨w.heap.size, 2, none⟩ = some (.slice none 0 0) := D.out.zero.cell 2
              have s0 := D.out.zero.frozen 0
              have s1 := D.out.zero.frozen 1
              have s2 := D.out.zero.frozen 2
              go_wp2
              refine bodyPost_ret (v := .agg #[.int .i64 (r), .int .i64 (co), .slice (some ⟨gb, 0, none⟩) k c]) (by simp [results, Try.results59, go_sem, z0, z1, z2]) rfl ?_
              exact D.out.done (by omega) (by omega) (by omega) (by omega) rfl
        · skip
          have y0 : w2.cell? ⟨fb, 0, none⟩ = some (.int .i64 (r)) := D2.out.blk.cell 0
          have y1 : w2.cell? ⟨fb, 1, none⟩ = some (.int .i64 (co)) := D2.out.blk.cell 1
          have y2 : w2.cell? ⟨fb, 2, none⟩ = some (.slice (some ⟨gb, 0, none⟩) n c) := D2.out.blk.cell 2
          have z0 : w2.cell? ⟨w.heap.size, 0, none⟩ = some (.int .i64 0) := D2.out.zero.cell 0
          have z1 : w2.cell? ⟨w.heap.size, 1, none⟩ = some (.int .i64 0) := D2.out.zero.cell 1
          have z2 : w2.cell? ⟨w.heap.size, 2, none⟩ = some (.slice none 0 0) := D2.out.zero.cell 2
          have s0 := D2.out.zero.frozen 0
          have s1 := D2.out.zero.frozen 1
          have s2 := D2.out.zero.frozen 2
          go_wp2
          refine bodyPost_ret (v := .agg #[.int .i64 (r), .int .i64 (co), .slice (some ⟨gb, 0, none⟩) n c]) (by simp [results, Try.results59, go_sem, z0, z1, z2]) rfl ?_
          exact D2.out.done (by omega) (by omega) (by omega) (by omega) rfl
end Go.Proofs.Ytndnjabalofcnaa
