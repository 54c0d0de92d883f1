/- A grid and masses, as the reference draws them. -/
import Derived.Test.YtaoomildopmclaaRnB
import Derived.Test.YtaoomildopmclaaRnT
import Derived.Test.YtaoomildopmclaaRnU
import Derived.Deep.RegionLaw
namespace Go.Proofs.Ytaoomildopmclaa
open Go.ChangeShapes Go.WideShapes Go.ChangeAt Go.RowKit
set_option linter.unusedVariables false
/-- append of one integer at a step of a drawn region -/
theorem step_app_i64 {ops : Array Oper} {o : Oper} {a : Act} {K : Act → World → Prop} {Q : Exit → Act → World → Prop} {E : Prop} {w : World} (hgd : o.guard = none) (s x : Operand)
    (ho : o.op = .call { callee := .builtin .append, args := #[s, x], argTypes := #[24, 24] })
    (lo : Nat) (v : Value) (n : Nat) (zs : List Int) (z : Int) (g : Nat) (hs : a.eval s = v) (hown : w.ownsRow lo 2 1 v n (ints zs))
    (hx : a.eval x = .slice (some ⟨g, 0, none⟩) 1 1) (hc : w.cell? ⟨g, 0, none⟩ = some (.int .i64 z)) (hn : n ≤ 100000000000) (hlo : lo ≤ w.heap.size)
    (h : ∀ v' w', w'.ownsRow lo 2 1 v' (n + 1) (ints (zs ++ [z])) → Below lo w w' → K (a.put o.dst v') w') :
    if Region.wanted o (yielded ops a.tmps) = true then Oper.wp Try.prog o a w K Q else E := by
  obtain ⟨i, hi, hz, hs', hb⟩ := info_parts info_i64
  have hg : g < w.heap.size := World.block_lt_of_cell? w ⟨g, 0, none⟩ hc
  refine step_append_any w hgd s x _ ho lo _ i _ 1 8 Try.underlying24 hi hz hs' hb rfl (by omega) v n (ints zs) hs hown w.heap.size (some ⟨g, 0, none⟩) 1 1 (ints [z]) hx
    ⟨rfl, fun _ => ⟨_, rfl, hg, fun j u hu => ?_⟩⟩ (ints_one [z]) (by simp only [maxLen]; omega) (by omega) hlo ?_
  · match j with
    | 0 => simp [ints] at hu; subst hu; exact hc
    | j + 1 => simp [ints] at hu
  · intro v' w' h2 h3 _
    exact h v' w' (by rw [ints_app]; exact h2) ((Below.refl _ _).grown h3 hlo (fun k hk => (hown.lt k hk).1))
theorem owns_keep {w w' : World} {lo lo' hi' s n : Nat} {T : TypeId} {v : Value} {xs : List Value} (h : w.ownsRow lo T s v n xs) (ho : Only lo' hi' w w') (hd : hi' ≤ lo) : w'.ownsRow lo T s v n xs :=
  ((Own.of_owns h (Nat.le_refl _)).only ho (.inr hd)).1
theorem owns_set {w : World} {lo s n : Nat} {T : TypeId} {v : Value} {xs : List Value} (h : w.ownsRow lo T s v n xs) {p : Addr} (hp : p.block < lo) (u : Value) : (w.setCell p u).ownsRow lo T s v n xs :=
  ((Own.of_owns h (Nat.le_refl _)).setOut hp u).1
/-- the state between two choices: the source, the grid's box, its row above the box, what has turned -/
structure DGr (w W : World) (g M fb : Nat) (r co : Int) (v : Value) (n : Nat) (xs : List Int) : Prop where
  src : Src W g M
  blk : Blk W fb 26 #[.int .i64 r, .int .i64 co, .int .i64 10, v]
  only : Only g (g + 1) w W
  zero : Blk W w.heap.size 26 #[.int .i64 0, .int .i64 0, .int .i64 0, .slice none 0 0]
  own : W.ownsRow (fb + 1) 2 1 v n (ints xs)
  hfb : w.heap.size < fb
  hg : g < w.heap.size
section
variable {w W W' : World} {g M M' fb : Nat} {r co : Int} {v v' : Value} {n n' : Nat} {xs xs' : List Int}
theorem DGr.turn (h : DGr w W g M fb r co v n xs) (hs : Src W' g M') (ho : Only g (g + 1) W W') : DGr w W' g M' fb r co v n xs :=
  ⟨hs, h.blk.only' ho (by have := h.hfb; have := h.hg; omega), h.only.trans ho, h.zero.only' ho (by have := h.hg; omega), owns_keep h.own ho (by have := h.hfb; have := h.hg; omega), h.hfb, h.hg⟩
theorem DGr.alloc (h : DGr w W g M fb r co v n xs) (o : Obj) : DGr w (W.alloc o) g M fb r co v n xs :=
  ⟨h.src.alloc o, h.blk.alloc o, h.only.alloc' o, h.zero.alloc o, owns_al h.own o, h.hfb, h.hg⟩
theorem DGr.setC (h : DGr w W g M fb r co v n xs) (z : Int) : DGr w (W.setCell ⟨fb, 1, none⟩ (.int .i64 z)) g M fb r z v n xs :=
  ⟨h.src.set (by show g < fb; have := h.hfb; have := h.hg; omega) _, by simpa using h.blk.set_ 1 (.int .i64 z), h.only.setNew (by show w.heap.size ≤ fb; have := h.hfb; omega) _, h.zero.far (by show w.heap.size ≠ fb; have := h.hfb; omega) _, owns_set h.own (by show fb < fb + 1; omega) _, h.hfb, h.hg⟩
theorem DGr.grown (h : DGr w W g M fb r co v n xs) (hb : Below (fb + 1) W W') (ho : W'.ownsRow (fb + 1) 2 1 v' n' (ints xs')) : DGr w (W'.setCell ⟨fb, 3, none⟩ v') g M fb r co v' n' xs' := by
  have h1 := h.hfb; have h2 := h.hg
  have k : Blk W' fb 26 #[.int .i64 r, .int .i64 co, .int .i64 10, v] := h.blk.below hb (by omega)
  have hs := h.only.size
  exact ⟨(h.src.below hb (by omega)).set (by show g < fb; omega) _, by simpa using k.set_ 3 v', (⟨hb.os.trans h.only.os, hb.tape.trans h.only.tape, hb.output.trans h.only.output, Nat.le_trans hs hb.size, fun j hj hc => (hb.block j (by omega)).trans (h.only.block j hj hc)⟩ : Only g (g + 1) w W').setNew (by show w.heap.size ≤ fb; omega) _, (h.zero.below hb (by omega)).far (by show w.heap.size ≠ fb; omega) _, owns_set ho (by show fb < fb + 1; omega) _, h1, h2⟩
end
def DrawGrPost (w : World) (g M : Nat) (e : Ending) (w' : World) : Prop :=
  ∃ (f : Gr) (A : Option Addr) (n c : Nat), e = .returned (f.val A n c) ∧ f.ok = true ∧ Own w' w.heap.size w'.heap.size 2 1 (.slice A n c) n (ints f.hs) ∧ Src w' g M ∧ Only g (g + 1) w w'
theorem DGr.done {w W : World} {g M M' fb : Nat} {r co : Int} {A : Option Addr} {n c : Nat} {xs : List Int} {e : Ending} (h : DGr w W g M fb r co (.slice A n c) n xs) (hM : M ≤ M') (hok : (⟨r, co, 10, xs⟩ : Gr).ok = true)
    (he : e = .returned (.agg #[.int .i64 r, .int .i64 co, .int .i64 10, .slice A n c])) : DrawGrPost w g M' e ((((W.setCell ⟨w.heap.size, 0, none⟩ (.int .i64 r)).setCell ⟨w.heap.size, 1, none⟩ (.int .i64 co)).setCell ⟨w.heap.size, 2, none⟩ (.int .i64 10)).setCell ⟨w.heap.size, 3, none⟩ (.slice A n c)) := by
  have hb := h.hfb
  have hg := h.hg
  have h4 : w.heap.size < fb + 1 := by omega
  refine ⟨⟨r, co, 10, xs⟩, A, n, c, he, hok, ?_, ((((h.src.set (p := ⟨w.heap.size, 0, none⟩) hg _).set (p := ⟨w.heap.size, 1, none⟩) hg _).set (p := ⟨w.heap.size, 2, none⟩) hg _).set (p := ⟨w.heap.size, 3, none⟩) hg _).more hM,
    (((h.only.setNew (p := ⟨w.heap.size, 0, none⟩) (Nat.le_refl _) _).setNew (p := ⟨w.heap.size, 1, none⟩) (Nat.le_refl _) _).setNew (p := ⟨w.heap.size, 2, none⟩) (Nat.le_refl _) _).setNew (p := ⟨w.heap.size, 3, none⟩) (Nat.le_refl _) _⟩
  exact (Own.of_owns (owns_set (owns_set (owns_set (owns_set h.own (p := ⟨w.heap.size, 0, none⟩) h4 _) (p := ⟨w.heap.size, 1, none⟩) h4 _) (p := ⟨w.heap.size, 2, none⟩) h4 _) (p := ⟨w.heap.size, 3, none⟩) h4 _) (Nat.le_refl _)).widen (by omega) (Nat.le_refl _)
theorem draw_ok {r co : Nat} {xs : List Int} (hr : 2 ≤ r ∧ r ≤ 5) (hc : 2 ≤ co ∧ co ≤ 4) (hl : xs.length = r * co) (hx : allInB 0 5000 xs = true) : (⟨(r : Int), (co : Int), 10, xs⟩ : Gr).ok = true := by
  unfold Gr.ok Gr.dims inB
  simp only [hx, hl, Bool.and_eq_true, decide_eq_true_eq]
  exact ⟨⟨⟨⟨by omega, by omega⟩, by omega⟩, by rw [Int.natCast_mul]⟩, trivial⟩
set_option maxHeartbeats 8000000 in
set_option maxRecDepth 100000 in
theorem l09Draw_c (g M : Nat) (w : World) (h : Src w g M) (hM : M ≤ 100000000000000000) :
    Calls Try.prog 46 #[.pointer (some ⟨g, 0, none⟩)] w (DrawGrPost w g (M + 46)) := by
  have HS := Lib.hid h
  have hgl := h.lt
  clear h
  go_enter Try.func46, Try.ntmps46
  go_wp2_with fail
  refine (pick_c g M 4 _ (HS.out.alloc _) (by omega) (by omega)).mono ?_
  rintro e w1 ⟨v1, rfl, a1, b1, S1, Y1⟩
  obtain ⟨r, hr⟩ : ∃ r : Nat, 2 + v1 = r := ⟨(2 + v1).toNat, by omega⟩
  have hsz : w.heap.size < w1.heap.size := by have h1 := Y1.size; simp at h1; omega
  have D0 : Hid (DGr w (w1.alloc (.cells #[.int .i64 r, .int .i64 2, .int .i64 10, .slice none 0 0] 26)) g (M + 2) w1.heap.size r 2 (.slice none 0 0) 0 []) := Lib.hid
    ⟨S1.alloc _, Blk.new _ _ _, (((Only.refl g (g + 1) w).alloc' _).trans Y1).alloc' _, ((Blk.new _ _ _).only' Y1 (.inr (by omega))).alloc _, World.ownsRow_nil _ _ _ _, hsz, hgl⟩
  have hrb : 2 ≤ r ∧ r ≤ 5 := by omega
  have HRR := Lib.hid hr
  have er : IntKind.i64.wrap (2 + v1) = 2 + v1 := IntWalk.i64_in _ (by omega)
  obtain ⟨fb, hfb⟩ : ∃ fb, fb = w1.heap.size := ⟨_, rfl⟩
  have HFB := Lib.hid hfb
  rw [← hfb] at D0 hsz
  clear S1 Y1 hfb hr
  go_upto_region 2 with (fail)
  rw [HRR.out, ← HFB.out]
  generalize hX : w1.alloc (.cells #[.int .i64 r, .int .i64 2, .int .i64 10, .slice none 0 0] 26) = X at *
  clear hX a1 b1 er HFB HRR
  go_wp2_with fail
  refine (pick_c g (M + 2) 3 X D0.out.src (by omega) (by omega)).mono ?_
  rintro e w2 ⟨v2, rfl, a2, b2, S2, Y2⟩
  obtain ⟨co, hco⟩ : ∃ r : Nat, 2 + v2 = r := ⟨(2 + v2).toNat, by omega⟩
  have D1 := Lib.hid (D0.out.turn S2 Y2)
  have hcb : 2 ≤ co ∧ co ≤ 4 := by omega
  have HCC := Lib.hid hco
  have ec : IntKind.i64.wrap (2 + v2) = 2 + v2 := IntWalk.i64_in _ (by omega)
  have c1 : w2.cell? ⟨fb, 1, none⟩ = some (.int .i64 2) := D1.out.blk.cell 1
  have f1 := D1.out.blk.frozen 1
  have D2 := Lib.hid (D1.out.setC (co : Int))
  clear S2 Y2 hco D0 D1
  go_upto_region 3 with (fail)
  rw [HCC.out]
  generalize hX : w2.setCell ⟨fb, 1, none⟩ (.int .i64 co) = X2 at *
  clear hX a2 b2 ec c1 f1 HCC
  go_wp2_with fail
  refine (pick_c g (M + 2 + 2) 14 X2 D2.out.src (by omega) (by omega)).mono ?_
  rintro e w3 ⟨s, rfl, a3, b3, S3, Y3⟩
  have D3 := Lib.hid (D2.out.turn S3 Y3)
  clear S3 Y3 D2
  go_wp2
  go_loopw [5] (fun rv wr => ∃ (R : Nat) (v : Value) (xs : List Int), R ≤ r ∧ rv = .int .i64 R ∧ Hid (DGr w wr g (M + 6 + 2 * (R * co)) fb r co v (R * co) xs) ∧ Hid (allInB 0 5000 xs = true)) (fun rv _ => r - (intOf rv).toNat)
  case atStart => exact ⟨0, _, [], Nat.zero_le _, rfl, Lib.hid (by simpa using D3.out), Lib.hid rfl⟩
  case round =>
    clear D3
    obtain ⟨R, v, xs, hR, rfl, HD, HX⟩ := hrel
    have c0 : wr.cell? ⟨fb, 0, none⟩ = some (.int .i64 r) := HD.out.blk.cell 0
    by_cases hlt : R < r
    · have hlt' : (R : Int) < (r : Int) := by omega
      have e0 : R * co ≤ 4 * 4 := Nat.mul_le_mul (by omega) (by omega)
      have HRC : Hid ((R + 1) * co = R * co + co) := Lib.hid (Nat.succ_mul R co)
      obtain ⟨m1, m2⟩ := mul_bd (a := s) (b := (R : Int)) (A := 13) (B := 4) (by omega) (by omega) (by omega) (by omega)
      have e1 : IntKind.i64.wrap (s * (R : Int)) = s * (R : Int) := IntWalk.i64_in _ (by omega)
      have e2 : IntKind.i64.wrap (1500 - s * (R : Int)) = 1500 - s * (R : Int) := IntWalk.i64_in _ (by omega)
      generalize hP : R * co = P at *
      clear hP
      go_wp2
      clear c0
      go_loopw [6] (fun cv wr => ∃ (C : Nat) (v : Value) (xs : List Int), C ≤ co ∧ cv = .int .i64 C ∧ Hid (DGr w wr g (M + 6 + 2 * (P + C)) fb r co v (P + C) xs) ∧ Hid (allInB 0 5000 xs = true)) (fun cv _ => co - (intOf cv).toNat)
      case atStart => exact ⟨0, _, xs, Nat.zero_le _, rfl, HD, HX⟩
      case round =>
        clear HD HX
        obtain ⟨C, v, xs, hC, rfl, HD, HX⟩ := hrel
        have c1 : wr.cell? ⟨fb, 1, none⟩ = some (.int .i64 co) := HD.out.blk.cell 1
        by_cases hlc : C < co
        · have c3 : wr.cell? ⟨fb, 3, none⟩ = some v := HD.out.blk.cell 3
          have f3 := HD.out.blk.frozen 3
          have hB0 := HD.out.blk.lt
          have hlc' : (C : Int) < (co : Int) := by omega
          go_upto_region 10 with (fail)
          clear c1
          go_region_law (first
            | (refine step_app_i64 (by rfl) (.tmp 30) (.tmp 38) (by rfl) (fb + 1) _ (P + C) xs (1500 - s * (R : Int) + v3) _ (by rfl) (owns_al HOW3 _) (by rfl) ((Blk.new _ _ _).cell 0) (by omega) (by simp; omega) ?_; intro v' w' O4 B4; obtain ⟨A', c', hv', hnc, _⟩ := (Own.of_owns O4 (Nat.le_refl _)).slice; subst hv'; have KB4 : Blk w' fb 26 #[.int .i64 r, .int .i64 co, .int .i64 10, v] := (KB3.alloc _).below B4 (by omega); have c4 : w'.cell? ⟨fb, 3, none⟩ = some v := KB4.cell 3; have f4 := KB4.frozen 3)
            | (go_simp; go_at_call 76; refine (pick_c g (M + 6 + 2 * (P + C)) 7 wr.drew HD.out.src (by omega) (by omega)).mono ?_; rintro e w3 ⟨v3, rfl, a3, b3, S3, Y3⟩; have hs3 : wr.heap.size ≤ w3.heap.size := Y3.size; have e3 : IntKind.i64.wrap (1500 - s * (R : Int) + v3) = 1500 - s * (R : Int) + v3 := IntWalk.i64_in _ (by omega); have HOW3 : w3.ownsRow (fb + 1) 2 1 v (P + C) (ints xs) := owns_keep (w := wr.drew) HD.out.own Y3 (by have := HD.out.hfb; have := HD.out.hg; omega); have KB3 : Blk w3 fb 26 #[.int .i64 r, .int .i64 co, .int .i64 10, v] := Blk.only' (w := wr.drew) HD.out.blk Y3 (by have := HD.out.hfb; have := HD.out.hg; omega); have c3b : w3.cell? ⟨fb, 3, none⟩ = some v := KB3.cell 3; have c3a : ∀ o, (w3.alloc o).cell? ⟨fb, 3, none⟩ = some v := fun o => (KB3.alloc o).cell 3))
          all_goals
            have HDN : Hid (DGr w (w'.setCell ⟨fb, 3, none⟩ (.slice A' (P + C + 1) c')) g (M + 6 + 2 * (P + (C + 1))) fb r co (.slice A' (P + C + 1) c') (P + (C + 1)) (xs ++ [1500 - s * (R : Int) + v3])) := Lib.hid (((HD.out.turn (M' := M + 6 + 2 * (P + (C + 1))) (W' := w3) (S3.more (by omega)) ⟨Y3.os, Y3.tape, Y3.output, Y3.size, Y3.block⟩).alloc _).grown B4 O4)
            have HXN : Hid (allInB 0 5000 (xs ++ [1500 - s * (R : Int) + v3]) = true) := Lib.hid (by
              have h := HX.out
              unfold allInB at h ⊢
              rw [List.all_append, h]
              simp [inB]; omega)
            clear O4 B4 KB4 c4 f4 S3 Y3 HOW3 KB3 c3b c3a e3 c3
            go_wp2
            go_roundw
            case rel => exact ⟨C + 1, _, _, by omega, by go_num, HDN, HXN⟩
            case measure => simp [intOf]; omega
        · obtain rfl : C = co := by omega
          have HDN : Hid (DGr w wr g (M + 6 + 2 * ((R + 1) * C)) fb r C v ((R + 1) * C) xs) := Lib.hid (by rw [HRC.out]; exact HD.out)
          go_wp2
          go_roundw
          case rel => exact ⟨R + 1, v, xs, by omega, by go_num, HDN, HX⟩
          case measure => simp [intOf]; omega
    · obtain rfl : R = r := by omega
      obtain ⟨A', c', hv', hnc, _⟩ := (Own.of_owns HD.out.own (Nat.le_refl _)).slice
      subst hv'
      have e0 : R * co ≤ 5 * 4 := Nat.mul_le_mul (by omega) (by omega)
      have HLX : Hid (xs.length = R * co) := Lib.hid (Own.of_owns HD.out.own (Nat.le_refl _)).reads.len
      have HOK := Lib.hid (draw_ok hrb hcb HLX.out HX.out)
      have c1 : wr.cell? ⟨fb, 1, none⟩ = some (.int .i64 co) := HD.out.blk.cell 1
      have c2 : wr.cell? ⟨fb, 2, none⟩ = some (.int .i64 10) := HD.out.blk.cell 2
      have c3 : wr.cell? ⟨fb, 3, none⟩ = some (.slice A' (R * co) c') := HD.out.blk.cell 3
      have z0 : wr.cell? ⟨w.heap.size, 0, none⟩ = some (.int .i64 0) := HD.out.zero.cell 0
      have z1 : wr.cell? ⟨w.heap.size, 1, none⟩ = some (.int .i64 0) := HD.out.zero.cell 1
      have z2 : wr.cell? ⟨w.heap.size, 2, none⟩ = some (.int .i64 0) := HD.out.zero.cell 2
      have z3 : wr.cell? ⟨w.heap.size, 3, none⟩ = some (.slice none 0 0) := HD.out.zero.cell 3
      have s0 := HD.out.zero.frozen 0
      have s1 := HD.out.zero.frozen 1
      have s2 := HD.out.zero.frozen 2
      have s3 := HD.out.zero.frozen 3
      generalize R * co = P at *
      go_wp2
      refine bodyPost_ret (v := .agg #[.int .i64 R, .int .i64 co, .int .i64 10, .slice A' P c']) (by simp [results, Try.results46, go_sem, z0, z1, z2, z3]) rfl ?_
      exact HD.out.done (by omega) HOK.out rfl
def GridPost (w : World) (e : Ending) (w' : World) : Prop :=
  ∃ (f : Gr) (A : Option Addr) (n c : Nat), e = .returned (f.val A n c) ∧ f.ok = true ∧ Own w' w.heap.size w'.heap.size 2 1 (.slice A n c) n (ints f.hs) ∧ Below w.heap.size w w'
set_option maxRecDepth 100000 in
theorem R8Grid_c (A : Option Addr) (n c : Nat) (zs : List Int) (w : World) (ha : Bytes w w.heap.size A n zs) (hn : n ≤ 1048576) :
    Calls Try.prog 13 #[.slice A n c] w (GridPost w) := by
  have B0 := Lib.hid ((Below.refl w.heap.size w).alloc (Nat.le_refl _) (.cells #[.int .i64 0, .int .i64 0, .int .i64 0, .slice none 0 0] 26))
  have K0 := Lib.hid (Blk.new w 26 #[.int .i64 0, .int .i64 0, .int .i64 0, .slice none 0 0])
  obtain ⟨X, hX⟩ : ∃ X, X = w.alloc (.cells #[.int .i64 0, .int .i64 0, .int .i64 0, .slice none 0 0] 26) := ⟨_, rfl⟩
  have hs : X.heap.size = w.heap.size + 1 := by rw [hX]; simp
  rw [← hX] at B0 K0
  have HA := Lib.hid (l00From_c A n c zs X ((ha.below B0.out).more (by omega)) (by omega))
  have HX := Lib.hid hX
  clear ha hX
  go_enter Try.func13, Try.ntmps13
  go_wp2_with fail
  rw [← HX.out]
  refine HA.out.mono ?_
  rintro e w1 ⟨rfl, S1, B1, hs1⟩
  have S1' := Lib.hid S1
  have B1' := Lib.hid (B0.out.trans (B1.mono (by omega)))
  have K1 := Lib.hid (K0.out.below B1 (by omega))
  clear S1 B1
  rw [hs] at S1' ⊢
  go_wp2_with fail
  refine (l09Draw_c (w.heap.size + 1) 0 w1 S1'.out (by omega)).mono ?_
  rintro e w2 ⟨f, A2, n2, c2, rfl, hok, O2, S2, Y2⟩
  have HOK := Lib.hid hok
  have hs2 := Y2.size
  have HO := Lib.hid O2
  have HB := Lib.hid (B1'.out.trans (Y2.below (by omega : w.heap.size ≤ w.heap.size + 1) (by omega)))
  have K2 := Lib.hid (K1.out.only' Y2 (.inl (by omega)))
  clear O2 S2 Y2 hok
  obtain ⟨r, co, s, hs'⟩ := f
  simp only [Gr.val, Gr.cells] at *
  have s0 := K2.out.frozen 0
  have s1 := K2.out.frozen 1
  have s2 := K2.out.frozen 2
  have s3 := K2.out.frozen 3
  have z0 : w2.cell? ⟨w.heap.size, 0, none⟩ = some (.int .i64 0) := K2.out.cell 0
  have z1 : w2.cell? ⟨w.heap.size, 1, none⟩ = some (.int .i64 0) := K2.out.cell 1
  have z2 : w2.cell? ⟨w.heap.size, 2, none⟩ = some (.int .i64 0) := K2.out.cell 2
  have z3 : w2.cell? ⟨w.heap.size, 3, none⟩ = some (.slice none 0 0) := K2.out.cell 3
  go_wp2
  refine bodyPost_ret (v := .agg #[.int .i64 r, .int .i64 co, .int .i64 s, .slice A2 n2 c2]) (by simp [results, Try.results13, go_sem, z0, z1, z2, z3]) rfl ?_
  refine ⟨⟨r, co, s, hs'⟩, A2, n2, c2, rfl, HOK.out, ?_, (((HB.out.setCell (p := ⟨w.heap.size, 0, none⟩) (Nat.le_refl _) _).setCell (p := ⟨w.heap.size, 1, none⟩) (Nat.le_refl _) _).setCell (p := ⟨w.heap.size, 2, none⟩) (Nat.le_refl _) _).setCell (p := ⟨w.heap.size, 3, none⟩) (Nat.le_refl _) _⟩
  have h4 : w.heap.size < w1.heap.size := by omega
  exact ((((HO.out.setOut (p := ⟨w.heap.size, 0, none⟩) h4 _).setOut (p := ⟨w.heap.size, 1, none⟩) h4 _).setOut (p := ⟨w.heap.size, 2, none⟩) h4 _).setOut (p := ⟨w.heap.size, 3, none⟩) h4 _).widen (by omega) (by simp)
def MassPost (m : Nat) (w : World) (e : Ending) (w' : World) : Prop :=
  ∃ (A : Option Addr) (c : Nat) (ms : List Int), e = .returned (.slice A m c) ∧ allInB 0 1000000 ms = true ∧ Own w' w.heap.size w'.heap.size 2 1 (.slice A m c) m (ints ms) ∧ Below w.heap.size w w'
set_option maxHeartbeats 2000000 in
set_option maxRecDepth 100000 in
theorem R8Masses_c (A : Option Addr) (n c : Nat) (zs : List Int) (r co s : Int) (D : Option Addr) (m d : Nat) (w : World) (ha : Bytes w w.heap.size A n zs) (hn : n ≤ 1048576) (hm : m ≤ 64) :
    Calls Try.prog 14 #[.slice A n c, .agg #[.int .i64 r, .int .i64 co, .int .i64 s, .slice D m d]] w (MassPost m w) := by
  have B0 := Lib.hid ((Below.refl w.heap.size w).alloc (Nat.le_refl _) (.cells #[.int .i64 r, .int .i64 co, .int .i64 s, .slice D m d] 26))
  have K0 := Lib.hid (Blk.new w 26 #[.int .i64 r, .int .i64 co, .int .i64 s, .slice D m d])
  obtain ⟨X, hX⟩ : ∃ X, X = w.alloc (.cells #[.int .i64 r, .int .i64 co, .int .i64 s, .slice D m d] 26) := ⟨_, rfl⟩
  have hs : X.heap.size = w.heap.size + 1 := by rw [hX]; simp
  rw [← hX] at B0 K0
  have HA := Lib.hid (l00From_c A n c zs X ((ha.below B0.out).more (by omega)) (by omega))
  have HX := Lib.hid hX
  clear ha hX
  go_enter Try.func14, Try.ntmps14
  go_wp2_with fail
  rw [← HX.out]
  refine HA.out.mono ?_
  rintro e w1 ⟨rfl, S1, B1, hs1⟩
  have B1' := Lib.hid (B0.out.trans (B1.mono (by omega)))
  have K1 := Lib.hid (K0.out.below B1 (by omega))
  rw [hs] at hs1 S1 ⊢
  have S2 : Hid (Src (w1.alloc (.cells #[] 2)) (w.heap.size + 1) 0) := Lib.hid (S1.below ((Below.refl w1.heap.size w1).alloc (Nat.le_refl _) _) (by omega))
  have O2 : Hid ((w1.alloc (.cells #[] 2)).ownsRow (w.heap.size + 1 + 1) 2 1 (.slice (some ⟨w1.heap.size, 0, none⟩) 0 0) 0 (ints [])) := Lib.hid (World.ownsRow_lit (w := w1) (base := w.heap.size + 1 + 1) (e := 2) (size := 1) #[] 0 (by omega) (by simp [maxLen]) (by simp))
  have B2 : Hid (Below w.heap.size w (w1.alloc (.cells #[] 2))) := Lib.hid (B1'.out.alloc B1'.out.size _)
  have K2 : Hid (Blk (w1.alloc (.cells #[] 2)) w.heap.size 26 #[.int .i64 r, .int .i64 co, .int .i64 s, .slice D m d]) := Lib.hid (K1.out.alloc _)
  have hs2 : w.heap.size + 1 + 1 ≤ (w1.alloc (.cells #[] 2)).heap.size := by simp; omega
  have HW1 := Lib.hid hs1
  clear S1 B1 B1' K1 B0 K0 hs HA
  rw [hs1] at O2
  go_wp2
  go_loopw [6, 7] (fun ov cv wr => ∃ (k : Nat) (ms : List Int), k ≤ m ∧ cv = .int .i64 k ∧ Hid (wr.ownsRow (w.heap.size + 1 + 1) 2 1 ov k (ints ms)) ∧ Hid (allInB 0 1000000 ms = true) ∧ Hid (Src wr (w.heap.size + 1) (2 * k)) ∧ Hid (Below w.heap.size w wr) ∧ Hid (Blk wr w.heap.size 26 #[.int .i64 r, .int .i64 co, .int .i64 s, .slice D m d]) ∧ w.heap.size + 1 + 1 ≤ wr.heap.size) (fun _ cv _ => m - (intOf cv).toNat)
  case atStart => exact ⟨0, [], Nat.zero_le _, rfl, by simpa [HW1.out] using O2, Lib.hid rfl, S2, B2, K2, by simpa using hs2⟩
  case round =>
    clear O2 S2 B2 K2 hs2
    obtain ⟨k, ms, hk, rfl, HO, HM, HS, HB, HK, hsz⟩ := hrel
    have c3 : wr.cell? ⟨w.heap.size, 3, none⟩ = some (.slice D m d) := HK.out.cell 3
    by_cases hlt : k < m
    · have hlt' : (k : Int) < (m : Int) := by omega
      have HSA := Lib.hid (among_c (w.heap.size + 1) wr.heap.size (2 * k) 8 [0, 0, 0, 1, 7, 100, 350, 2000] (wr.alloc (.cells #[.int .i64 0, .int .i64 0, .int .i64 0, .int .i64 1, .int .i64 7, .int .i64 100, .int .i64 350, .int .i64 2000] 2)) (HS.out.alloc _) (Blk.new _ _ _) (by omega) rfl (by omega) (by omega) (by omega))
      go_wp2_with fail
      refine HSA.out.mono ?_
      rintro e w3 ⟨v3, rfl, hv, S3, Y3⟩
      have hvb : 0 ≤ v3 ∧ v3 ≤ 2000 := by simp at hv; omega
      have hs3 := Y3.size
      have hs4 : (wr.alloc (.cells #[.int .i64 0, .int .i64 0, .int .i64 0, .int .i64 1, .int .i64 7, .int .i64 100, .int .i64 350, .int .i64 2000] 2)).heap.size = wr.heap.size + 1 := by simp
      have HO3 := Lib.hid (owns_al (owns_keep (owns_al HO.out (.cells #[.int .i64 0, .int .i64 0, .int .i64 0, .int .i64 1, .int .i64 7, .int .i64 100, .int .i64 350, .int .i64 2000] 2)) Y3 (Nat.le_refl _)) (.cells #[.int .i64 v3] 2))
      have HK3 := Lib.hid ((HK.out.alloc (.cells #[.int .i64 0, .int .i64 0, .int .i64 0, .int .i64 1, .int .i64 7, .int .i64 100, .int .i64 350, .int .i64 2000] 2)).only' Y3 (.inl (by omega)))
      have HB3 := Lib.hid ((HB.out.alloc HB.out.size (.cells #[.int .i64 0, .int .i64 0, .int .i64 0, .int .i64 1, .int .i64 7, .int .i64 100, .int .i64 350, .int .i64 2000] 2)).trans (Y3.below (by omega : w.heap.size ≤ w.heap.size + 1) (by omega)))
      have HS3 := Lib.hid S3
      have hsz3 : w.heap.size + 1 + 1 ≤ w3.heap.size := by omega
      clear S3 Y3 hv c3 HSA HO HK HB HS hs3 hs4
      go_wp2_with (at_builtin; refine app_i64 rfl (.tmp 18) (.tmp 22) rfl (w.heap.size + 1 + 1) _ k ms v3 _ rfl HO3.out rfl ?_ (by omega) ?_ ?_)
      rotate_left 2
      · intro v' w4 O4 B4 hs4
        have BA := Lib.hid (((Below.refl (w.heap.size + 1 + 1) w3).alloc hsz3 (.cells #[.int .i64 v3] 2)).trans B4)
        have HO4 := Lib.hid O4
        have HM4 : Hid (allInB 0 1000000 (ms ++ [v3]) = true) := Lib.hid (by
          have h := HM.out
          unfold allInB at h ⊢
          rw [List.all_append, h]
          simp [inB]; omega)
        have HS4 : Hid (Src w4 (w.heap.size + 1) (2 * (k + 1))) := Lib.hid ((HS3.out.below BA.out (by omega)).more (by omega))
        have HB4 := Lib.hid (HB3.out.trans (BA.out.mono (by omega)))
        have HK4 := Lib.hid (HK3.out.below BA.out (by omega))
        have hsz4 : w.heap.size + 1 + 1 ≤ w4.heap.size := by have := BA.out.size; omega
        clear O4 B4 hs4 BA HO3
        go_wp2
        go_roundw
        case rel => exact ⟨k + 1, _, by omega, by go_num, HO4, HM4, HS4, HB4, HK4, hsz4⟩
        case measure => simp [intOf]; omega
      · exact (Blk.new _ _ _).cell 0
      · simp; omega
    · obtain rfl : k = m := by omega
      obtain ⟨A2, c2, rfl, _, _⟩ := (Own.of_owns HO.out (Nat.le_refl _)).slice
      go_wp2
      go_ret
      exact ⟨A2, c2, ms, rfl, HM.out, (Own.of_owns HO.out (Nat.le_refl _)).widen (by omega) (Nat.le_refl _), HB.out⟩
end Go.Proofs.Ytaoomildopmclaa
