/- The way of steepest descent: DescentOf. -/
import Derived.Test.YtaoomildopmclaaGrU
namespace Go.Proofs.Ytaoomildopmclaa
open Go.ChangeShapes Go.WideShapes Go.ChangeAt Go.RowKit
set_option linter.unusedVariables false

def descF (g : Gr) : Nat → Nat → List Int
  | 0, c => [(c : Int)]
  | f + 1, c => match bestL g c (nextTo g c 8) with
    | none => [(c : Int)]
    | some x => (c : Int) :: descF g f x.cell.toNat
theorem descF_none {g : Gr} {f c : Nat} (h : bestL g c (nextTo g c 8) = none) : descF g f c = [(c : Int)] := by
  cases f with
  | zero => rfl
  | succ f => rw [descF, h]
theorem descF_some {g : Gr} {f c t : Nat} {x : Stp} (h : bestL g c (nextTo g c 8) = some x) (ht : x.cell = t) : descF g (f + 1) c = (c : Int) :: descF g f t := by rw [descF, h]; simp [ht]
theorem best_cell {g : Gr} {c : Nat} {x : Stp} (hb : GrOk g) (h : bestL g c (nextTo g c 8) = some x) : ∃ t : Nat, x.cell = t ∧ t < g.hs.length ∧ hAt g t < hAt g c := by
  obtain ⟨h1, h2⟩ := bestL_mem h
  obtain ⟨j, hj⟩ := List.getElem?_of_mem h1
  obtain ⟨t, h3, h4⟩ := next_cell hb hj
  exact ⟨t, h3, h4, by rw [← h3]; exact h2⟩
def lenV : Value → Nat
  | .slice _ n _ => n
  | _ => 0
/-- append of one integer, with what it leaves as it was -/
theorem app_keep {ops : Array Oper} {rest : List Oper} {o : Oper} {a : Act} {Q : Exit → Act → World → Prop} {w : World} (hgd : o.guard = none) (s x : Operand)
    (ho : o.op = .call { callee := .builtin .append, args := #[s, x], argTypes := #[24, 24] })
    (lo : Nat) (v : Value) (n : Nat) (zs us : List Int) (B : Nat) (A : Option Addr) (m c : Nat) (hs : a.eval s = v) (hown : w.ownsRow lo 2 1 v n (ints zs))
    (hx : a.eval x = .slice A m c) (hr : Reads w B 1 A m (ints us)) (hn : n + m ≤ 100000000000) (hlo : lo ≤ w.heap.size)
    (h : ∀ v' w', w'.ownsRow lo 2 1 v' (n + m) (ints (zs ++ us)) → Below lo w w' → w.heap.size ≤ w'.heap.size → w.grownBy w' v.ownBlock → wpList Try.prog ops Q rest (a.put o.dst v') w') : wpList Try.prog ops Q (o :: rest) a w := by
  obtain ⟨i, hi, hz, hs', hb⟩ := info_parts info_i64
  refine wpList_append_any w hgd s x _ ho lo _ i _ 1 8 Try.underlying24 hi hz hs' hb rfl (by omega) v n (ints zs) hs hown B A m c (ints us) hx hr (ints_one us) (by simp only [maxLen]; omega) (by omega) hlo ?_
  intro v' w' h2 h3 _
  exact h v' w' (by rw [ints_app]; exact h2) ((Below.refl _ _).grown h3 hlo (fun k hk => (hown.lt k hk).1)) h3.size h3
theorem Own.setAbove {w : World} {lo hi s n : Nat} {T : TypeId} {v : Value} {xs : List Value} (h : Own w lo hi T s v n xs) {p : Addr} (hp : hi ≤ p.block) (u : Value) : Own (w.setCell p u) lo hi T s v n xs :=
  h.only (lo' := p.block) (hi' := p.block + 1) ⟨rfl, rfl, rfl, by simp, fun k hk hc => Below.heap_setCell _ _ _ _ (by omega)⟩ (.inl hp)
theorem set3_own' {w : World} {lo hi s n b : Nat} {T : TypeId} {v : Value} {xs : List Value} (h : Own w lo hi T s v n xs) (hb : hi ≤ b) (u0 u1 u2 : Value) : (set3 w b u0 u1 u2).ownsRow lo T s v n xs :=
  (((h.setAbove (p := ⟨b, 0, none⟩) hb u0).setAbove (p := ⟨b, 1, none⟩) hb u1).setAbove (p := ⟨b, 2, none⟩) hb u2).1
def DescPost (g : Gr) (cell : Nat) (w : World) (e : Ending) (w' : World) : Prop :=
  ∃ A n c, e = .returned (.slice A n c) ∧ Own w' w.heap.size w'.heap.size 2 1 (.slice A n c) n (ints (descF g 5001 cell)) ∧ n ≤ 5002 ∧ Below w.heap.size w w'
set_option maxHeartbeats 4000000 in
theorem descent_c (g : Gr) (A : Option Addr) (n c B : Nat) (cell : Nat) (w : World) (hg : GS w B g A n c) (hok : g.ok = true) (hc : cell < n) :
    Calls Try.prog 73 #[g.val A n c, .int .i64 cell] w (DescPost g cell w) := by
  have HN := Lib.hid fun (k : Nat) (hk : k < n) W (hW : Below w.heap.size w W) => steepest_c g A n c B k W (hg.below hW) hok hk
  have HOK := Lib.hid (Gr.ok_bd hok)
  have HL := Lib.hid hg.len
  clear hg hok
  simp only [Gr.val, Gr.cells] at *
  go_enter Try.func73, Try.ntmps73
  obtain ⟨X, hX⟩ : ∃ X, X = (w.alloc (.cells #[.int .i64 g.rows, .int .i64 g.cols, .int .i64 g.size, .slice A n c] 26)).alloc (.cells #[.int .i64 cell] 2) := ⟨_, rfl⟩
  have HT : Hid (Below w.heap.size w X) := Lib.hid (by rw [hX]; exact ((Below.refl w.heap.size w).alloc (Nat.le_refl _) _).alloc (by simp) _)
  have hs : X.heap.size = w.heap.size + 1 + 1 := by rw [hX]; simp
  have HK0 : Hid (Blk X w.heap.size 26 #[.int .i64 g.rows, .int .i64 g.cols, .int .i64 g.size, .slice A n c]) := Lib.hid (by rw [hX]; exact (Blk.new _ _ _).alloc _)
  have O1 : Hid (Own X (w.heap.size + 1) (w.heap.size + 1 + 1) 2 1 (.slice (some ⟨w.heap.size + 1, 0, none⟩) 1 1) 1 (ints [(cell : Int)])) := Lib.hid (by
    have h := Own.of_owns (World.ownsRow_lit (w := w.alloc (.cells #[.int .i64 g.rows, .int .i64 g.cols, .int .i64 g.size, .slice A n c] 26)) (base := w.heap.size + 1) (e := 2) (size := 1) #[.int .i64 cell] 1 (by simp) (by simp [maxLen]) (by simp)) (Nat.le_refl _)
    rw [hX]; simpa [ints] using h)
  have HX := Lib.hid hX
  clear hX
  go_wp2_with fail
  rw [← HX.out]
  refine (HN.out cell hc X HT.out).mono ?_
  rintro e w1 ⟨rfl, B1⟩
  have hs1 := B1.size
  have HT1 := Lib.hid (HT.out.trans (B1.mono HT.out.size))
  have HK1 := Lib.hid (HK0.out.below B1 (by omega))
  have HO1 := Lib.hid (O1.out.below B1 (by omega))
  clear B1 HT HK0 O1
  simp only [Stp.val]
  obtain ⟨W1, hW1⟩ : ∃ W1, W1 = w1.alloc (.cells #[.int .i64 (bestV (bestL g cell (nextTo g cell 8))).cell, .int .i64 (bestV (bestL g cell (nextTo g cell 8))).dir, .int .i64 (bestV (bestL g cell (nextTo g cell 8))).slope] 85) := ⟨_, rfl⟩
  have BW : Below w1.heap.size w1 W1 := by rw [hW1]; exact (Below.refl _ _).alloc (Nat.le_refl _) _
  have hsW : W1.heap.size = w1.heap.size + 1 := by rw [hW1]; simp
  have HK9 : Hid (Blk W1 w1.heap.size 85 #[.int .i64 (bestV (bestL g cell (nextTo g cell 8))).cell, .int .i64 (bestV (bestL g cell (nextTo g cell 8))).dir, .int .i64 (bestV (bestL g cell (nextTo g cell 8))).slope]) := Lib.hid (by rw [hW1]; exact Blk.new _ _ _)
  have HT2 := Lib.hid (HT1.out.trans (BW.mono HT1.out.size))
  have HK2 := Lib.hid (HK1.out.below BW (by omega))
  have HO2 : Hid (W1.ownsRow (w.heap.size + 1) 2 1 (.slice (some ⟨w.heap.size + 1, 0, none⟩) 1 1) 1 (ints ([] ++ [(cell : Int)]))) := Lib.hid (HO1.out.below BW (by omega)).1
  have HW1 := Lib.hid hW1
  clear hW1 BW HT1 HK1 HO1
  go_wp2_with fail
  rw [← HW1.out]
  clear HW1
  go_loopw [5, 6, 7] (fun o p d wr => ∃ (k f n' b9 c' : Nat) (A' : Option Addr) (pre : List Int), k < n ∧ o = .slice A' n' c' ∧ p = .pointer (some ⟨b9, 0, none⟩) ∧ d = .bool (bestL g k (nextTo g k 8)).isSome ∧ hAt g k < f ∧ n' + f ≤ 5002 ∧ Hid (wr.ownsRow (w.heap.size + 1) 2 1 (.slice A' n' c') n' (ints (pre ++ [(k : Int)]))) ∧ Hid (descF g 5001 cell = pre ++ descF g f k) ∧ Hid (Blk wr b9 85 #[.int .i64 (bestV (bestL g k (nextTo g k 8))).cell, .int .i64 (bestV (bestL g k (nextTo g k 8))).dir, .int .i64 (bestV (bestL g k (nextTo g k 8))).slope]) ∧ Hid (Blk wr w.heap.size 26 #[.int .i64 g.rows, .int .i64 g.cols, .int .i64 g.size, .slice A n c]) ∧ Hid (Below w.heap.size w wr) ∧ w.heap.size + 1 ≤ wr.heap.size) (fun o _ _ _ => 5002 - lenV o)
  case atStart => exact ⟨cell, 5001, 1, _, _, _, [], hc, rfl, rfl, rfl, by have := hAt_bd HOK.out cell; omega, by omega, HO2, Lib.hid rfl, HK9, HK2, HT2, by omega⟩
  case round =>
    clear HO2 HK9 HK2 HT2
    obtain ⟨k, f, n', b9, c', A', pre, hk, rfl, rfl, rfl, hf, hn', HO, HD, HK9, HK, HT, hsz⟩ := hrel
    cases hbb : bestL g k (nextTo g k 8) with
    | none =>
      have HE := Lib.hid (descF_none (f := f) hbb)
      have hS0 : (none : Option Stp).isSome = false := rfl
      rw [hS0]
      clear hbb
      go_wp2
      go_ret
      exact ⟨A', n', c', rfl, by rw [HD.out, HE.out]; exact (Own.of_owns HO.out (Nat.le_refl _)).widen (by omega) (Nat.le_refl _), by omega, HT.out⟩
    | some y =>
      obtain ⟨t, hyt, ht, hlow⟩ := best_cell HOK.out hbb
      obtain ⟨f', rfl⟩ : ∃ f', f = f' + 1 := ⟨f - 1, by have := hAt_bd HOK.out k; omega⟩
      have HE := Lib.hid (descF_some (f := f') hbb hyt)
      have hS0 : (some y : Option Stp).isSome = true := rfl
      have hS1 : bestV (some y) = y := rfl
      rw [hbb, hS1] at HK9
      rw [hS0]
      obtain ⟨yc, yd, ys⟩ := y
      simp only at hyt HK9
      subst hyt
      rw [HL.out] at ht
      have hft : hAt g t < f' := by omega
      clear hbb hlow hf hS0 hS1
      have x0 : wr.cell? ⟨b9, 0, none⟩ = some (.int .i64 t) := HK9.out.cell 0
      go_wp2_with (at_builtin; refine app_keep rfl (.tmp 24) (.tmp 27) rfl (w.heap.size + 1) _ n' (pre ++ [(k : Int)]) [(t : Int)] _ _ 1 1 rfl (owns_al HO.out _) rfl (greads_lit1 _ _) (by omega) ?_ ?_)
      rotate_left 1
      · intro v4 w4 O4 B4 hs4 G4
        have HK9' := Lib.hid ((HK9.out.alloc (.cells #[.int .i64 t] 2)).grown G4 (fun e => own_blk_ne HO.out HK9.out (by decide) e.symm))
        have hs4' : wr.heap.size ≤ w4.heap.size := by first | omega | (simp at hs4; omega)
        have B5 : Below (w.heap.size + 1) wr w4 := ((Below.refl wr.heap.size wr).alloc (Nat.le_refl _) _ |>.mono hsz).trans B4
        have HT4 := Lib.hid (HT.out.trans (B5.mono (by omega)))
        have HK4 := Lib.hid (HK.out.below B5 (by omega))
        obtain ⟨A5, c5, hv5, _, _⟩ := (Own.of_owns O4 (Nat.le_refl _)).slice
        subst hv5
        have HO4 := Lib.hid (Own.of_owns O4 (Nat.le_refl _))
        clear O4 B4 hs4 G4 B5 x0
        have x0 : w4.cell? ⟨b9, 0, none⟩ = some (.int .i64 t) := HK9'.out.cell 0
        have x1 : w4.cell? ⟨b9, 1, none⟩ = some (.int .i64 yd) := HK9'.out.cell 1
        have x2 : w4.cell? ⟨b9, 2, none⟩ = some (.int .i64 ys) := HK9'.out.cell 2
        obtain ⟨W5, hW5⟩ : ∃ W, W = w4.alloc (.cells #[.int .i64 t, .int .i64 yd, .int .i64 ys] 85) := ⟨_, rfl⟩
        have B5 : Below w4.heap.size w4 W5 := by rw [hW5]; exact (Below.refl _ _).alloc (Nat.le_refl _) _
        have hs5 : W5.heap.size = w4.heap.size + 1 := by rw [hW5]; simp
        have K5 : Hid (Blk W5 w4.heap.size 85 #[.int .i64 t, .int .i64 yd, .int .i64 ys]) := Lib.hid (by rw [hW5]; exact Blk.new _ _ _)
        have HT5 := Lib.hid (HT4.out.trans (B5.mono HT4.out.size))
        have HK5 := Lib.hid (HK4.out.below B5 (by omega))
        have HO5 := Lib.hid (HO4.out.below B5 (Nat.le_refl _))
        have HW5 := Lib.hid hW5
        clear B5 hW5
        go_upto_region 4 with (fail)
        rw [← HW5.out]
        clear HW5 x0 x1 x2
        have z0 : W5.cell? ⟨w.heap.size, 0, none⟩ = some (.int .i64 g.rows) := HK5.out.cell 0
        have z1 : W5.cell? ⟨w.heap.size, 1, none⟩ = some (.int .i64 g.cols) := HK5.out.cell 1
        have z2 : W5.cell? ⟨w.heap.size, 2, none⟩ = some (.int .i64 g.size) := HK5.out.cell 2
        have z3 : W5.cell? ⟨w.heap.size, 3, none⟩ = some (.slice A n c) := HK5.out.cell 3
        have z4 : W5.cell? ⟨w4.heap.size, 0, none⟩ = some (.int .i64 t) := K5.out.cell 0
        go_wp2_with fail
        refine (HN.out t ht W5 HT5.out).mono ?_
        rintro e w6 ⟨rfl, B6⟩
        have K6 := Lib.hid (K5.out.below B6 (by omega))
        have hs6 := B6.size
        have HT6 := Lib.hid (HT5.out.trans (B6.mono HT5.out.size))
        have HK6 := Lib.hid (HK5.out.below B6 (by omega))
        have HO6 := Lib.hid (HO5.out.below B6 (by omega))
        clear B6 z0 z1 z2 z3 z4
        simp only [Stp.val]
        have q0 : w6.cell? ⟨w4.heap.size, 0, none⟩ = some (.int .i64 t) := K6.out.cell 0
        have q1 : w6.cell? ⟨w4.heap.size, 1, none⟩ = some (.int .i64 yd) := K6.out.cell 1
        have q2 : w6.cell? ⟨w4.heap.size, 2, none⟩ = some (.int .i64 ys) := K6.out.cell 2
        have f0 := K6.out.frozen 0
        have f1 := K6.out.frozen 1
        have f2 := K6.out.frozen 2
        go_wp2
        go_roundw
        case rel => exact ⟨t, f', n' + 1, w4.heap.size, c5, A5, pre ++ [(k : Int)], ht, rfl, rfl, rfl, hft, by omega, Lib.hid (by rw [List.append_assoc]; exact set3_own' HO6.out (Nat.le_refl _) _ _ _), Lib.hid (by rw [HD.out, HE.out]; simp), Lib.hid (set3_blk K6.out _ _ _), Lib.hid (set3_far HK6.out (by omega) _ _ _), Lib.hid (set3_below HT6.out (by omega) _ _ _), Nat.le_trans (show w.heap.size + 1 ≤ w6.heap.size from by omega) (Nat.le_of_eq (set3_size w6 w4.heap.size _ _ _).symm)⟩
        case measure => simp [lenV]; omega
      · simp; omega
set_option maxHeartbeats 4000000 in
theorem l09Descent_c (g : Gr) (b : Nat) (A : Option Addr) (n c B : Nat) (cell : Nat) (w : World) (hg : GP w b B g A n c) (hok : g.ok = true) (hc : cell < n) :
    Calls Try.prog 72 #[.pointer (some ⟨b, 0, none⟩), .int .i64 cell] w (DescPost g cell w) := by
  have HG := Lib.hid fun (k : Nat) (hk : k < n) W (hW : Below w.heap.size w W) a (ha : a < 8) => l09Go_c g b A n c B k a W (hg.below hW) hok hk ha
  have HST := Lib.hid fun (k : Nat) (hk : k < n) W (hW : Below w.heap.size w W) => l09Steepest_c g b A n c B k W (hg.below hW) hok hk
  have HOK := Lib.hid (Gr.ok_bd hok)
  have HL := Lib.hid hg.gs.len
  clear hg hok
  have O1 : Hid ((w.alloc (.cells #[.int .i64 cell] 2)).ownsRow w.heap.size 2 1 (.slice (some ⟨w.heap.size, 0, none⟩) 1 1) 1 (ints ([] ++ [(cell : Int)]))) := Lib.hid (World.ownsRow_lit (w := w) (base := w.heap.size) (e := 2) (size := 1) #[.int .i64 cell] 1 (Nat.le_refl _) (by simp [maxLen]) (by simp))
  have HT := Lib.hid ((Below.refl w.heap.size w).alloc (Nat.le_refl _) (.cells #[.int .i64 cell] 2))
  go_enter Try.func72, Try.ntmps72
  go_wp2_with fail
  go_loopw [1, 5] (fun ci o wr => ∃ (k f n' : Nat) (pre : List Int), k < n ∧ ci = .int .i64 k ∧ hAt g k < f ∧ n' + f ≤ 5002 ∧ Hid (wr.ownsRow w.heap.size 2 1 o n' (ints (pre ++ [(k : Int)]))) ∧ Hid (descF g 5001 cell = pre ++ descF g f k) ∧ Hid (Below w.heap.size w wr)) (fun ci _ _ => (hAt g (intOf ci)).toNat)
  case atStart => exact ⟨cell, 5001, 1, [], hc, rfl, by have := hAt_bd HOK.out cell; omega, by omega, O1, Lib.hid rfl, HT⟩
  case round =>
    clear O1 HT
    obtain ⟨k, f, n', pre, hk, rfl, hf, hn', HO, HD, HT⟩ := hrel
    have hwz := HT.out.size
    go_wp2_with fail
    refine (HST.out k hk wr HT.out).mono ?_
    rintro e w1 ⟨rfl, B1⟩
    have HT1 := Lib.hid (HT.out.trans (B1.mono HT.out.size))
    have HO1 := Lib.hid (owns_bel HO.out B1 (Nat.le_refl _))
    clear B1
    cases hbb : bestL g k (nextTo g k 8) with
    | none =>
      have HE := Lib.hid (descF_none (f := f) hbb)
      simp only [encD, encS]
      clear hbb
      obtain ⟨A', c', hv', _, _⟩ := (Own.of_owns HO1.out (Nat.le_refl _)).slice
      subst hv'
      go_wp2
      go_ret
      exact ⟨A', n', c', rfl, by rw [HD.out, HE.out]; exact (Own.of_owns HO1.out (Nat.le_refl _)).widen (Nat.le_refl _) (Nat.le_refl _), by omega, HT1.out⟩
    | some y =>
      obtain ⟨t, hyt, ht, hlow⟩ := best_cell HOK.out hbb
      obtain ⟨f', rfl⟩ : ∃ f', f = f' + 1 := ⟨f - 1, by have := hAt_bd HOK.out k; omega⟩
      have HE := Lib.hid (descF_some (f := f') hbb hyt)
      obtain ⟨d, hd, hgb, hy⟩ := nextTo_mem (bestL_mem hbb).1
      have HGV : Hid (goV g k d = t) := Lib.hid (by rw [← hyt, hy]; rfl)
      have hyd : y.dir = d := by rw [hy]; rfl
      simp only [encD, encS, hyd]
      have hdn : ¬ (d : Int) < 0 := by omega
      rw [HL.out] at ht
      have HLOW := Lib.hid hlow
      have HFF := Lib.hid hf
      have hms : (hAt g t).toNat < (hAt g k).toNat := by have h1 := hAt_bd HOK.out t; omega
      have hft : hAt g t < f' := by omega
      clear hbb hy hgb hyd hyt hlow hf
      go_wp2_with fail
      refine (HG.out k hk w1 HT1.out d hd).mono ?_
      rintro e w2 ⟨rfl, B2⟩
      rw [HGV.out]
      have HT2 := Lib.hid (HT1.out.trans (B2.mono HT1.out.size))
      have HO2 := Lib.hid (owns_bel HO1.out B2 (Nat.le_refl _))
      have hw2 := HT2.out.size
      clear B2
      go_wp2_with (at_builtin; refine app_i64 rfl (.tmp 23) (.tmp 25) rfl w.heap.size _ n' (pre ++ [(k : Int)]) t _ rfl (owns_al HO2.out _) rfl ?_ (by omega) ?_ ?_)
      rotate_left 2
      · intro v4 w4 O4 B4 hs4
        have O4' := Lib.hid O4
        have B4' := Lib.hid (HT2.out.trans (((Below.refl w2.heap.size w2).alloc (Nat.le_refl _) _ |>.mono HT2.out.size).trans B4))
        clear O4 B4 hs4
        go_wp2
        go_roundw
        case rel => exact ⟨t, f', n' + 1, pre ++ [(k : Int)], ht, rfl, hft, by omega, Lib.hid (by have h := O4'.out; simpa using h), Lib.hid (by rw [HD.out, HE.out]; simp), B4'⟩
        case measure => simpa [intOf] using hms
      · exact (Blk.new _ _ _).cell 0
      · simp; omega
def descV (g : Gr) (a : Int) : List Int := if askG g a ≠ 0 then [] else descF g 5001 a.toNat
def DescOfPost (g : Gr) (a : Int) (w : World) (e : Ending) (w' : World) : Prop :=
  ∃ A n c, e = .returned (.tuple #[.slice A n c, .int .i64 (askG g a)]) ∧ Own w' w.heap.size w'.heap.size 2 1 (.slice A n c) n (ints (descV g a)) ∧ n ≤ 5002 ∧ Below w.heap.size w w'
theorem descOf_err {g : Gr} {a : Int} {w w' : World} (h0 : askG g a ≠ 0) (hb : Below w.heap.size w w') : DescOfPost g a w (.returned (.tuple #[.slice none 0 0, .int .i64 (askG g a)])) w' :=
  ⟨none, 0, 0, rfl, by rw [descV, if_pos h0]; exact Own.nil, by omega, hb⟩
set_option maxHeartbeats 2000000 in
theorem iDescentOf_c (g : Gr) (A : Option Addr) (n c B : Nat) (a : Int) (w : World) (hg : GS w B g A n c) :
    Calls Try.prog 41 #[g.val A n c, .int .i64 a] w (DescOfPost g a w) := by
  have HT0 := Lib.hid ((Below.refl w.heap.size w).alloc (Nat.le_refl _) (.cells (g.cells A n c) 26))
  have HS0 : Hid ((w.alloc (.cells (g.cells A n c) 26)).heap.size = w.heap.size + 1) := Lib.hid (by simp)
  have HK0 := Lib.hid (Blk.new w 26 (g.cells A n c))
  obtain ⟨X0, hX0⟩ : ∃ X, X = w.alloc (.cells (g.cells A n c) 26) := ⟨_, rfl⟩
  rw [← hX0] at HT0 HS0 HK0
  obtain ⟨X1, hX1⟩ : ∃ X, X = X0.alloc (.cells #[.int .i64 a] 2) := ⟨_, rfl⟩
  have HR1 : Hid (Reads X1 (X0.heap.size + 1) 1 (some ⟨X0.heap.size, 0, none⟩) 1 (ints [a])) := Lib.hid (by rw [hX1]; exact greads_lit1 _ _)
  have HT1 : Hid (Below w.heap.size w X1) := Lib.hid (by rw [hX1]; exact HT0.out.alloc HT0.out.size _)
  have HS1 : Hid (X1.heap.size = w.heap.size + 1 + 1) := Lib.hid (by rw [hX1]; simp [HS0.out])
  have HK1 : Hid (Blk X1 w.heap.size 26 (g.cells A n c)) := Lib.hid (by rw [hX1]; exact HK0.out.alloc _)
  rw [HS0.out] at HR1
  have HC := Lib.hid (gcode_c g A n c B _ 1 1 _ [a] X1 (hg.below HT1.out) HR1.out (by rw [HS1.out]; omega) (by omega))
  rw [codeG_one] at HC
  have HX1 := Lib.hid (show X1 = (w.alloc (.cells (g.cells A n c) 26)).alloc (.cells #[.int .i64 a] 2) from by rw [hX1, hX0])
  have HN := Lib.hid fun (hok : g.ok = true) (k : Nat) (hk : k < n) W (hW : Below w.heap.size w W) => descent_c g A n c B k W (hg.below hW) hok hk
  have HL := Lib.hid hg.len
  have HG := Lib.hid hg
  clear hg hX0 hX1 HR1
  simp only [Gr.val, Gr.cells] at *
  by_cases h0 : askG g a = 0
  · obtain ⟨hok, ha0, ha1⟩ := askG_zero h0
    obtain ⟨k, rfl⟩ : ∃ k : Nat, a = k := ⟨a.toNat, by omega⟩
    have hkn : k < n := by rw [← HL.out]; omega
    have HV : Hid (descV g k = descF g 5001 k) := Lib.hid (by rw [descV, if_neg (by simp [h0])]; simp)
    rw [h0] at HC
    have HA0 := Lib.hid h0
    have HN1 := Lib.hid (HN.out hok k hkn)
    clear h0 hok ha0 ha1 HN
    go_enter Try.func41, Try.ntmps41
    go_wp2_with fail
    rw [← HX1.out]
    refine HC.out.mono ?_
    rintro e w1 ⟨rfl, hb1⟩
    have HK2 := Lib.hid (HK1.out.below hb1 (by rw [HS1.out]; omega))
    have HT2 := Lib.hid (HT1.out.trans (hb1.mono HT1.out.size))
    clear hb1
    have x0 : w1.cell? ⟨w.heap.size, 0, none⟩ = some (.int .i64 g.rows) := HK2.out.cell 0
    have x1 : w1.cell? ⟨w.heap.size, 1, none⟩ = some (.int .i64 g.cols) := HK2.out.cell 1
    have x2 : w1.cell? ⟨w.heap.size, 2, none⟩ = some (.int .i64 g.size) := HK2.out.cell 2
    have x3 : w1.cell? ⟨w.heap.size, 3, none⟩ = some (.slice A n c) := HK2.out.cell 3
    go_wp2_with fail
    refine (HN1.out w1 HT2.out).mono ?_
    rintro e w2 ⟨A2, m, c2, rfl, O2, hm2, B2⟩
    have HT3 := Lib.hid (HT2.out.trans (B2.mono HT2.out.size))
    have HO := Lib.hid (O2.widen HT2.out.size (Nat.le_refl _))
    clear x0 x1 x2 x3 O2 B2
    go_wp2
    go_ret2
    exact ⟨A2, m, c2, congrArg (fun z => Ending.returned (.tuple #[.slice A2 m c2, .int .i64 z])) HA0.out.symm, by rw [HV.out]; exact HO.out, hm2, HT3.out⟩
  · have hne : (askG g a != 0) = true := by simpa using h0
    have H0 := Lib.hid h0
    clear h0
    go_enter Try.func41, Try.ntmps41
    go_wp2_with fail
    rw [← HX1.out]
    refine HC.out.mono ?_
    rintro e w1 ⟨rfl, hb1⟩
    have HT2 := Lib.hid (HT1.out.trans (hb1.mono HT1.out.size))
    clear hb1
    go_wp2
    go_ret2
    exact descOf_err H0.out HT2.out
set_option maxHeartbeats 2000000 in
theorem sDescentOf_c (g : Gr) (A : Option Addr) (n c B : Nat) (a : Int) (w : World) (hg : GS w B g A n c) :
    Calls Try.prog 40 #[g.val A n c, .int .i64 a] w (DescOfPost g a w) := by
  have HP := Lib.hid (GP.new hg)
  have HT := Lib.hid ((Below.refl w.heap.size w).alloc (Nat.le_refl _) (.cells (g.cells A n c) 26))
  have HS : Hid ((w.alloc (.cells (g.cells A n c) 26)).heap.size = w.heap.size + 1) := Lib.hid (by simp)
  obtain ⟨X, hX⟩ : ∃ X, X = w.alloc (.cells (g.cells A n c) 26) := ⟨_, rfl⟩
  rw [← hX] at HP HT HS
  have HASK := Lib.hid (l09Ask_c g w.heap.size A n c B a X HP.out)
  have HL := Lib.hid hg.len
  have HX := Lib.hid hX
  clear hg hX
  simp only [Gr.val, Gr.cells] at *
  by_cases h0 : askG g a = 0
  · obtain ⟨hok, ha0, ha1⟩ := askG_zero h0
    have HA0 := Lib.hid h0
    rw [h0] at HASK
    obtain ⟨k, rfl⟩ : ∃ k : Nat, a = k := ⟨a.toNat, by omega⟩
    have hkn : k < n := by rw [← HL.out]; omega
    have HV : Hid (descV g k = descF g 5001 k) := Lib.hid (by rw [descV, if_neg (by simp [h0])]; simp)
    have HST := Lib.hid fun W (hW : Below X.heap.size X W) => l09Descent_c g w.heap.size A n c B k W (HP.out.below hW) hok hkn
    clear h0 hok ha0 ha1
    go_enter Try.func40, Try.ntmps40
    go_wp2_with fail
    rw [← HX.out]
    refine HASK.out.mono ?_
    rintro e w' ⟨rfl, q, rfl⟩
    go_wp2_with fail
    refine (HST.out _ (below_drewN (Below.refl _ _) q)).mono ?_
    rintro e w2 ⟨A2, m, c2, rfl, O2, hm2, B2⟩
    have HB2 : Hid (Below X.heap.size X w2) := Lib.hid ((below_drewN (Below.refl X.heap.size X) _).trans (B2.mono (by simp)))
    have HO := Lib.hid (O2.widen (show w.heap.size ≤ X.heap.size from by rw [HS.out]; omega) (Nat.le_refl _))
    clear B2 O2
    go_wp2
    go_ret2
    exact ⟨A2, m, c2, congrArg (fun z => Ending.returned (.tuple #[.slice A2 m c2, .int .i64 z])) HA0.out.symm, by rw [HV.out]; exact HO.out, hm2, HT.out.trans (HB2.out.mono HT.out.size)⟩
  · have hne : (askG g a != 0) = true := by simpa using h0
    have H0 := Lib.hid h0
    clear h0
    go_enter Try.func40, Try.ntmps40
    go_wp2_with fail
    rw [← HX.out]
    refine HASK.out.mono ?_
    rintro e w' ⟨rfl, q, rfl⟩
    go_wp2
    go_ret2
    exact descOf_err H0.out (below_drewN HT.out _)
end Go.Proofs.Ytaoomildopmclaa
