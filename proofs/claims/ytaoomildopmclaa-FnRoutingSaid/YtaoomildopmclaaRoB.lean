/- Masses that run: a step by the program. -/
import Derived.Test.YtaoomildopmclaaRoA
import Derived.Deep.RegionLaw
import Derived.Deep.DrawnRows
import Derived.Deep.DeepCutAuto
import Derived.BigQuiet
import Derived.StillTailTactics
namespace Go.Proofs.Ytaoomildopmclaa
open Go.ChangeShapes Go.WideShapes Go.ChangeAt Go.RowKit
set_option linter.unusedVariables false
theorem Own.away {w w' : World} {lo hi b d s n : Nat} {T : TypeId} {v : Value} {xs : List Value} (h : Own w lo hi T s v n xs) (ho : Only b d w w') (hne : ∀ g, v.ownBlock = some g → g < b ∨ d ≤ g) : Own w' lo hi T s v n xs := by
  refine ⟨⟨h.1.1, ?_⟩, h.2⟩
  rcases h.1.2 with hn | ⟨g, cap, cur, rfl, hb, hg, rest⟩
  · exact .inl hn
  · refine .inr ⟨g, cap, cur, rfl, hb, ?_, rest⟩
    rw [ho.block g (Array.getElem?_eq_some_iff.1 hg).1 (hne g (by simp [Value.ownBlock]))]
    exact hg
theorem only_set (w : World) (p : Addr) (u : Value) : Only p.block (p.block + 1) w (w.setCell p u) := ⟨rfl, rfl, rfl, by simp, fun k hk hc => Below.heap_setCell _ _ _ _ (by omega)⟩
theorem ints_set (l : List Int) (i : Nat) (z : Int) : ints (l.set i z) = (ints l).set i (.int .i64 z) := by simp [ints, List.map_set]
/-- two rows of integers of the call's own, each in a block, and the grid's box -/
structure RSt (w0 wr : World) (b0 bd be n : Nat) (gc : Array Value) (s : List Int × List Int) : Prop where
  mv : Own wr bd (bd + 1) 2 1 (.slice (some ⟨bd, 0, none⟩) n n) n (ints s.1)
  st : Own wr be (be + 1) 2 1 (.slice (some ⟨be, 0, none⟩) n n) n (ints s.2)
  box : Blk wr b0 26 gc
  ne : bd ≠ be
  hd : b0 < bd ∧ bd < b0 + 3
  he : b0 < be ∧ be < b0 + 3
  h0 : w0.heap.size ≤ b0
  sz : b0 + 3 ≤ wr.heap.size
  bel : Below w0.heap.size w0 wr
section
variable {w0 wr : World} {b0 bd be n : Nat} {gc : Array Value} {s : List Int × List Int}
theorem RSt.below {w1 : World} (h : RSt w0 wr b0 bd be n gc s) (hb : Below wr.heap.size wr w1) : RSt w0 w1 b0 bd be n gc s := by
  have := h.sz; have := h.hd; have := h.he; have := hb.size; have := h.bel.size
  exact ⟨h.mv.below hb (by omega), h.st.below hb (by omega), h.box.below hb (by omega), h.ne, h.hd, h.he, h.h0, by omega, h.bel.trans (hb.mono (by omega))⟩
theorem RSt.drewN (h : RSt w0 wr b0 bd be n gc s) (q : Nat) : RSt w0 (wr.drewN q) b0 bd be n gc s := h.below (below_drewN (Below.refl _ _) q)
theorem RSt.drew (h : RSt w0 wr b0 bd be n gc s) : RSt w0 wr.drew b0 bd be n gc s := h.below (Below.refl _ _).drew
theorem RSt.alloc (h : RSt w0 wr b0 bd be n gc s) (o : Obj) : RSt w0 (wr.alloc o) b0 bd be n gc s := h.below ((Below.refl _ _).alloc (Nat.le_refl _) o)
theorem RSt.mvAt (h : RSt w0 wr b0 bd be n gc s) {k : Nat} (hk : k < n) : wr.cell? ⟨bd, k, none⟩ = some (.int .i64 (at0 s.1 k)) ∧ wr.frozen? ⟨bd, k, none⟩ = false := by
  have hl : s.1.length = n := h.mv.reads.len
  refine ⟨?_, h.mv.1.frozenAt k⟩
  rw [h.mv.1.cellAt k (by omega)]
  simp [ints, at0_el (show k < s.1.length by omega)]
theorem RSt.stAt (h : RSt w0 wr b0 bd be n gc s) {k : Nat} (hk : k < n) : wr.cell? ⟨be, k, none⟩ = some (.int .i64 (at0 s.2 k)) ∧ wr.frozen? ⟨be, k, none⟩ = false := by
  have hl : s.2.length = n := h.st.reads.len
  refine ⟨?_, h.st.1.frozenAt k⟩
  rw [h.st.1.cellAt k (by omega)]
  simp [ints, at0_el (show k < s.2.length by omega)]
theorem RSt.setMv (h : RSt w0 wr b0 bd be n gc s) (k : Nat) (z : Int) : RSt w0 (wr.setCell ⟨bd, k, none⟩ (.int .i64 z)) b0 bd be n gc (s.1.set k z, s.2) := by
  have h1 := h.mv.stored (j := k) (.int .i64 z)
  have := h.sz; have := h.hd; have := h.he; have := h.ne; have := h.h0
  refine ⟨by rw [ints_set]; exact h1.1, h.st.away (only_set wr _ _) (fun g hg => by simp [Value.ownBlock] at hg; show g < bd ∨ bd + 1 ≤ g; omega), h.box.far (show b0 ≠ bd by omega) _, h.ne, h.hd, h.he, h.h0, by simpa using h.sz, h.bel.setCell (show w0.heap.size ≤ bd by omega) _⟩
theorem RSt.setSt (h : RSt w0 wr b0 bd be n gc s) (k : Nat) (z : Int) : RSt w0 (wr.setCell ⟨be, k, none⟩ (.int .i64 z)) b0 bd be n gc (s.1, s.2.set k z) := by
  have h1 := h.st.stored (j := k) (.int .i64 z)
  have := h.sz; have := h.hd; have := h.he; have := h.ne; have := h.h0
  refine ⟨h.mv.away (only_set wr _ _) (fun g hg => by simp [Value.ownBlock] at hg; show g < be ∨ be + 1 ≤ g; omega), by rw [ints_set]; exact h1.1, h.box.far (show b0 ≠ be by omega) _, h.ne, h.hd, h.he, h.h0, by simpa using h.sz, h.bel.setCell (show w0.heap.size ≤ be by omega) _⟩
/-- a store into a block that is none of these -/
theorem RSt.far (h : RSt w0 wr b0 bd be n gc s) {p : Addr} (hp : b0 + 3 ≤ p.block) (u : Value) : RSt w0 (wr.setCell p u) b0 bd be n gc s := by
  have := h.sz; have := h.hd; have := h.he; have := h.h0
  exact ⟨h.mv.away (only_set wr _ _) (fun g hg => by simp [Value.ownBlock] at hg; omega), h.st.away (only_set wr _ _) (fun g hg => by simp [Value.ownBlock] at hg; omega), h.box.far (by omega) _, h.ne, h.hd, h.he, h.h0, by simpa using h.sz, h.bel.setCell (by omega) _⟩
end
theorem owns_al {w : World} {lo s n : Nat} {T : TypeId} {v : Value} {xs : List Value} (h : w.ownsRow lo T s v n xs) (o : Obj) : (w.alloc o).ownsRow lo T s v n xs := by
  have h2 : Own w lo w.heap.size T s v n xs := Own.of_owns h (Nat.le_refl _)
  exact (h2.below ((Below.refl w.heap.size w).alloc (Nat.le_refl _) o) (Nat.le_refl _)).1
/-- append of one step; what the row does not hold stays -/
theorem app_stpk {ops : Array Oper} {rest : List Oper} {o : Oper} {a : Act} {Q : Exit → Act → World → Prop} {w : World} (hgd : o.guard = none) (s x : Operand)
    (ho : o.op = .call { callee := .builtin .append, args := #[s, x], argTypes := #[82, 82] })
    (lo : Nat) (v : Value) (n : Nat) (ss : List Stp) (z : Stp) (g : Nat) (hs : a.eval s = v) (hown : w.ownsRow lo 85 3 v n (stps ss))
    (hx : a.eval x = .slice (some ⟨g, 0, none⟩) 1 1) (hk : Blk w g 85 #[.int .i64 z.cell, .int .i64 z.dir, .int .i64 z.slope])
    (hn : n ≤ 100000000000) (hlo : lo ≤ w.heap.size)
    (h : ∀ v' w', w'.ownsRow lo 85 3 v' (n + 1) (stps (ss ++ [z])) → Below lo w w' → w.grownBy w' v.ownBlock → wpList Try.prog ops Q rest (a.put o.dst v') w') : wpList Try.prog ops Q (o :: rest) a w := by
  obtain ⟨i, hi, hz, hs', hb⟩ := info_parts info_stp
  refine wpList_append_any w hgd s x _ ho lo _ i _ 3 24 Try.underlying82 hi hz hs' hb rfl (by omega) v n (stps ss) hs hown w.heap.size (some ⟨g, 0, none⟩) 1 1 z.cells hx
    ⟨rfl, fun _ => ⟨_, rfl, hk.lt, fun j u hu => ?_⟩⟩ (by simp [Value.oneCell', Stp.cells]) (by simp only [maxLen]; omega) (by omega) hlo ?_
  · rw [show (⟨g, 0, none⟩ : Addr).add j = ⟨g, j, none⟩ from by unfold Addr.add; split <;> simp_all]
    rw [hk.cell j]
    simpa [Stp.cells] using hu
  · intro v' w' h2 h3 _
    exact h v' w' (by rw [stps_app]; simpa [stps] using h2) ((Below.refl _ _).grown h3 hlo (fun k hk => (hown.lt k hk).1)) h3
theorem set3_up {w : World} {lo hi s n b : Nat} {T : TypeId} {v : Value} {xs : List Value} (h : Own w lo hi T s v n xs) (hb : hi ≤ b) (u0 u1 u2 : Value) : Own (set3 w b u0 u1 u2) lo hi T s v n xs :=
  ((h.only (only_set w ⟨b, 0, none⟩ u0) (.inl hb)).only (only_set _ ⟨b, 1, none⟩ u1) (.inl hb)).only (only_set _ ⟨b, 2, none⟩ u2) (.inl hb)
theorem RSt.set3 {w0 wr : World} {b0 bd be n b : Nat} {gc : Array Value} {s : List Int × List Int} (h : RSt w0 wr b0 bd be n gc s) (hb : b0 + 3 ≤ b) (u0 u1 u2 : Value) : RSt w0 (set3 wr b u0 u1 u2) b0 bd be n gc s :=
  ((h.far (p := ⟨b, 0, none⟩) hb u0).far (p := ⟨b, 1, none⟩) hb u1).far (p := ⟨b, 2, none⟩) hb u2
theorem moveTo_take {m T : Int} {mv : List Int} {ws : List Stp} {j : Nat} {x : Stp} (h : ws[j]? = some x) : moveTo m T mv (ws.take (j + 1)) = addAt (moveTo m T mv (ws.take j)) x.cell.toNat (m * x.slope / T) := by
  rw [List.take_add_one, h]; exact moveTo_snoc m T mv _ x
theorem quoS_take1 {m T : Int} {ws : List Stp} {j : Nat} {x : Stp} (h : ws[j]? = some x) : quoS m T (ws.take (j + 1)) = quoS m T (ws.take j) + m * x.slope / T := by
  rw [List.take_add_one, h]; exact quoS_snoc m T _ x
theorem best_take {b : Stp} {ws : List Stp} {j : Nat} {x : Stp} (h : ws[j]? = some x) : (ws.take (j + 1)).foldl betW b = betW ((ws.take j).foldl betW b) x := by
  rw [List.take_add_one, h]; exact List.foldl_append ..
def RoutePost (v : List Int × List Int) (n : Nat) (w : World) (e : Ending) (w' : World) : Prop :=
  ∃ D d F f a a' b b', e = .returned (.tuple #[.slice D n d, .slice F n f]) ∧ Own w' a a' 2 1 (.slice D n d) n (ints v.1) ∧ Own w' b b' 2 1 (.slice F n f) n (ints v.2) ∧ (a' ≤ b ∨ b' ≤ a) ∧ w.heap.size ≤ a ∧ w.heap.size ≤ b ∧ a' ≤ w'.heap.size ∧ b' ≤ w'.heap.size ∧ Below w.heap.size w w'
theorem RSt.done {w0 wr : World} {b0 bd be n : Nat} {gc : Array Value} {s v : List Int × List Int} (h : RSt w0 wr b0 bd be n gc s) (hv : v = s) : RoutePost v n w0 (.returned (.tuple #[.slice (some ⟨bd, 0, none⟩) n n, .slice (some ⟨be, 0, none⟩) n n])) wr := by
  subst hv
  have := h.sz; have := h.hd; have := h.he; have := h.ne; have := h.h0
  exact ⟨_, n, _, n, bd, bd + 1, be, be + 1, rfl, h.mv, h.st, by omega, by omega, by omega, by omega, by omega, h.bel⟩
theorem waysL_take {g : Gr} {c : Nat} {fr : Int} {j : Nat} {x : Stp} (h : (nextTo g c 8)[j]? = some x) : ((nextTo g c 8).take (j + 1)).filter (wayB g c fr) = ((nextTo g c 8).take j).filter (wayB g c fr) ++ if wayB g c fr x then [x] else [] := by
  rw [List.take_add_one, h, List.filter_append]
  by_cases hw : wayB g c fr x = true <;> simp [hw]
theorem prod_bd {m s : Int} (h0 : 0 ≤ m) (h1 : m ≤ 64000000) (h2 : 1 ≤ s) (h3 : s ≤ 5000000001) : 0 ≤ m * s ∧ m * s ≤ 320000000064000000 := by
  have a : 0 ≤ m * s := Int.mul_nonneg h0 (by omega)
  have b : m * s ≤ 64000000 * 5000000001 := Int.mul_le_mul h1 h3 (by omega) (by omega)
  omega
theorem quo_bd {m s T : Int} (h0 : 0 ≤ m) (h2 : 1 ≤ s) (hT : s ≤ T) : 0 ≤ m * s / T ∧ m * s / T ≤ m := by
  refine ⟨Int.ediv_nonneg (Int.mul_nonneg h0 (by omega)) (by omega), ?_⟩
  have h4 : m * s ≤ m * T := Int.mul_le_mul_of_nonneg_left hT h0
  have h5 := Int.ediv_le_ediv (show 0 < T by omega) h4
  rwa [Int.mul_ediv_cancel _ (by omega)] at h5
theorem slope_le_tot {ws : List Stp} {n : Nat} (h : WOk n ws) {x : Stp} (hx : x ∈ ws) : x.slope ≤ totS ws := by
  obtain ⟨j, hj⟩ := List.getElem?_of_mem hx
  have h1 := totS_take h (j + 1)
  have e : totS (ws.take (j + 1)) = totS (ws.take j) + x.slope := by rw [List.take_add_one, hj]; exact totS_snoc _ x
  have h2 := (totS_bd (h.take j)).1
  omega
theorem totS_bd' : ∀ {ws : List Stp}, (∀ x ∈ ws, 0 ≤ x.slope ∧ x.slope ≤ 5000000001) → 0 ≤ totS ws ∧ totS ws ≤ 5000000001 * ws.length
  | [], _ => by simp [totS]
  | x :: ws, h => by
    have h1 := totS_bd' (fun y hy => h y (List.mem_cons_of_mem _ hy)) (ws := ws)
    have h2 := h x (List.mem_cons_self ..)
    have e : totS (x :: ws) = x.slope + totS ws := by simp [totS]
    rw [e, List.length_cons]; omega
set_option maxHeartbeats 8000000 in
set_option maxRecDepth 100000 in
theorem route_c (g : Gr) (A : Option Addr) (n c B : Nat) (E : Option Addr) (ec BE : Nat) (ms : List Int) (fr : Int) (w : World) (hg : GS w B g A n c) (hok : g.ok = true) (he : Reads w BE 1 E n (ints ms)) (hE : BE ≤ w.heap.size) (hms : Nn ms) (hsum : ms.sum ≤ 64000000) (hf1 : 1 ≤ fr) (hf2 : fr ≤ 5000) :
    Calls Try.prog 50 #[g.val A n c, .slice E n ec, .int .i64 fr] w (RoutePost (routeTo g fr ms n) n w) := by
  have hb := Gr.ok_bd hok
  have HGO := Lib.hid hb
  have HL := Lib.hid hg.len
  have HLM := Lib.hid (show ms.length = n from he.len)
  have hn64 := hb.len64
  rw [HL.out] at hn64
  have HGS := Lib.hid hg
  have HN := Lib.hid fun W (hW : Below w.heap.size w W) k (hk : k < n) => next_c g A n c B k W (hg.below hW) hok hk
  have HE := Lib.hid he
  have HMS := Lib.hid hms
  have HRI := Lib.hid fun k (hk : k ≤ n) => routeTo_inv (fr := fr) (ms := ms) hb (by rw [HL.out, HLM.out]) hf1 hms k (by rw [HLM.out]; exact hk)
  have HST := Lib.hid fun k => sum_take_le hms k
  have HRS := Lib.hid fun k => routeTo_succ g fr ms k
  obtain ⟨i0, hi, hz, hs, hbb⟩ := info_parts info_i64
  have hmk : ∀ W : World, (Instr.makeSlice 24 (.int .i64 (n : Int)) (.int .i64 (n : Int))).run Try.prog W = .ok (.slice (some ⟨W.heap.size, 0, none⟩) n n) (W.alloc (.cells (madeCells #[.int .i64 0] n) 2)) := fun W => by
    have h := run_make_rowN (P := Try.prog) 24 2 i0 _ Try.underlying24 hi hz .i64 .i64 n n (Nat.le_refl _) (by rw [hbb]; omega) (by omega) W
    rw [hs, Nat.mul_one] at h
    exact h
  have hmade : ∀ (W : World) (lo : Nat), lo ≤ W.heap.size → Own (W.alloc (.cells (madeCells #[.int .i64 0] n) 2)) lo (W.heap.size + 1) 2 1 (.slice (some ⟨W.heap.size, 0, none⟩) n n) n (ints (List.replicate n 0)) := fun W lo hlo => by
    have h := Own.of_blk (lo := lo) (hi := W.heap.size + 1) (n := n) (s := 1) (Blk.new W 2 (madeCells #[.int .i64 0] n)) (by simp [madeCells]) hlo (Nat.lt_succ_self _) (by simp [maxLen]; omega)
    have e : (madeCells #[.int .i64 0] n).toList = ints (List.replicate n 0) := by simp [madeCells, ints, Nat.mod_one, List.map_const']
    rw [e] at h; exact h
  have HMD := Lib.hid hmade
  obtain ⟨X, hX⟩ : ∃ X, X = w.alloc (.cells (g.cells A n c) 26) := ⟨_, rfl⟩
  have HX := Lib.hid hX
  have HT : Hid (Below w.heap.size w X) := Lib.hid (by rw [hX]; exact (Below.refl w.heap.size w).alloc (Nat.le_refl _) _)
  have hsX : X.heap.size = w.heap.size + 1 := by rw [hX]; simp
  have HK0 : Hid (Blk X w.heap.size 26 (g.cells A n c)) := Lib.hid (by rw [hX]; exact Blk.new _ _ _)
  have hbig := hg.big
  clear hg hok he hms hb hX hi hz hs hbb i0 hmade
  obtain ⟨gc, hgc⟩ : ∃ gc, gc = g.cells A n c := ⟨_, rfl⟩
  have HGC := Lib.hid hgc
  rw [← hgc] at HK0
  clear hgc
  simp only [Gr.val, Gr.cells] at *
  go_enter Try.func50, Try.ntmps50
  go_upto_region 1 with (fail)
  rw [← HX.out]
  go_cut [8, 9] (fun o p wx => ∃ bd be, o = .slice (some ⟨bd, 0, none⟩) n n ∧ p = .slice (some ⟨be, 0, none⟩) n n ∧ Hid (RSt w wx w.heap.size bd be n gc (List.replicate n 0, List.replicate n 0)))
  case first =>
    have HY : Hid (∀ Y, Below (w.heap.size + 1 + 1 + 1) ((X.alloc (.cells (madeCells #[.int .i64 0] n) 2)).alloc (.cells (madeCells #[.int .i64 0] n) 2)) Y → RSt w Y w.heap.size (w.heap.size + 1) (w.heap.size + 1 + 1) n gc (List.replicate n 0, List.replicate n 0) ∧ RSt w Y w.heap.size (w.heap.size + 1 + 1) (w.heap.size + 1) n gc (List.replicate n 0, List.replicate n 0)) := Lib.hid fun Y hY => by
      have hx2 : (X.alloc (.cells (madeCells #[.int .i64 0] n) 2)).heap.size = w.heap.size + 1 + 1 := by simp [hsX]
      have o1 := (HMD.out X (w.heap.size + 1) (by omega)).below ((Below.refl (X.alloc (.cells (madeCells #[.int .i64 0] n) 2)).heap.size _).alloc (Nat.le_refl _) (.cells (madeCells #[.int .i64 0] n) 2)) (by rw [hx2]; omega)
      have o2 := HMD.out (X.alloc (.cells (madeCells #[.int .i64 0] n) 2)) (w.heap.size + 1 + 1) (by omega)
      rw [hsX] at o1
      rw [hx2] at o2
      have k0 := (((HK0.out.alloc (.cells (madeCells #[.int .i64 0] n) 2)).alloc (.cells (madeCells #[.int .i64 0] n) 2)).below hY (by omega))
      have q1 := o1.below hY (by omega)
      have q2 := o2.below hY (by omega)
      have hsz := hY.size
      simp at hsz
      have hbl : Below w.heap.size w Y := ((HT.out.alloc (by omega) (.cells (madeCells #[.int .i64 0] n) 2)).alloc (by rw [hx2]; omega) (.cells (madeCells #[.int .i64 0] n) 2)).trans (hY.mono (by omega))
      exact ⟨⟨q1, q2, k0, by omega, by omega, by omega, Nat.le_refl _, by omega, hbl⟩, ⟨q2, q1, k0, by omega, by omega, by omega, Nat.le_refl _, by omega, hbl⟩⟩
    go_region_law (fail)
    all_goals go_wp2_with fail
    all_goals go_meet
    all_goals first
      | exact ⟨_, _, rfl, rfl, Lib.hid (HY.out _ (Below.refl _ _)).1⟩
      | exact ⟨_, _, rfl, rfl, Lib.hid (HY.out _ (Below.refl _ _)).2⟩
      | exact ⟨_, _, rfl, rfl, Lib.hid (HY.out _ (Below.refl _ _).drew).1⟩
      | exact ⟨_, _, rfl, rfl, Lib.hid (HY.out _ (Below.refl _ _).drew).2⟩
  case rest =>
    obtain ⟨bd, be, rfl, rfl, HR⟩ := hcut
    have HV0 : Hid (routeTo g fr ms 0 = (List.replicate n 0, List.replicate n 0)) := Lib.hid (by simp [routeTo, HLM.out])
    clear hmk HMD HK0 HT hsX HX
    have HB0 := Lib.hid (show w.heap.size = w.heap.size from rfl)
    go_wp2
    go_loopw [28] (fun i wr => ∃ k : Nat, k ≤ n ∧ i = .int .i64 k ∧ Hid (RSt w wr w.heap.size bd be n gc (routeTo g fr ms k))) (fun i _ => n - (intOf i).toNat)
    case atStart => exact ⟨0, Nat.zero_le _, rfl, by rw [HV0.out]; exact HR⟩
    case round =>
      clear HR HV0
      obtain ⟨k, hk, rfl, HR⟩ := hrel
      generalize wr = wo at *
      by_cases hlt : k < n
      · have hsz := HR.out.sz
        have hwz := HR.out.bel.size
        obtain ⟨adm, m, rfl, _, hm, cm⟩ := (HE.out.below (HR.out.bel.mono hE)).int hlt
        have hmv : at0 ms k = m := at0_get hm
        have hm0 : 0 ≤ m := by have := HMS.out k; omega
        have hm1 : m ≤ 64000000 := by have := HMS.out.le k; omega
        have HI := Lib.hid (HRI.out k hk)
        have hmt : (ms.take k).sum + m ≤ 64000000 := by have h1 := HST.out (k + 1); rw [sum_take_succ, hmv] at h1; omega
        have HSC : Hid (routeTo g fr ms (k + 1) = stepC g fr m k (routeTo g fr ms k)) := Lib.hid (by rw [HRS.out, hmv])
        have hkn : (k : Int) < (n : Int) := by omega
        have hk0 : (0 : Int) ≤ (k : Int) := by omega
        have HWO := Lib.hid (ways_ok (c := k) HGO.out hf1)
        rw [HL.out] at HWO
        have hbx := HR.out.box
        rw [HGC.out] at hbx
        have x0 : wo.cell? ⟨w.heap.size, 0, none⟩ = some (.int .i64 g.rows) := hbx.cell 0
        have x1 : wo.cell? ⟨w.heap.size, 1, none⟩ = some (.int .i64 g.cols) := hbx.cell 1
        have x2 : wo.cell? ⟨w.heap.size, 2, none⟩ = some (.int .i64 g.size) := hbx.cell 2
        have x3 : wo.cell? ⟨w.heap.size, 3, none⟩ = some (.slice A n c) := hbx.cell 3
        have HNX := Lib.hid (HN.out wo HR.out.bel k hlt)
        clear hm hmv hbx
        go_wp2_with fail
        refine HNX.out.mono ?_
        rintro e wz ⟨A2, n2, c2, rfl, O2, hn2, B2⟩
        have HR2 := Lib.hid (HR.out.below B2)
        have HO2 := Lib.hid O2
        have HL2 := Lib.hid (O2.reads.stpLen)
        have hzz := B2.size
        clear x0 x1 x2 x3 cm O2 B2 HNX HR
        go_wp2
        go_loopw [12, 13, 37] (fun o tt i wr => ∃ (j : Nat) (ws : List Stp), j ≤ n2 ∧ i = .int .i64 j ∧ ws = ((nextTo g k 8).take j).filter (wayB g k fr) ∧ tt = .int .i64 (totS ws) ∧ Hid (Own wr wz.heap.size wr.heap.size 85 3 o ws.length (stps ws)) ∧ Hid (Below wz.heap.size wz wr)) (fun _ _ i _ => n2 - (intOf i).toNat)
        case atStart => exact ⟨0, [], Nat.zero_le _, rfl, by simp, rfl, Lib.hid Own.nil, Lib.hid (Below.refl _ _)⟩
        case round =>
          obtain ⟨j, ws, hj, rfl, hws, rfl, HO, HB⟩ := hrel
          generalize wr = wy at *
          have hyz := HB.out.size
          have HWS := Lib.hid hws
          by_cases hjl : j < n2
          · obtain ⟨ad, x, rfl, hbl, hx, hc9⟩ := (HO2.out.reads.below HB.out).stp hjl
            unfold StpAt at hc9
            obtain ⟨c0, c1, c2'⟩ := hc9
            obtain ⟨t, htc, ht⟩ := next_cell HGO.out hx
            rw [HL.out] at ht
            have HTK := Lib.hid (waysL_take (fr := fr) hx)
            have hxm := List.mem_of_getElem? hx
            have hslb : -5000000001 ≤ x.slope ∧ x.slope ≤ 5000000001 := by
              obtain ⟨a, _, _, e⟩ := nextTo_mem hxm
              rw [e]; exact fallV_bd HGO.out _ _ _
            have hwl : ws.length ≤ 8 := by rw [hws]; have h1 := List.length_filter_le (wayB g k fr) ((nextTo g k 8).take j); have h2 := nextTo_len g k 8; rw [List.length_take] at h1; omega
            have htb : 0 ≤ totS ws ∧ totS ws ≤ 40000000008 := by
              have h1 := totS_bd' (ws := ws) (fun y hy => by
                rw [hws] at hy
                have h3 := (List.mem_filter.1 hy).2
                unfold wayB at h3
                simp only [Bool.and_eq_true, decide_eq_true_eq] at h3
                obtain ⟨a, _, _, e⟩ := nextTo_mem (List.mem_of_mem_take (List.mem_filter.1 hy).1)
                refine ⟨by omega, ?_⟩
                rw [e]; exact (fallV_bd HGO.out _ _ _).2)
              omega
            clear hx hxm hws
            obtain ⟨xc, xd, xs⟩ := x
            simp only at htc c0 c1 c2' hslb
            subst htc
            obtain ⟨W1, hW1⟩ : ∃ W1, W1 = wy.alloc (.cells #[.int .i64 t, .int .i64 xd, .int .i64 xs] 85) := ⟨_, rfl⟩
            have K3 : Hid (Blk W1 wy.heap.size 85 #[.int .i64 t, .int .i64 xd, .int .i64 xs]) := Lib.hid (by rw [hW1]; exact Blk.new _ _ _)
            have B1 : Below wy.heap.size wy W1 := by rw [hW1]; exact (Below.refl _ _).alloc (Nat.le_refl _) _
            have HW1 := Lib.hid hW1; clear hW1
            go_upto_region 10 with (fail)
            rw [← HW1.out]
            clear c0 c1 c2' HW1
            have HBl : Hid (Below wz.heap.size wz W1) := Lib.hid (HB.out.trans (B1.mono hyz))
            have HRl := Lib.hid (HR2.out.below HBl.out)
            have HOl : Hid (Own W1 wz.heap.size W1.heap.size 85 3 u12 ws.length (stps ws)) := Lib.hid ((HO.out.below B1 (Nat.le_refl _)).widen (Nat.le_refl _) B1.size)
            have hk3 := K3.out.lt
            have HQ : Hid (∀ q, u12.ownBlock = some q → q < wy.heap.size) := Lib.hid fun q hq => HO.out.2 q hq
            obtain ⟨ah, hah, _, g1⟩ := (HGS.out.below HRl.out.bel).at_ ht
            obtain ⟨ah', e', _, g2⟩ := (HGS.out.below HRl.out.bel).at_ hlt
            obtain rfl : ah = ah' := by rw [hah] at e'; injection e'
            have hbx := HRl.out.box
            rw [HGC.out] at hbx
            have y0 : W1.cell? ⟨w.heap.size, 3, none⟩ = some (.slice A n c) := hbx.cell 3
            have y1 : W1.cell? ⟨wy.heap.size, 0, none⟩ = some (.int .i64 t) := K3.out.cell 0
            have y2 : W1.cell? ⟨wy.heap.size, 1, none⟩ = some (.int .i64 xd) := K3.out.cell 1
            have y3 : W1.cell? ⟨wy.heap.size, 2, none⟩ = some (.int .i64 xs) := K3.out.cell 2
            subst hah
            clear e' hbx B1
            have ht' : (t : Int) < (n : Int) := by omega
            have ht0 : (0 : Int) ≤ (t : Int) := by omega
            have hwt : IntKind.i64.wrap (totS ws + xs) = totS ws + xs := IntWalk.i64_in _ (by omega)
            by_cases hh : hAt g t < hAt g k
            · have hd : decide (hAt g t < hAt g k) = true := by simpa using hh
              by_cases hfs : fr ≤ xs
              · have hd2 : decide (fr ≤ xs) = true := by simpa using hfs
                have HWN : Hid (((nextTo g k 8).take (j + 1)).filter (wayB g k fr) = ws ++ [Stp.mk t xd xs]) := Lib.hid (by rw [HTK.out, ← HWS.out, if_pos (by simp [wayB, hh, hfs])])
                go_wp2
                refine wp_region_quiet_lit (by kernel_rfl) (by kernel_rfl) ?_
                repeat (first | go_big_quiet_step (fail) | quiet_step (fail))
                refine wpQuiet_nil ?_
                intro _ hw'
                obtain ⟨nq, hw''⟩ := hw'
                subst hw''
                obtain ⟨W3, hW3⟩ : ∃ W, W = W1.drewN nq := ⟨_, rfl⟩
                rw [← hW3]
                have HO3 : Hid (Own W3 wz.heap.size W3.heap.size 85 3 u12 ws.length (stps ws)) := Lib.hid (by rw [hW3]; exact HOl.out.drewN nq)
                have HB3 : Hid (Below wz.heap.size wz W3) := Lib.hid (by rw [hW3]; exact below_drewN HBl.out _)
                replace y1 : W3.cell? ⟨wy.heap.size, 0, none⟩ = some (.int .i64 t) := by rw [hW3]; exact y1
                replace y2 : W3.cell? ⟨wy.heap.size, 1, none⟩ = some (.int .i64 xd) := by rw [hW3]; exact y2
                replace y3 : W3.cell? ⟨wy.heap.size, 2, none⟩ = some (.int .i64 xs) := by rw [hW3]; exact y3
                have K33 : Hid (Blk W3 wy.heap.size 85 #[.int .i64 t, .int .i64 xd, .int .i64 xs]) := Lib.hid (by rw [hW3]; exact K3.out)
                have hz3 : wz.heap.size ≤ W3.heap.size := HB3.out.size
                clear hW3 y0 g1 g2 HOl HBl HRl K3
                have HROW := Lib.hid (owns_al HO3.out.1 (.cells #[.int .i64 t, .int .i64 xd, .int .i64 xs] 85))
                have hlo2 : wz.heap.size ≤ (W3.alloc (.cells #[.int .i64 t, .int .i64 xd, .int .i64 xs] 85)).heap.size := Nat.le_trans hz3 ((Below.refl W3.heap.size W3).alloc (Nat.le_refl _) _).size
                go_wp2_with (at_builtin; refine app_stpk rfl (.tmp 59) (.tmp 61) rfl wz.heap.size _ ws.length ws ⟨t, xd, xs⟩ _ rfl HROW.out rfl (Blk.new _ _ _) (by omega) hlo2 ?_)
                intro v2 w2 O5 B5 G5
                have HO5 : Hid (Own w2 wz.heap.size w2.heap.size 85 3 v2 (ws ++ [Stp.mk t xd xs]).length (stps (ws ++ [Stp.mk t xd xs]))) := Lib.hid (by rw [List.length_append]; exact Own.of_owns O5 (Nat.le_refl _))
                have HB5 : Hid (Below wz.heap.size wz w2) := Lib.hid ((HB3.out.alloc (Nat.le_trans (Nat.le_refl _) hz3) _).trans B5)
                have KB5 : Hid (Blk w2 wy.heap.size 85 #[.int .i64 t, .int .i64 xd, .int .i64 xs]) := Lib.hid ((K33.out.alloc _).grown G5 (fun e => absurd (HQ.out _ e.symm) (Nat.lt_irrefl _)))
                have e3 : w2.cell? ⟨wy.heap.size, 2, none⟩ = some (.int .i64 xs) := (KB5.out.cell 2)
                have htt : totS (ws ++ [Stp.mk t xd xs]) = totS ws + xs := totS_snoc ws _
                clear O5 B5 G5 HROW hlo2 y1 y2 y3 K33
                go_wp2
                go_roundw
                case rel => exact ⟨j + 1, ws ++ [Stp.mk t xd xs], by omega, by go_num, HWN.out.symm, by rw [htt], HO5, HB5⟩
                case measure => simp [intOf]; omega
              · have hd2 : decide (fr ≤ xs) = false := by simpa using hfs
                have HWN : Hid (((nextTo g k 8).take (j + 1)).filter (wayB g k fr) = ws) := Lib.hid (by rw [HTK.out, ← HWS.out, if_neg (by simp [wayB, hfs]), List.append_nil])
                go_wp2
                refine wp_region_quiet_lit (by kernel_rfl) (by kernel_rfl) ?_
                repeat (first | go_big_quiet_step (fail) | quiet_step (fail))
                refine wpQuiet_nil ?_
                intro _ hw'
                obtain ⟨nq, hw''⟩ := hw'
                subst hw''
                go_wp2
                go_roundw
                case rel => exact ⟨j + 1, ws, by omega, by go_num, HWN.out.symm, rfl, Lib.hid (HOl.out.drewN _), Lib.hid (below_drewN HBl.out _)⟩
                case measure => simp [intOf]; omega
            · have hd : decide (hAt g t < hAt g k) = false := by simpa using hh
              have HWN : Hid (((nextTo g k 8).take (j + 1)).filter (wayB g k fr) = ws) := Lib.hid (by rw [HTK.out, ← HWS.out, if_neg (by simp [wayB, hh]), List.append_nil])
              go_wp2
              refine wp_region_quiet_lit (by kernel_rfl) (by kernel_rfl) ?_
              repeat (first | go_big_quiet_step (fail) | quiet_step (fail))
              refine wpQuiet_nil ?_
              intro _ hw'
              obtain ⟨nq, hw''⟩ := hw'
              subst hw''
              go_wp2
              go_roundw
              case rel => exact ⟨j + 1, ws, by omega, by go_num, HWN.out.symm, rfl, Lib.hid (HOl.out.drewN _), Lib.hid (below_drewN HBl.out _)⟩
              case measure => simp [intOf]; omega
          · obtain rfl : j = n2 := by omega
            obtain ⟨Aw, cw, rfl, _, _⟩ := HO.out.slice
            have hwe : ws = waysL g k fr := by rw [hws, List.take_of_length_le (by have := HL2.out; omega)]; rfl
            have HWE := Lib.hid hwe
            clear hws HWS hwe
            have HRn := Lib.hid (HR2.out.below HB.out)
            have hl1 := HI.out.l1
            have hl2 := HI.out.l2
            have hs1 := HI.out.sum
            have hn1 := HI.out.n1.sum
            have hn2' := HI.out.n2.sum
            rw [HLM.out] at hl1 hl2
            by_cases hwc : ws = []
            · subst hwc
              have HSN : Hid (routeTo g fr ms (k + 1) = ((routeTo g fr ms k).1, (routeTo g fr ms k).2.set k (at0 (routeTo g fr ms k).2 k + m))) := Lib.hid (by rw [HSC.out, stepC, if_pos HWE.out.symm]; rfl)
              have hle := HI.out.n2.le k
              have hge := HI.out.n2 k
              obtain ⟨z1, z2⟩ := HRn.out.stAt hlt
              have hwz2 : IntKind.i64.wrap (at0 (routeTo g fr ms k).2 k + m) = at0 (routeTo g fr ms k).2 k + m := IntWalk.i64_in _ (by omega)
              have HRf := Lib.hid (HRn.out.setSt k (at0 (routeTo g fr ms k).2 k + m))
              rw [← HSN.out] at HRf
              go_wp2
              go_roundw
              case rel => exact ⟨k + 1, by omega, by go_num, HRf⟩
              case measure => simp [intOf]; omega
            · have HWQ : Hid (WOk n ws) := Lib.hid (by rw [HWE.out]; exact HWO.out)
              have HFIN : Hid (routeTo g fr ms (k + 1) = (addAt (moveTo m (totS ws) (routeTo g fr ms k).1 ws) (bestW ws).cell.toNat (m - quoS m (totS ws) ws), (routeTo g fr ms k).2)) := Lib.hid (by rw [HSC.out, stepC, ← HWE.out, if_neg hwc])
              have HNE := Lib.hid hwc
              have hwl : 0 < ws.length := List.length_pos_iff.2 hwc
              have hwl8 := HWQ.out.len
              have hT1 := (totS_bd HWQ.out).1
              have hT2 := (totS_bd HWQ.out).2
              have hq0 : ws[0]? = some (ws[0]'hwl) := List.getElem?_eq_getElem _
              generalize ws[0]'hwl = q0 at hq0
              have HBW : Hid (bestW ws = ws.foldl betW q0) := Lib.hid (by
                cases ws with
                | nil => simp at hwl
                | cons y r => simp at hq0; rw [hq0]; rfl)
              obtain ⟨ad, x, rfl, hbl, hx, hc9⟩ := HO.out.reads.stp hwl
              obtain rfl : x = q0 := by rw [hq0] at hx; injection hx with hx; exact hx.symm
              unfold StpAt at hc9
              simp only [Nat.zero_mul] at hc9
              rw [show ad.add 0 = ad from by unfold Addr.add; split <;> simp_all] at hc9
              obtain ⟨c0, c1, c2'⟩ := hc9
              have hbx3 : w.heap.size + 3 ≤ wy.heap.size := HRn.out.sz
              have hbdz := HR2.out.hd
              have hbdz2 := HR2.out.sz
              have HRA := Lib.hid (HRn.out.alloc (.cells #[.int .i64 x.cell, .int .i64 x.dir, .int .i64 x.slope] 85))
              have HKA : Hid (Blk (wy.alloc (.cells #[.int .i64 x.cell, .int .i64 x.dir, .int .i64 x.slope] 85)) wy.heap.size 85 #[.int .i64 x.cell, .int .i64 x.dir, .int .i64 x.slope]) := Lib.hid (Blk.new _ _ _)
              have HOA := Lib.hid (HO.out.below ((Below.refl wy.heap.size wy).alloc (Nat.le_refl _) (.cells #[.int .i64 x.cell, .int .i64 x.dir, .int .i64 x.slope] 85)) (Nat.le_refl _))
              have hq00 : quoS m (totS ws) (ws.take 0) = 0 := by simp [quoS]
              clear hx hq0 HRn HB HO HO2 HR2 hwc
              go_upto_region 17 with (fail)
              clear c0 c1 c2'
              generalize wy.alloc (.cells #[.int .i64 x.cell, .int .i64 x.dir, .int .i64 x.slope] 85) = WA at *
              generalize wy.heap.size = bx at *
              have hm00 : m - quoS m (totS ws) (ws.take 0) = m := by omega
              go_wp2
              go_loopw [17, 84] (fun lf i wr => ∃ j : Nat, j ≤ ws.length ∧ i = .int .i64 j ∧ lf = .int .i64 (m - quoS m (totS ws) (ws.take j)) ∧ Hid (RSt w wr w.heap.size bd be n gc (moveTo m (totS ws) (routeTo g fr ms k).1 (ws.take j), (routeTo g fr ms k).2)) ∧
                Hid (Blk wr bx 85 #[.int .i64 ((ws.take j).foldl betW x).cell, .int .i64 ((ws.take j).foldl betW x).dir, .int .i64 ((ws.take j).foldl betW x).slope]) ∧ Hid (Own wr wz.heap.size bx 85 3 (.slice (some ad) ws.length cw) ws.length (stps ws))) (fun _ i _ => ws.length - (intOf i).toNat)
              case atStart => exact ⟨0, Nat.zero_le _, rfl, by rw [hm00], HRA, HKA, HOA⟩
              case round =>
                clear HRA HKA HOA
                obtain ⟨j, hj, rfl, rfl, HR, HK, HO⟩ := hrel
                generalize wr = wb at *
                have hkb := HK.out.lt
                by_cases hjl : j < ws.length
                · obtain ⟨ad2, y, had2, hbl2, hy, hc9⟩ := HO.out.reads.stp hjl
                  obtain rfl : ad = ad2 := by injection had2
                  unfold StpAt at hc9
                  obtain ⟨c0, c1, c2'⟩ := hc9
                  have hym := List.mem_of_getElem? hy
                  obtain ⟨t, htc, htn⟩ := HWQ.out.cell y hym
                  have hlo := HWQ.out.lo y hym
                  have hhi := HWQ.out.hi y hym
                  have hsT := slope_le_tot HWQ.out hym
                  have HMT := Lib.hid (moveTo_take (m := m) (T := totS ws) (mv := (routeTo g fr ms k).1) hy)
                  have HQT := Lib.hid (quoS_take1 (m := m) (T := totS ws) hy)
                  have HBT := Lib.hid (best_take (b := x) hy)
                  have hqa := quoS_take hm0 HWQ.out HNE.out j
                  have hqb := quoS_take hm0 HWQ.out HNE.out (j + 1)
                  have hmo := moveTo_ok hm0 (show 0 < totS ws by omega) (HWQ.out.take j) hl1 HI.out.n1
                  have hmle := hmo.1.le t
                  have hmge := hmo.1 t
                  have hmsum := hmo.2
                  have hpb := prod_bd hm0 hm1 hlo hhi
                  have hqt := quo_bd hm0 hlo hsT
                  have hwm : IntKind.i64.wrap (m * y.slope) = m * y.slope := IntWalk.i64_in _ (by omega)
                  have hdv : Int.tdiv (m * y.slope) (totS ws) = m * y.slope / totS ws := Int.tdiv_eq_ediv_of_nonneg (by omega)
                  have hwq : IntKind.i64.wrap (m * y.slope / totS ws) = m * y.slope / totS ws := IntWalk.i64_in _ (by omega)
                  have hT0 : ¬ (totS ws = 0) := by omega
                  have hwa : IntKind.i64.wrap (at0 (moveTo m (totS ws) (routeTo g fr ms k).1 (ws.take j)) t + m * y.slope / totS ws) = at0 (moveTo m (totS ws) (routeTo g fr ms k).1 (ws.take j)) t + m * y.slope / totS ws := IntWalk.i64_in _ (by omega)
                  have hws2 : IntKind.i64.wrap (m - quoS m (totS ws) (ws.take j) - m * y.slope / totS ws) = m - quoS m (totS ws) (ws.take j) - m * y.slope / totS ws := IntWalk.i64_in _ (by omega)
                  have hnew : m - quoS m (totS ws) (ws.take j) - m * y.slope / totS ws = m - quoS m (totS ws) (ws.take (j + 1)) := by rw [HQT.out]; omega
                  have hjr : (j : Int) < (ws.length : Int) := by omega
                  have htr : (t : Int) < (n : Int) := by omega
                  have ht0 : (0 : Int) ≤ (t : Int) := by omega
                  have htn' : y.cell.toNat = t := by omega
                  rw [htn'] at HMT
                  rw [htc] at c0
                  clear had2 hy hym hmo
                  obtain ⟨W1, hW1⟩ : ∃ W1, W1 = wb.alloc (.cells #[.int .i64 t, .int .i64 y.dir, .int .i64 y.slope] 85) := ⟨_, rfl⟩
                  have HX1 : Hid (Blk W1 wb.heap.size 85 #[.int .i64 t, .int .i64 y.dir, .int .i64 y.slope]) := Lib.hid (by rw [hW1]; exact Blk.new _ _ _)
                  have B1 : Below wb.heap.size wb W1 := by rw [hW1]; exact (Below.refl _ _).alloc (Nat.le_refl _) _
                  have HRl := Lib.hid (HR.out.below B1)
                  have HKl := Lib.hid (HK.out.below B1 hkb)
                  have HOl := Lib.hid (HO.out.below B1 (by omega))
                  have HW1 := Lib.hid hW1; clear hW1 B1
                  go_upto_region 20 with (fail)
                  rw [← HW1.out]
                  clear c0 c1 c2' HW1 HR HK HO
                  generalize wb.heap.size = b9 at *
                  have y0 : W1.cell? ⟨b9, 0, none⟩ = some (.int .i64 t) := HX1.out.cell 0
                  have y1 : W1.cell? ⟨b9, 1, none⟩ = some (.int .i64 y.dir) := HX1.out.cell 1
                  have y2 : W1.cell? ⟨b9, 2, none⟩ = some (.int .i64 y.slope) := HX1.out.cell 2
                  have k0 := HKl.out.cell 0
                  have k1 := HKl.out.cell 1
                  have k2 : W1.cell? ⟨bx, 2, none⟩ = some (.int .i64 ((ws.take j).foldl betW x).slope) := HKl.out.cell 2
                  have f0 := HKl.out.frozen 0
                  have f1 := HKl.out.frozen 1
                  have f2 := HKl.out.frozen 2
                  have hbd9 : bd ≠ b9 := by omega
                  have hbx9 : bx ≠ b9 := by omega
                  by_cases hsl : ((ws.take j).foldl betW x).slope < y.slope
                  · have hd : decide (((ws.take j).foldl betW x).slope < y.slope) = true := by simpa using hsl
                    have HWT : Hid ((ws.take (j + 1)).foldl betW x = y) := Lib.hid (HBT.out.trans (if_pos hsl))
                    go_upto_region 22 with (fail)
                    obtain ⟨W2, hW2⟩ : ∃ W, W = ((W1.setCell ⟨bx, 0, none⟩ (.int .i64 t)).setCell ⟨bx, 1, none⟩ (.int .i64 y.dir)).setCell ⟨bx, 2, none⟩ (.int .i64 y.slope) := ⟨_, rfl⟩
                    rw [← hW2]
                    replace hW2 : W2 = set3 W1 bx (.int .i64 t) (.int .i64 y.dir) (.int .i64 y.slope) := hW2
                    have HR3 : Hid (RSt w W2 w.heap.size bd be n gc (moveTo m (totS ws) (routeTo g fr ms k).1 (ws.take j), (routeTo g fr ms k).2)) := Lib.hid (by rw [hW2]; exact HRl.out.set3 hbx3 _ _ _)
                    have HK3 : Hid (Blk W2 bx 85 #[.int .i64 ((ws.take (j + 1)).foldl betW x).cell, .int .i64 ((ws.take (j + 1)).foldl betW x).dir, .int .i64 ((ws.take (j + 1)).foldl betW x).slope]) := Lib.hid (by rw [hW2, HWT.out, htc]; exact set3_blk HKl.out _ _ _)
                    have HO3 : Hid (Own W2 wz.heap.size bx 85 3 (.slice (some ad) ws.length cw) ws.length (stps ws)) := Lib.hid (by rw [hW2]; exact set3_up HOl.out (Nat.le_refl _) _ _ _)
                    have HX3 : Hid (Blk W2 b9 85 #[.int .i64 t, .int .i64 y.dir, .int .i64 y.slope]) := Lib.hid (by rw [hW2]; exact set3_far HX1.out (by omega) _ _ _)
                    clear hW2 hsl hd k0 k1 k2 f0 f1 f2 y0 y1 y2 HX1 HRl HKl HOl
                    have y0 : W2.cell? ⟨b9, 0, none⟩ = some (.int .i64 t) := HX3.out.cell 0
                    have y2 : W2.cell? ⟨b9, 2, none⟩ = some (.int .i64 y.slope) := HX3.out.cell 2
                    obtain ⟨p1, p2⟩ := HR3.out.mvAt htn
                    simp only at p1
                    have HRs := Lib.hid ((HR3.out.setMv t (at0 (moveTo m (totS ws) (routeTo g fr ms k).1 (ws.take j)) t + m * y.slope / totS ws)).drew)
                    have HKs := Lib.hid ((HK3.out.far (p := ⟨bd, t, none⟩) (show bx ≠ bd by omega) (.int .i64 (at0 (moveTo m (totS ws) (routeTo g fr ms k).1 (ws.take j)) t + m * y.slope / totS ws))).drew)
                    have HOs := Lib.hid ((HO3.out.setOut (p := ⟨bd, t, none⟩) (show bd < wz.heap.size by omega) (.int .i64 (at0 (moveTo m (totS ws) (routeTo g fr ms k).1 (ws.take j)) t + m * y.slope / totS ws))).drew)
                    have HXs := Lib.hid ((HX3.out.drew).far (p := ⟨bd, t, none⟩) (show b9 ≠ bd by omega) (.int .i64 (at0 (moveTo m (totS ws) (routeTo g fr ms k).1 (ws.take j)) t + m * y.slope / totS ws)))
                    have x2 : (W2.drew.setCell ⟨bd, t, none⟩ (.int .i64 (at0 (moveTo m (totS ws) (routeTo g fr ms k).1 (ws.take j)) t + m * y.slope / totS ws))).cell? ⟨b9, 2, none⟩ = some (.int .i64 y.slope) := HXs.out.cell 2
                    go_still_tail 13, (by kernel_rfl)
                    change wpList _ _ _ _ _ W2.drew
                    go_wp2
                    go_roundw
                    case rel =>
                      have HRq := Lib.hid HRs.out
                      rw [show ((moveTo m (totS ws) (routeTo g fr ms k).1 (ws.take j)).set t (at0 (moveTo m (totS ws) (routeTo g fr ms k).1 (ws.take j)) t + m * y.slope / totS ws)) = moveTo m (totS ws) (routeTo g fr ms k).1 (ws.take (j + 1)) from HMT.out.symm] at HRq
                      refine ⟨.int .i64 (m - quoS m (totS ws) (ws.take (j + 1))), .pointer (some ⟨b9, 0, none⟩), .int .i64 ((j : Int) + 1), ?_, rfl, rfl, rfl⟩
                      first | exact ⟨j + 1, by omega, by go_num, rfl, HRq, HKs⟩ | exact ⟨j + 1, by omega, by go_num, rfl, HRq, HKs, HOs⟩
                    case measure => simp [intOf]; omega
                  · have hd : decide (((ws.take j).foldl betW x).slope < y.slope) = false := by simpa using hsl
                    have HWT : Hid ((ws.take (j + 1)).foldl betW x = (ws.take j).foldl betW x) := Lib.hid (HBT.out.trans (if_neg hsl))
                    rw [← HWT.out] at HKl
                    go_upto_region 22 with (fail)
                    obtain ⟨W2, hW2⟩ : ∃ W, W = W1 := ⟨_, rfl⟩
                    have HR3 := HRl
                    have HK3 := HKl
                    have HO3 := HOl
                    have HX3 := HX1
                    clear hd hsl k0 k1 k2 f0 f1 f2 HX1 HRl HKl HOl
                    subst hW2
                    obtain ⟨p1, p2⟩ := HR3.out.mvAt htn
                    simp only at p1
                    have HRs := Lib.hid ((HR3.out.setMv t (at0 (moveTo m (totS ws) (routeTo g fr ms k).1 (ws.take j)) t + m * y.slope / totS ws)).drew)
                    have HKs := Lib.hid ((HK3.out.far (p := ⟨bd, t, none⟩) (show bx ≠ bd by omega) (.int .i64 (at0 (moveTo m (totS ws) (routeTo g fr ms k).1 (ws.take j)) t + m * y.slope / totS ws))).drew)
                    have HOs := Lib.hid ((HO3.out.setOut (p := ⟨bd, t, none⟩) (show bd < wz.heap.size by omega) (.int .i64 (at0 (moveTo m (totS ws) (routeTo g fr ms k).1 (ws.take j)) t + m * y.slope / totS ws))).drew)
                    have HXs := Lib.hid ((HX3.out.drew).far (p := ⟨bd, t, none⟩) (show b9 ≠ bd by omega) (.int .i64 (at0 (moveTo m (totS ws) (routeTo g fr ms k).1 (ws.take j)) t + m * y.slope / totS ws)))
                    have x2 : (W2.drew.setCell ⟨bd, t, none⟩ (.int .i64 (at0 (moveTo m (totS ws) (routeTo g fr ms k).1 (ws.take j)) t + m * y.slope / totS ws))).cell? ⟨b9, 2, none⟩ = some (.int .i64 y.slope) := HXs.out.cell 2
                    go_still_tail 13, (by kernel_rfl)
                    change wpList _ _ _ _ _ W2.drew
                    go_wp2
                    go_roundw
                    case rel =>
                      have HRq := Lib.hid HRs.out
                      rw [show ((moveTo m (totS ws) (routeTo g fr ms k).1 (ws.take j)).set t (at0 (moveTo m (totS ws) (routeTo g fr ms k).1 (ws.take j)) t + m * y.slope / totS ws)) = moveTo m (totS ws) (routeTo g fr ms k).1 (ws.take (j + 1)) from HMT.out.symm] at HRq
                      refine ⟨.int .i64 (m - quoS m (totS ws) (ws.take (j + 1))), .pointer (some ⟨b9, 0, none⟩), .int .i64 ((j : Int) + 1), ?_, rfl, rfl, rfl⟩
                      first | exact ⟨j + 1, by omega, by go_num, rfl, HRq, HKs⟩ | exact ⟨j + 1, by omega, by go_num, rfl, HRq, HKs, HOs⟩
                    case measure => simp [intOf]; omega
                · obtain rfl : j = ws.length := by omega
                  rw [List.take_length] at HR HK
                  rw [← HBW.out] at HK
                  obtain ⟨t, htc, htn⟩ := HWQ.out.cell _ (bestW_mem HNE.out)
                  have hqa := quoS_take hm0 HWQ.out HNE.out ws.length
                  rw [List.take_length] at hqa ⊢
                  have hmo := moveTo_ok hm0 (show 0 < totS ws by omega) HWQ.out hl1 HI.out.n1
                  have hmle := hmo.1.le t
                  have hmge := hmo.1 t
                  have hmsum := hmo.2
                  have hwa : IntKind.i64.wrap (at0 (moveTo m (totS ws) (routeTo g fr ms k).1 ws) t + (m - quoS m (totS ws) ws)) = at0 (moveTo m (totS ws) (routeTo g fr ms k).1 ws) t + (m - quoS m (totS ws) ws) := IntWalk.i64_in _ (by omega)
                  have htr : (t : Int) < (n : Int) := by omega
                  have ht0 : (0 : Int) ≤ (t : Int) := by omega
                  have k0 : wb.cell? ⟨bx, 0, none⟩ = some (.int .i64 (t : Int)) := by rw [← htc]; exact HK.out.cell 0
                  obtain ⟨p1, p2⟩ := HR.out.mvAt htn
                  simp only at p1
                  have HRs := Lib.hid (HR.out.setMv t (at0 (moveTo m (totS ws) (routeTo g fr ms k).1 ws) t + (m - quoS m (totS ws) ws)))
                  have HSN : Hid (RSt w (wb.setCell ⟨bd, t, none⟩ (.int .i64 (at0 (moveTo m (totS ws) (routeTo g fr ms k).1 ws) t + (m - quoS m (totS ws) ws)))) w.heap.size bd be n gc (routeTo g fr ms (k + 1))) := Lib.hid (by
                    rw [HFIN.out, show (bestW ws).cell.toNat = t by omega]; exact HRs.out)
                  clear HRs hmo
                  go_wp2
                  go_roundw
                  case rel => exact ⟨k + 1, by omega, by go_num, HSN⟩
                  case measure => simp [intOf]; omega
      · obtain rfl : k = n := by omega
        go_wp2
        go_ret2
        exact HR.out.done rfl
end Go.Proofs.Ytaoomildopmclaa
