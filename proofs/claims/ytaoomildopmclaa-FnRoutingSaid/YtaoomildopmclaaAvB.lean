/- Masses that run until all have settled: the program's run. -/
import Derived.Test.YtaoomildopmclaaAvA
import Derived.Test.YtaoomildopmclaaRoE
namespace Go.Proofs.Ytaoomildopmclaa
open Go.ChangeShapes Go.WideShapes Go.ChangeAt Go.RowKit
set_option linter.unusedVariables false
/-- the code and the arrival -/
def arrivalV (g : Gr) (ms : List Int) (fr cell : Int) : Int × Int :=
  if routeV g ms fr [cell] ≠ 0 then (0, routeV g ms fr [cell])
  else if at0 (preV g fr ms (endN g fr ms + 1)) cell.toNat < 0 then (0, 3) else (at0 (preV g fr ms (endN g fr ms + 1)) cell.toNat, 0)
/-- what holds of the program's memory while masses run -/
structure RunS (w0 wr : World) (b0 bs ba bx n : Nat) (gc : Array Value) (k : Int) (s : List Int × List Int) : Prop where
  st : Own wr bs (bs + 1) 2 1 (.slice (some ⟨bs, 0, none⟩) n n) n (ints s.1)
  ar : Own wr ba (ba + 1) 2 1 (.slice (some ⟨ba, 0, none⟩) n n) n (ints s.2)
  box : Blk wr b0 26 gc
  rb : Blk wr (b0 + 1) 66 #[.slice none 0 0, .int .i64 0, .slice none 0 0]
  xb : Blk wr bx 66 #[.slice (some ⟨bs, 0, none⟩) n n, .int .i64 k, .slice (some ⟨ba, 0, none⟩) n n]
  n1 : bs ≠ ba ∧ bs ≠ bx ∧ ba ≠ bx
  hs : b0 + 1 < bs ∧ bs < b0 + 5
  ha : b0 + 1 < ba ∧ ba < b0 + 5
  hx : b0 + 1 < bx ∧ bx < b0 + 5
  h0 : w0.heap.size ≤ b0
  sz : b0 + 5 ≤ wr.heap.size
  bel : Below w0.heap.size w0 wr
section
variable {w0 wr : World} {b0 bs ba bx n : Nat} {gc : Array Value} {i : Int} {s : List Int × List Int}
theorem RunS.below {w1 : World} (h : RunS w0 wr b0 bs ba bx n gc i s) (hb : Below wr.heap.size wr w1) : RunS w0 w1 b0 bs ba bx n gc i s := by
  have := h.sz; have := h.hs; have := h.ha; have := h.hx; have := hb.size; have := h.bel.size
  exact ⟨h.st.below hb (by omega), h.ar.below hb (by omega), h.box.below hb (by omega), h.rb.below hb (by omega), h.xb.below hb (by omega), h.n1, h.hs, h.ha, h.hx, h.h0, by omega, h.bel.trans (hb.mono (by omega))⟩
theorem RunS.stAt (h : RunS w0 wr b0 bs ba bx n gc i s) {k : Nat} (hk : k < n) : wr.cell? ⟨bs, k, none⟩ = some (.int .i64 (at0 s.1 k)) ∧ wr.frozen? ⟨bs, k, none⟩ = false := by
  have hl : s.1.length = n := h.st.reads.len
  refine ⟨?_, h.st.1.frozenAt k⟩
  rw [h.st.1.cellAt k (by omega)]
  simp [ints, at0_el (show k < s.1.length by omega)]
theorem RunS.arAt (h : RunS w0 wr b0 bs ba bx n gc i s) {k : Nat} (hk : k < n) : wr.cell? ⟨ba, k, none⟩ = some (.int .i64 (at0 s.2 k)) ∧ wr.frozen? ⟨ba, k, none⟩ = false := by
  have hl : s.2.length = n := h.ar.reads.len
  refine ⟨?_, h.ar.1.frozenAt k⟩
  rw [h.ar.1.cellAt k (by omega)]
  simp [ints, at0_el (show k < s.2.length by omega)]
theorem RunS.xAt (h : RunS w0 wr b0 bs ba bx n gc i s) : wr.cell? ⟨bx, 0, none⟩ = some (.slice (some ⟨bs, 0, none⟩) n n) ∧ wr.cell? ⟨bx, 1, none⟩ = some (.int .i64 i) ∧ wr.cell? ⟨bx, 2, none⟩ = some (.slice (some ⟨ba, 0, none⟩) n n) ∧ wr.frozen? ⟨bx, 1, none⟩ = false :=
  ⟨h.xb.cell 0, h.xb.cell 1, h.xb.cell 2, h.xb.frozen 1⟩
theorem RunS.setSt (h : RunS w0 wr b0 bs ba bx n gc i s) (k : Nat) (z : Int) : RunS w0 (wr.setCell ⟨bs, k, none⟩ (.int .i64 z)) b0 bs ba bx n gc i (s.1.set k z, s.2) := by
  have h1 := h.st.stored (j := k) (.int .i64 z)
  have := h.sz; have := h.hs; have := h.ha; have := h.hx; have := h.n1; have := h.h0
  exact ⟨by rw [ints_set]; exact h1.1, h.ar.away (only_set wr _ _) (fun g hg => by simp [Value.ownBlock] at hg; show g < bs ∨ bs + 1 ≤ g; omega), h.box.far (show b0 ≠ bs by omega) _, h.rb.far (show b0 + 1 ≠ bs by omega) _, h.xb.far (show bx ≠ bs by omega) _, h.n1, h.hs, h.ha, h.hx, h.h0, by simpa using h.sz, h.bel.setCell (show w0.heap.size ≤ bs by omega) _⟩
theorem RunS.setAr (h : RunS w0 wr b0 bs ba bx n gc i s) (k : Nat) (z : Int) : RunS w0 (wr.setCell ⟨ba, k, none⟩ (.int .i64 z)) b0 bs ba bx n gc i (s.1, s.2.set k z) := by
  have h1 := h.ar.stored (j := k) (.int .i64 z)
  have := h.sz; have := h.hs; have := h.ha; have := h.hx; have := h.n1; have := h.h0
  exact ⟨h.st.away (only_set wr _ _) (fun g hg => by simp [Value.ownBlock] at hg; show g < ba ∨ ba + 1 ≤ g; omega), by rw [ints_set]; exact h1.1, h.box.far (show b0 ≠ ba by omega) _, h.rb.far (show b0 + 1 ≠ ba by omega) _, h.xb.far (show bx ≠ ba by omega) _, h.n1, h.hs, h.ha, h.hx, h.h0, by simpa using h.sz, h.bel.setCell (show w0.heap.size ≤ ba by omega) _⟩
theorem RunS.setK (h : RunS w0 wr b0 bs ba bx n gc i s) (z : Int) : RunS w0 (wr.setCell ⟨bx, 1, none⟩ (.int .i64 z)) b0 bs ba bx n gc z s := by
  have h1 := h.xb.set_ 1 (.int .i64 z)
  have := h.sz; have := h.hs; have := h.ha; have := h.hx; have := h.n1; have := h.h0
  exact ⟨h.st.away (only_set wr _ _) (fun g hg => by simp [Value.ownBlock] at hg; show g < bx ∨ bx + 1 ≤ g; omega), h.ar.away (only_set wr _ _) (fun g hg => by simp [Value.ownBlock] at hg; show g < bx ∨ bx + 1 ≤ g; omega), h.box.far (show b0 ≠ bx by omega) _, h.rb.far (show b0 + 1 ≠ bx by omega) _, by simpa using h1, h.n1, h.hs, h.ha, h.hx, h.h0, by simpa using h.sz, h.bel.setCell (show w0.heap.size ≤ bx by omega) _⟩
end
/-- the masses that move now: a given row, or a row of the call's own above the run's blocks -/
def NowS (w0 : World) (b : Nat) (wr : World) (D : Option Addr) (n d : Nat) (l : List Int) : Prop :=
  Reads wr w0.heap.size 1 D n (ints l) ∨ ∃ lo hi, b ≤ lo ∧ hi ≤ wr.heap.size ∧ Own wr lo hi 2 1 (.slice D n d) n (ints l)
section
variable {w0 wr : World} {b n d : Nat} {D : Option Addr} {l : List Int}
theorem NowS.at_ (h : NowS w0 b wr D n d l) {k : Nat} (hk : k < n) : ∃ ad z, D = some ad ∧ l[k]? = some z ∧ wr.cell? (ad.add k) = some (.int .i64 z) := by
  rcases h with h | ⟨lo, hi, _, _, h⟩
  · obtain ⟨ad, z, e, _, hz, hc⟩ := h.int hk
    exact ⟨ad, z, e, hz, hc⟩
  · obtain ⟨ad, z, e, _, hz, hc⟩ := h.reads.int hk
    exact ⟨ad, z, e, hz, hc⟩
theorem NowS.below {w1 : World} (h : NowS w0 b wr D n d l) (hw : w0.heap.size ≤ wr.heap.size) (hb : Below wr.heap.size wr w1) : NowS w0 b w1 D n d l := by
  rcases h with h | ⟨lo, hi, h1, h2, h3⟩
  · exact .inl (h.below (hb.mono hw))
  · exact .inr ⟨lo, hi, h1, Nat.le_trans h2 hb.size, h3.below hb h2⟩
theorem NowS.set_ (h : NowS w0 b wr D n d l) {p : Addr} (h1 : w0.heap.size ≤ p.block) (h2 : p.block < b) (u : Value) : NowS w0 b (wr.setCell p u) D n d l := by
  rcases h with h | ⟨lo, hi, h3, h4, h5⟩
  · exact .inl (h.setCell h1 u)
  · exact .inr ⟨lo, hi, h3, by simpa using h4, h5.setOut (by omega) u⟩
theorem NowS.reads (h : NowS w0 b wr D n d l) (hw : w0.heap.size ≤ wr.heap.size) : Reads wr wr.heap.size 1 D n (ints l) := by
  rcases h with h | ⟨lo, hi, h3, h4, h5⟩
  · exact h.more hw
  · exact h5.reads.more h4
end
def RunPost (g : Gr) (fr : Int) (ms : List Int) (n : Nat) (w : World) (e : Ending) (w' : World) : Prop :=
  ∃ N D F a a' b b', EndAt g fr ms N ∧ e = .returned (.agg #[.slice D n n, .int .i64 (N : Nat), .slice F n n]) ∧ Own w' a a' 2 1 (.slice D n n) n (ints (setV g fr ms N)) ∧ Own w' b b' 2 1 (.slice F n n) n (ints (preV g fr ms (N + 1))) ∧ (a' ≤ b ∨ b' ≤ a) ∧ w.heap.size ≤ a ∧ w.heap.size ≤ b ∧ a' ≤ w'.heap.size ∧ b' ≤ w'.heap.size ∧ Below w.heap.size w w'
theorem RunS.done {g : Gr} {fr : Int} {ms : List Int} {w0 wr : World} {b0 bs ba bx n N : Nat} {gc : Array Value} (h : RunS w0 wr b0 bs ba bx n gc N (setV g fr ms N, preV g fr ms (N + 1))) (he : EndAt g fr ms N) (u0 u1 u2 : Value) :
    RunPost g fr ms n w0 (.returned (.agg #[.slice (some ⟨bs, 0, none⟩) n n, .int .i64 (N : Nat), .slice (some ⟨ba, 0, none⟩) n n])) (set3 wr (b0 + 1) u0 u1 u2) := by
  have := h.sz; have := h.hs; have := h.ha; have := h.hx; have := h.n1; have := h.h0
  exact ⟨N, _, _, bs, bs + 1, ba, ba + 1, he, rfl, set3_own h.st (by omega) _ _ _, set3_own h.ar (by omega) _ _ _, by omega, by omega, by omega, by rw [set3_size]; omega, by rw [set3_size]; omega, set3_below h.bel (by omega) _ _ _⟩
theorem RunS.start {w W : World} {bs ba bx n : Nat} {gc : Array Value} (hb : Below w.heap.size w W) (sz : W.heap.size = w.heap.size + 5) (k0 : Blk W w.heap.size 26 gc) (k1 : Blk W (w.heap.size + 1) 66 #[.slice none 0 0, .int .i64 0, .slice none 0 0])
    (ks : Blk W bs 2 (madeCells #[.int .i64 0] n)) (ka : Blk W ba 2 (madeCells #[.int .i64 0] n)) (kx : Blk W bx 66 #[.slice (some ⟨bs, 0, none⟩) n n, .int .i64 0, .slice (some ⟨ba, 0, none⟩) n n]) (hn : n ≤ 1048576)
    (ne : bs ≠ ba ∧ bs ≠ bx ∧ ba ≠ bx) (hs : w.heap.size + 1 < bs ∧ bs < w.heap.size + 5) (ha : w.heap.size + 1 < ba ∧ ba < w.heap.size + 5) (hx : w.heap.size + 1 < bx ∧ bx < w.heap.size + 5) : RunS w W.drew w.heap.size bs ba bx n gc 0 (List.replicate n 0, List.replicate n 0) := by
  have e : (madeCells #[.int .i64 0] n).toList = ints (List.replicate n 0) := by simp [madeCells, ints, Nat.mod_one, List.map_const']
  have os := Own.of_blk (lo := bs) (hi := bs + 1) (n := n) (s := 1) ks (by simp [madeCells]) (Nat.le_refl _) (Nat.lt_succ_self _) (by simp [maxLen]; omega)
  have oa := Own.of_blk (lo := ba) (hi := ba + 1) (n := n) (s := 1) ka (by simp [madeCells]) (Nat.le_refl _) (Nat.lt_succ_self _) (by simp [maxLen]; omega)
  rw [e] at os oa
  exact ⟨os.drew, oa.drew, k0.drew, k1.drew, kx.drew, ne, hs, ha, hx, Nat.le_refl _, Nat.le_of_eq sz.symm, hb.drew⟩
theorem al3 {X : World} {b : Nat} (hb : X.heap.size = b) (o1 o2 o3 : Obj) :
    (((X.alloc o1).alloc o2).alloc o3).heap[b]? = some o1 ∧ (((X.alloc o1).alloc o2).alloc o3).heap[b + 1]? = some o2 ∧ (((X.alloc o1).alloc o2).alloc o3).heap[b + 1 + 1]? = some o3 ∧ (((X.alloc o1).alloc o2).alloc o3).heap.size = b + 1 + 1 + 1 ∧ Below b X (((X.alloc o1).alloc o2).alloc o3) := by
  subst hb
  have s1 : (X.alloc o1).heap.size = X.heap.size + 1 := by simp
  have s2 : ((X.alloc o1).alloc o2).heap.size = X.heap.size + 1 + 1 := by simp
  refine ⟨?_, ?_, ?_, by simp, (((Below.refl _ _).alloc (Nat.le_refl _) o1).alloc (by omega) o2).alloc (by omega) o3⟩
  · rw [Below.heap_alloc _ _ _ (by omega), Below.heap_alloc _ _ _ (by omega)]; exact heap_alloc_new X o1
  · rw [Below.heap_alloc _ _ _ (by omega), ← s1]; exact heap_alloc_new _ o2
  · rw [← s2]; exact heap_alloc_new _ o3
set_option maxHeartbeats 8000000 in
set_option maxRecDepth 100000 in
theorem run_c (g : Gr) (A : Option Addr) (n c B : Nat) (E : Option Addr) (ec BE : Nat) (ms : List Int) (fr : Int) (w : World) (hg : GS w B g A n c) (hok : g.ok = true) (he : Reads w BE 1 E n (ints ms)) (hE : BE ≤ w.heap.size) (hms : Nn ms) (hsum : ms.sum ≤ 64000000) (hf1 : 1 ≤ fr) (hf2 : fr ≤ 5000) :
    Calls Try.prog 51 #[g.val A n c, .slice E n ec, .int .i64 fr] w (RunPost g fr ms n w) := by
  have hb := Gr.ok_bd hok
  have HL := Lib.hid hg.len
  have HLM := Lib.hid (show ms.length = n from he.len)
  have hn64 := hb.len64
  rw [HL.out] at hn64
  have HE := Lib.hid he
  have HNO := Lib.hid fun i => now_ok (fr := fr) (ms := ms) hb (by rw [HL.out, HLM.out]) hf1 hms i
  have HBD := Lib.hid fun i (h : ∀ j, j < i → 0 < (nowV g fr ms j).sum) => EndAt.bd (N := i) hb (by rw [HL.out, HLM.out]) hf1 hms h
  have HEN := Lib.hid fun i (h : 0 < (nowV g fr ms i).sum) => now_end hb (by rw [HL.out, HLM.out]) hf1 hms h
  have HRT := Lib.hid fun i (D : Option Addr) (d : Nat) W (hW : Below w.heap.size w W) (hD : Reads W W.heap.size 1 D n (ints (nowV g fr ms i))) => route_c g A n c B D d W.heap.size (nowV g fr ms i) fr W (hg.below hW) hok hD (Nat.le_refl _) (HNO.out i).n1 (by have h1 := (HNO.out i).sum; have h2 := (HNO.out i).n2.sum; omega) hf1 hf2
  have HRI := Lib.hid fun i => routeTo_inv (fr := fr) hb (show g.hs.length = (nowV g fr ms i).length by rw [(HNO.out i).l1, HL.out, HLM.out]) hf1 (HNO.out i).n1 ms.length (by rw [(HNO.out i).l1]; omega)
  obtain ⟨i0, hi, hz, hs, hbb⟩ := info_parts info_i64
  have hmk : ∀ W : World, (Instr.makeSlice 24 (.int .i64 (n : Int)) (.int .i64 (n : Int))).run Try.prog W = .ok (.slice (some ⟨W.heap.size, 0, none⟩) n n) (W.alloc (.cells (madeCells #[.int .i64 0] n) 2)) := fun W => by
    have h := run_make_rowN (P := Try.prog) 24 2 i0 _ Try.underlying24 hi hz .i64 .i64 n n (Nat.le_refl _) (by rw [hbb]; omega) (by omega) W
    rw [hs, Nat.mul_one] at h
    exact h
  have hmade : ∀ (W : World) (lo : Nat), lo ≤ W.heap.size → Own (W.alloc (.cells (madeCells #[.int .i64 0] n) 2)) lo (W.heap.size + 1) 2 1 (.slice (some ⟨W.heap.size, 0, none⟩) n n) n (ints (List.replicate n 0)) := fun W lo hlo => by
    have h := Own.of_blk (lo := lo) (hi := W.heap.size + 1) (n := n) (s := 1) (Blk.new W 2 (madeCells #[.int .i64 0] n)) (by simp [madeCells]) hlo (Nat.lt_succ_self _) (by simp [maxLen]; omega)
    have e : (madeCells #[.int .i64 0] n).toList = ints (List.replicate n 0) := by simp [madeCells, ints, Nat.mod_one, List.map_const']
    rw [e] at h; exact h
  have HMD := Lib.hid hmade
  have hbig := hg.big
  clear hg hok he hms hb hi hz hs hbb i0 hmade
  obtain ⟨gc, hgc⟩ : ∃ gc, gc = g.cells A n c := ⟨_, rfl⟩
  have HGC := Lib.hid hgc
  clear hgc
  simp only [Gr.val, Gr.cells] at *
  go_enter Try.func51, Try.ntmps51
  go_upto_region 1 with (fail)
  obtain ⟨X, hX⟩ : ∃ X, X = (w.alloc (.cells #[.int .i64 g.rows, .int .i64 g.cols, .int .i64 g.size, .slice A n c] 26)).alloc (.cells #[.slice none 0 0, .int .i64 0, .slice none 0 0] 66) := ⟨_, rfl⟩
  rw [← hX]
  have hsX : X.heap.size = w.heap.size + 1 + 1 := by rw [hX]; simp
  have HT : Hid (Below w.heap.size w X) := Lib.hid (by rw [hX]; exact ((Below.refl w.heap.size w).alloc (Nat.le_refl _) _).alloc (by simp) _)
  have K0 : Hid (Blk X w.heap.size 26 gc) := Lib.hid (by rw [hX, HGC.out]; exact (Blk.new _ _ _).alloc _)
  have K1 : Hid (Blk X (w.heap.size + 1) 66 #[.slice none 0 0, .int .i64 0, .slice none 0 0]) := Lib.hid (by
    have h := Blk.new (w.alloc (.cells #[.int .i64 g.rows, .int .i64 g.cols, .int .i64 g.size, .slice A n c] 26)) 66 #[.slice none 0 0, .int .i64 0, .slice none 0 0]
    rw [hX]; simpa using h)
  have HS3 := Lib.hid fun o1 o2 o3 => al3 hsX o1 o2 o3
  have HS4 : Hid (∀ (o1 o2 o3 : Obj) (bs ba bx : Nat), let Y := ((X.alloc o1).alloc o2).alloc o3; True → Blk Y bs 2 (madeCells #[.int .i64 0] n) → Blk Y ba 2 (madeCells #[.int .i64 0] n) → Blk Y bx 66 #[.slice (some ⟨bs, 0, none⟩) n n, .int .i64 0, .slice (some ⟨ba, 0, none⟩) n n] →
      (bs ≠ ba ∧ bs ≠ bx ∧ ba ≠ bx) → (w.heap.size + 1 < bs ∧ bs < w.heap.size + 5) → (w.heap.size + 1 < ba ∧ ba < w.heap.size + 5) → (w.heap.size + 1 < bx ∧ bx < w.heap.size + 5) → Hid (RunS w Y.drew w.heap.size bs ba bx n gc 0 (List.replicate n 0, List.replicate n 0))) := Lib.hid fun o1 o2 o3 bs ba bx _ ks ka kx h1 h2 h3 h4 => by
    obtain ⟨_, _, _, a4, a5⟩ := HS3.out o1 o2 o3
    exact Lib.hid (RunS.start (HT.out.trans (a5.mono (by omega))) (by omega) (K0.out.below a5 (by omega)) (K1.out.below a5 (by omega)) ks ka kx hbig h1 h2 h3 h4)
  clear hX
  go_cut [7] (fun o wx => ∃ bs ba bx, o = .pointer (some ⟨bx, 0, none⟩) ∧ Hid (RunS w wx w.heap.size bs ba bx n gc 0 (List.replicate n 0, List.replicate n 0)))
  case first =>
    go_region_law (fail)
    all_goals go_wp2_with fail
    all_goals go_meet
    all_goals first
      | exact ⟨w.heap.size + 1 + 1, w.heap.size + 1 + 1 + 1, w.heap.size + 1 + 1 + 1 + 1, rfl, HS4.out _ _ _ _ _ _ trivial (HS3.out _ _ _).1 (HS3.out _ _ _).2.1 (HS3.out _ _ _).2.2.1 (by omega) (by omega) (by omega) (by omega)⟩
      | exact ⟨w.heap.size + 1 + 1, w.heap.size + 1 + 1 + 1 + 1, w.heap.size + 1 + 1 + 1, rfl, HS4.out _ _ _ _ _ _ trivial (HS3.out _ _ _).1 (HS3.out _ _ _).2.2.1 (HS3.out _ _ _).2.1 (by omega) (by omega) (by omega) (by omega)⟩
      | exact ⟨w.heap.size + 1 + 1 + 1, w.heap.size + 1 + 1, w.heap.size + 1 + 1 + 1 + 1, rfl, HS4.out _ _ _ _ _ _ trivial (HS3.out _ _ _).2.1 (HS3.out _ _ _).1 (HS3.out _ _ _).2.2.1 (by omega) (by omega) (by omega) (by omega)⟩
      | exact ⟨w.heap.size + 1 + 1 + 1, w.heap.size + 1 + 1 + 1 + 1, w.heap.size + 1 + 1, rfl, HS4.out _ _ _ _ _ _ trivial (HS3.out _ _ _).2.1 (HS3.out _ _ _).2.2.1 (HS3.out _ _ _).1 (by omega) (by omega) (by omega) (by omega)⟩
      | exact ⟨w.heap.size + 1 + 1 + 1 + 1, w.heap.size + 1 + 1, w.heap.size + 1 + 1 + 1, rfl, HS4.out _ _ _ _ _ _ trivial (HS3.out _ _ _).2.2.1 (HS3.out _ _ _).1 (HS3.out _ _ _).2.1 (by omega) (by omega) (by omega) (by omega)⟩
      | exact ⟨w.heap.size + 1 + 1 + 1 + 1, w.heap.size + 1 + 1 + 1, w.heap.size + 1 + 1, rfl, HS4.out _ _ _ _ _ _ trivial (HS3.out _ _ _).2.2.1 (HS3.out _ _ _).2.1 (HS3.out _ _ _).1 (by omega) (by omega) (by omega) (by omega)⟩
  case rest =>
    obtain ⟨bs, ba, bx, rfl, HR⟩ := hcut
    clear HS4 HS3 K0 K1 HT hsX hmk HMD
    obtain ⟨x0, x1, x2, x3⟩ := HR.out.xAt
    go_wp2
    clear x0 x1 x2 x3
    go_loopw [27] (fun iv wr => ∃ k : Nat, k ≤ n ∧ iv = .int .i64 k ∧ Hid (RunS w wr w.heap.size bs ba bx n gc 0 (List.replicate n 0, fillK n k))) (fun iv _ => n - (intOf iv).toNat)
    case atStart => exact ⟨0, Nat.zero_le _, rfl, HR⟩
    case round =>
      clear HR
      obtain ⟨k, hk, rfl, HR⟩ := hrel
      by_cases hlt : k < n
      · obtain ⟨x0, x1, x2, x3⟩ := HR.out.xAt
        obtain ⟨p1, p2⟩ := HR.out.arAt hlt
        have hkn : (k : Int) < (n : Int) := by omega
        have hk0 : (0 : Int) ≤ (k : Int) := by omega
        go_wp2
        go_roundw
        case rel => exact ⟨k + 1, by omega, by go_num, Lib.hid (HR.out.setAr k (-1))⟩
        case measure => simp [intOf]; omega
      · obtain rfl : k = n := by omega
        have HR0 : Hid (RunS w wr w.heap.size bs ba bx k gc ((0 : Nat) : Int) (setV g fr ms 0, preV g fr ms 0)) := Lib.hid (by
          have h := HR.out
          rw [fillK_full] at h
          simp only [setV, preV, HLM.out]
          exact h)
        have HN0 : Hid (NowS w (w.heap.size + 5) wr E k ec (nowV g fr ms 0)) := Lib.hid (.inl ((HE.out.below (HR.out.bel.mono hE)).more hE))
        clear HR hlt hk
        generalize k = n at *
        go_wp2
        go_loopw [9] (fun nw wr => ∃ (i : Nat) (D : Option Addr) (d : Nat), (∀ j, j < i → 0 < (nowV g fr ms j).sum) ∧ nw = .slice D n d ∧ Hid (NowS w (w.heap.size + 5) wr D n d (nowV g fr ms i)) ∧ Hid (RunS w wr w.heap.size bs ba bx n gc i (setV g fr ms i, preV g fr ms i))) (fun _ wr => n + 1 - (intOf ((wr.cell? ⟨bx, 1, none⟩).getD undef)).toNat)
        case atStart => exact ⟨0, E, ec, fun j h => absurd h (Nat.not_lt_zero j), rfl, HN0, HR0⟩
        case round =>
          clear HR0 HN0
          generalize wr = w9 at *
          obtain ⟨i, D, d, hpos, rfl, HNW, HR⟩ := hrel
          generalize wr = wo at *
          have hin : i ≤ n := by have := HBD.out i hpos; rw [HLM.out] at this; exact this
          have HPO := Lib.hid hpos
          have HI := Lib.hid (HNO.out i)
          have HOLD := Lib.hid HR.out.xAt.2.1
          have HCV := Lib.hid (HRT.out i D d)
          have HRV := Lib.hid (HRI.out i)
          have HS1 : Hid (∀ sv nw, setV g fr ms i = sv → nowV g fr ms i = nw → setV g fr ms (i + 1) = addK sv (routeTo g fr nw n).2 n) := Lib.hid (fun sv nw h1 h2 => by rw [← h1, ← h2, setV, HLM.out])
          have HP1 : Hid (∀ pv nw, preV g fr ms i = pv → nowV g fr ms i = nw → preV g fr ms (i + 1) = markK nw pv i n) := Lib.hid (fun pv nw h1 h2 => by rw [← h1, ← h2, preV, HLM.out])
          have HN1 : Hid (∀ nw, nowV g fr ms i = nw → nowV g fr ms (i + 1) = (routeTo g fr nw n).1) := Lib.hid (fun nw h2 => by rw [← h2, nowV, HLM.out])
          have HED : Hid (¬ 0 < (nowV g fr ms i).sum → EndAt g fr ms i) := Lib.hid (fun h => ⟨HPO.out, h⟩)
          have HPS : Hid (0 < (nowV g fr ms i).sum → ∀ j, j < i + 1 → 0 < (nowV g fr ms j).sum) := Lib.hid (fun h j hj => by
            by_cases e : j = i
            · subst e; exact h
            · exact HPO.out j (by omega))
          rw [HLM.out] at HI HRV
          have hlen := HI.out.l1
          have hsl := HI.out.l2
          have hnn := HI.out.n1
          have hsn := HI.out.n2
          have hss := HI.out.sum
          clear hpos HPO HI
          obtain ⟨l, hl⟩ : ∃ l, nowV g fr ms i = l := ⟨_, rfl⟩
          obtain ⟨sv, hsv⟩ : ∃ l, setV g fr ms i = l := ⟨_, rfl⟩
          obtain ⟨pv, hpv⟩ : ∃ l, preV g fr ms i = l := ⟨_, rfl⟩
          replace HS1 := Lib.hid (HS1.out sv l hsv hl)
          replace HP1 := Lib.hid (HP1.out pv l hpv hl)
          replace HN1 := Lib.hid (HN1.out l hl)
          rw [hl] at HNW HED HPS HCV HRV hlen hnn hss
          rw [hsv] at hsl hsn hss HR
          rw [hpv] at HR
          have HSV := Lib.hid hsv
          have HNN := Lib.hid hnn
          have HSN := Lib.hid hsn
          clear hl hsv hpv hnn hsn
          go_wp2
          go_loopw [10, 42] (fun so iv wr => ∃ k : Nat, k ≤ n ∧ iv = .int .i64 k ∧ so = .bool (anyK l k) ∧ Hid (NowS w (w.heap.size + 5) wr D n d l) ∧ Hid (RunS w wr w.heap.size bs ba bx n gc i (sv, markK l pv i k))) (fun _ iv _ => n - (intOf iv).toNat)
          case atStart => exact ⟨0, Nat.zero_le _, rfl, rfl, HNW, HR⟩
          case round =>
            clear HNW HR
            obtain ⟨k, hk, rfl, rfl, HNW, HR⟩ := hrel
            by_cases hlt : k < n
            · obtain ⟨ad, z, rfl, hz, cz⟩ := HNW.out.at_ hlt
              have hzl : at0 l k = z := at0_get hz
              have HAK : Hid (anyK l (k + 1) = (anyK l k || decide (0 < z))) := Lib.hid (by rw [anyK, hzl])
              have HMK : Hid (markK l pv i (k + 1) = if 0 < z ∧ at0 (markK l pv i k) k < 0 then (markK l pv i k).set k i else markK l pv i k) := Lib.hid (by rw [markK, markC, hzl])
              obtain ⟨x0, x1, x2, x3⟩ := HR.out.xAt
              obtain ⟨p1, p2⟩ := HR.out.arAt hlt
              simp only at p1
              have hkn : (k : Int) < (n : Int) := by omega
              have hk0 : (0 : Int) ≤ (k : Int) := by omega
              have hba : w.heap.size ≤ ba ∧ ba < w.heap.size + 5 := by have := HR.out.ha; omega
              clear hz hzl
              by_cases hm : 0 < z
              · have hd : decide (0 < z) = true := by simpa using hm
                have HA1 : Hid (anyK l (k + 1) = true) := Lib.hid (by rw [HAK.out, hd, Bool.or_true])
                by_cases hq : at0 (markK l pv i k) k < 0
                · have hd2 : decide (at0 (markK l pv i k) k < 0) = true := by simpa using hq
                  have HM1 : Hid (markK l pv i (k + 1) = (markK l pv i k).set k i) := Lib.hid (by rw [HMK.out, if_pos ⟨hm, hq⟩])
                  have HR1 := Lib.hid (HR.out.setAr k i)
                  simp only at HR1
                  rw [← HM1.out] at HR1
                  have HN2 := Lib.hid (HNW.out.set_ (p := ⟨ba, k, none⟩) hba.1 hba.2 (.int .i64 i))
                  go_wp2
                  go_roundw
                  case rel => exact ⟨k + 1, by omega, by go_num, by rw [HA1.out], HN2, HR1⟩
                  case measure => simp [intOf]; omega
                · have hd2 : decide (at0 (markK l pv i k) k < 0) = false := by simpa using hq
                  have HM1 : Hid (markK l pv i (k + 1) = markK l pv i k) := Lib.hid (by rw [HMK.out, if_neg (fun h => hq h.2)])
                  go_wp2
                  go_roundw
                  case rel => exact ⟨k + 1, by omega, by go_num, by rw [HA1.out], HNW, by rw [HM1.out]; exact HR⟩
                  case measure => simp [intOf]; omega
              · have hd : decide (0 < z) = false := by simpa using hm
                have HA1 : Hid (anyK l (k + 1) = anyK l k) := Lib.hid (by rw [HAK.out, hd, Bool.or_false])
                have HM1 : Hid (markK l pv i (k + 1) = markK l pv i k) := Lib.hid (by rw [HMK.out, if_neg (fun h => hm h.1)])
                go_wp2
                go_roundw
                case rel => exact ⟨k + 1, by omega, by go_num, by rw [HA1.out], HNW, by rw [HM1.out]; exact HR⟩
                case measure => simp [intOf]; omega
            · obtain rfl : k = n := by omega
              have HAS := Lib.hid (anyK_sum HNN.out hlen)
              rw [← HP1.out] at HR
              generalize wr = w3 at *
              by_cases hs : 0 < l.sum
              · have hany : anyK l k = true := by rw [HAS.out]; simpa using hs
                have HPP := Lib.hid (HPS.out hs)
                have hbx := HR.out.box
                rw [HGC.out] at hbx
                have y0 : w3.cell? ⟨w.heap.size, 0, none⟩ = some (.int .i64 g.rows) := hbx.cell 0
                have y1 : w3.cell? ⟨w.heap.size, 1, none⟩ = some (.int .i64 g.cols) := hbx.cell 1
                have y2 : w3.cell? ⟨w.heap.size, 2, none⟩ = some (.int .i64 g.size) := hbx.cell 2
                have y3 : w3.cell? ⟨w.heap.size, 3, none⟩ = some (.slice A k c) := hbx.cell 3
                have HCC := Lib.hid (HCV.out w3 HR.out.bel (HNW.out.reads HR.out.bel.size))
                have hw3 := HR.out.sz
                rw [hany]
                clear hbx hany HAS
                go_wp2_with fail
                refine HCC.out.mono ?_
                rintro e w2 ⟨D1, d1, F1, f1, a, a', b, b', rfl, O1, O2, hab, ha, hb, ha', hb', B2⟩
                have HO1 := Lib.hid O1
                have HO2 := Lib.hid O2
                have HR2 := Lib.hid (HR.out.below B2)
                have HB2 := Lib.hid B2
                rw [← HN1.out] at HO1
                obtain ⟨mr, hmr⟩ : ∃ x, (routeTo g fr l k).2 = x := ⟨_, rfl⟩
                have HRV1 := Lib.hid HRV.out.n2
                have hrs := HRV.out.sum
                have hrl := HRV.out.l2
                have HRN := Lib.hid HRV.out.n1
                have hrn := HRN.out.sum
                rw [List.take_of_length_le (by omega)] at hrs
                rw [hmr] at HO2 HRV1 hrs hrl HS1
                clear O1 O2 B2 y0 y1 y2 y3 HCC HNW HR hmr HRV
                go_wp2
                go_loopw [74] (fun iv wr => ∃ j : Nat, j ≤ k ∧ iv = .int .i64 j ∧ Hid (RunS w wr w.heap.size bs ba bx k gc i (addK sv mr j, preV g fr ms (i + 1))) ∧ Hid (Own wr a a' 2 1 (.slice D1 k d1) k (ints (nowV g fr ms (i + 1)))) ∧ Hid (Own wr b b' 2 1 (.slice F1 k f1) k (ints mr)) ∧ w2.heap.size ≤ wr.heap.size) (fun iv _ => k - (intOf iv).toNat)
                case atStart => exact ⟨0, Nat.zero_le _, rfl, HR2, HO1, HO2, Nat.le_refl _⟩
                case round =>
                  clear HR2 HO1 HO2
                  obtain ⟨j, hj, rfl, HR2, HO1, HO2, hsz⟩ := hrel
                  by_cases hjl : j < k
                  · obtain ⟨adq, z, rfl, hz, cz⟩ := HO2.out.intAt hjl
                    have hzl : at0 mr j = z := at0_get hz
                    obtain ⟨p1, p2⟩ := HR2.out.stAt hjl
                    obtain ⟨x0, x1, x2, x3⟩ := HR2.out.xAt
                    simp only at p1
                    have hat := addK_at sv mr j (by omega) j
                    rw [if_neg (Nat.lt_irrefl j)] at hat
                    rw [hat] at p1
                    have h1 := HSN.out.le j
                    have h2 := HSN.out j
                    have h3 := HRV1.out.le j
                    have h4 := HRV1.out j
                    rw [hzl] at h3 h4
                    have hwz : IntKind.i64.wrap (at0 sv j + z) = at0 sv j + z := IntWalk.i64_in _ (by omega)
                    have hkn : (j : Int) < (k : Int) := by omega
                    have hk0 : (0 : Int) ≤ (j : Int) := by omega
                    have hb2 : w.heap.size ≤ bs ∧ bs < w.heap.size + 5 := by have := HR2.out.hs; omega
                    have HAD : Hid (addK sv mr (j + 1) = (addK sv mr j).set j (at0 sv j + z)) := Lib.hid (by rw [addK, addAt, hat, hzl])
                    have HR3 := Lib.hid (HR2.out.setSt j (at0 sv j + z))
                    simp only at HR3
                    rw [← HAD.out] at HR3
                    have HO3 := Lib.hid (HO1.out.setOut (p := ⟨bs, j, none⟩) (show bs < a by omega) (.int .i64 (at0 sv j + z)))
                    have HO4 := Lib.hid (HO2.out.setOut (p := ⟨bs, j, none⟩) (show bs < b by omega) (.int .i64 (at0 sv j + z)))
                    clear hz hzl hat h1 h2 h3 h4
                    go_wp2
                    go_roundw
                    case rel => exact ⟨j + 1, by omega, by go_num, HR3, HO3, HO4, by simpa using hsz⟩
                    case measure => simp [intOf]; omega
                  · obtain rfl : j = k := by omega
                    obtain ⟨x0, x1, x2, x3⟩ := HR2.out.xAt
                    have hwz : IntKind.i64.wrap ((i : Int) + 1) = (i : Int) + 1 := IntWalk.i64_in _ (by omega)
                    have HR3 := Lib.hid (HR2.out.setK ((i : Int) + 1))
                    rw [← HS1.out] at HR3
                    have hb3 : w.heap.size ≤ bx ∧ bx < w.heap.size + 5 := by have := HR2.out.hx; omega
                    have HN3 : Hid (NowS w (w.heap.size + 5) (wr.setCell ⟨bx, 1, none⟩ (.int .i64 ((i : Int) + 1))) D1 j d1 (nowV g fr ms (i + 1))) := Lib.hid (.inr ⟨a, a', by omega, by simp; omega, HO1.out.setOut (p := ⟨bx, 1, none⟩) (show bx < a by omega) _⟩)
                    have HME := Lib.hid HR3.out.xAt.2.1
                    go_wp2
                    go_roundw
                    case rel => exact ⟨i + 1, D1, d1, HPP.out, rfl, HN3, by simpa using HR3⟩
                    case measure => rw [HME.out, HOLD.out]; simp [intOf]; omega
              · have hany : anyK l k = false := by rw [HAS.out]; simpa using hs
                have HEE := Lib.hid (HED.out (by omega))
                obtain ⟨x0, x1, x2, x3⟩ := HR.out.xAt
                have r0 : w3.cell? ⟨w.heap.size + 1, 0, none⟩ = some (.slice none 0 0) := HR.out.rb.cell 0
                have r1 : w3.cell? ⟨w.heap.size + 1, 1, none⟩ = some (.int .i64 0) := HR.out.rb.cell 1
                have r2 : w3.cell? ⟨w.heap.size + 1, 2, none⟩ = some (.slice none 0 0) := HR.out.rb.cell 2
                have s0 := HR.out.rb.frozen 0
                have s1 := HR.out.rb.frozen 1
                have s2 := HR.out.rb.frozen 2
                rw [hany]
                go_wp2
                refine bodyPost_ret (v := .agg #[.slice (some ⟨bs, 0, none⟩) k k, .int .i64 i, .slice (some ⟨ba, 0, none⟩) k k]) (by simp [results, Try.results51, go_sem, r0, r1, r2]) rfl ?_
                rw [← HSV.out] at HR
                exact RunS.done HR.out HEE.out _ _ _
end Go.Proofs.Ytaoomildopmclaa
