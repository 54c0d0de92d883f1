/- Layers: the bounds of the index of a layer, by the program and by the reference. -/
import Derived.Test.YtipchejcgbmpgaaLayC
namespace Go.Proofs.Ytipchejcgbmpgaa
open Go.ChangeShapes Go.WideShapes Go.ChangeAt Go.RowKit
set_option linter.unusedVariables false

def idxLoV (lo st : Int) : Int := if st = 0 then 1000000 else min (1000 * lo / st) 1000000
def idxHiV (hi st : Int) : Int := if st = 0 then 1000000 else min ((1000 * hi + st - 1) / st) 1000000
def stAt (ls : List Lay) (more rise run : Int) (k : Nat) : Int := stressV (loadV ls k + more) rise run
def idxLo (ls : List Lay) (more rise run d : Int) (k : Nat) : Int := match ls[k]? with
  | some s => idxLoV (s.lo d) (stAt ls more rise run k)
  | none => 0
def idxHi (ls : List Lay) (more rise run d : Int) (k : Nat) : Int := match ls[k]? with
  | some s => idxHiV (s.hi d) (stAt ls more rise run k)
  | none => 0
structure Args (more rise run d : Int) : Prop where
  m0 : 0 ≤ more
  m1 : more ≤ 1000000
  r0 : 0 ≤ rise
  r1 : rise ≤ 1000
  n0 : 1 ≤ run
  n1 : run ≤ 1000
  d0 : 0 ≤ d
  d1 : d ≤ 1000
def slabV (A : Option Addr) (n c : Nat) (rise run d more : Int) : Value := .agg #[.slice A n c, .int .i64 rise, .int .i64 run, .int .i64 d, .int .i64 more]
theorem i64w {x : Int} (h0 : 0 ≤ x) (h1 : x ≤ 4611686018427387904) : IntKind.i64.wrap x = x := IntWalk.i64_in _ (by omega)

set_option maxHeartbeats 2000000 in
theorem index_c (A : Option Addr) (n c BA k : Nat) (ls : List Lay) (more rise run d : Int) (w : World) (ha : Reads w BA 7 A n (lays ls)) (hB : BA ≤ w.heap.size) (hnc : n ≤ c) (hp : proB ls = true) (hk : k < n) (g : Args more rise run d) :
    Calls Try.prog 66 #[slabV A n c rise run d more, .int .i64 k] w fun e w' => e = .returned (.tuple #[.int .i64 (idxLo ls more rise run d k), .int .i64 (idxHi ls more rise run d k)]) ∧ Below w.heap.size w w' := by
  obtain ⟨m0, m1, r0, r1, n0, n1, d0, d1⟩ := g
  have hn16 : n ≤ 16 := by rw [← ha.layLen]; exact proB_len hp
  obtain ⟨ad, s, rfl, hbl, hs, hc⟩ := ha.lay hk
  have hok := proB_get hp hs
  obtain ⟨⟨lo1, lo2⟩, hi1, hi2⟩ := Lay.lo_bd hok d0 d1
  obtain ⟨ld1, ld2⟩ := loadV_bd hp k
  obtain ⟨st1, st2⟩ := stressV_bd (load := loadV ls k + more) (by omega) (by omega) r0 r1 n0 n1
  have HLO : Hid (idxLo ls more rise run d k = idxLoV (s.lo d) (stressV (loadV ls k + more) rise run)) := Lib.hid (by simp only [idxLo, hs, stAt])
  have HHI : Hid (idxHi ls more rise run d k = idxHiV (s.hi d) (stressV (loadV ls k + more) rise run)) := Lib.hid (by simp only [idxHi, hs, stAt])
  have HR := Lib.hid ha
  have HC := Lib.hid hc
  have HP := Lib.hid hp
  have HOK := Lib.hid hok
  have hk' : (k : Int) < (n : Int) := by omega
  have hblk := World.block_lt_of_cell? w _ (by unfold LayAt at hc; exact hc.1)
  clear ha hc hp hok hs
  simp only [slabV]
  go_enter Try.func66, Try.ntmps66
  go_wp2
  obtain ⟨W1, hW1⟩ : ∃ W1, W1 = w.alloc (.cells #[.slice (some ad) n c, .int .i64 rise, .int .i64 run, .int .i64 d, .int .i64 more] 56) := ⟨_, rfl⟩
  rw [← hW1]
  have K1 : Hid (Blk W1 w.heap.size 56 #[.slice (some ad) n c, .int .i64 rise, .int .i64 run, .int .i64 d, .int .i64 more]) := Lib.hid (by rw [hW1]; exact Blk.new _ _ _)
  have B1 : Hid (Below w.heap.size w W1) := Lib.hid (by rw [hW1]; exact (Below.refl _ _).alloc (Nat.le_refl _) _)
  have hlt1 : w.heap.size < W1.heap.size := K1.out.lt
  clear hW1
  have HC1 := HR.out.below (B1.out.mono hB)
  obtain ⟨ad', s', e', _, hs', hc1⟩ := HC1.lay hk
  obtain rfl : ad = ad' := by injection e'
  have hss : s = s' := by
    obtain ⟨ad'', s'', e'', _, hs'', hc''⟩ := HR.out.lay hk
    obtain rfl : ad = ad'' := by injection e''
    have : s = s'' := by
      have a1 := HC.out
      unfold LayAt at a1 hc''
      obtain ⟨x0, x1, x2, x3, x4, x5, x6⟩ := a1
      obtain ⟨y0, y1, y2, y3, y4, y5, y6⟩ := hc''
      rw [x0] at y0; rw [x1] at y1; rw [x2] at y2; rw [x3] at y3; rw [x4] at y4; rw [x5] at y5; rw [x6] at y6
      cases s; cases s''
      simp at y0 y1 y2 y3 y4 y5 y6
      subst y0 y1 y2 y3 y4 y5 y6
      rfl
    rw [this, hs'] at *
    injection hs''.symm
  subst hss
  clear HC1 hs' e' HC
  unfold LayAt at hc1
  obtain ⟨c0, c1, c2, c3, c4, c5, c6⟩ := hc1
  have x0 : W1.cell? ⟨w.heap.size, 0, none⟩ = some (.slice (some ad) n c) := K1.out.cell 0
  have x3 : W1.cell? ⟨w.heap.size, 3, none⟩ = some (.int .i64 d) := K1.out.cell 3
  have qx0 := cell_regrown x0
  have qx3 := cell_regrown x3
  have qc0 := cell_regrown c0
  have qc1 := cell_regrown c1
  have qc2 := cell_regrown c2
  have qc3 := cell_regrown c3
  have qc4 := cell_regrown c4
  have qc5 := cell_regrown c5
  have qc6 := cell_regrown c6
  refine wp_region_quiet_below (by kernel_rfl) (by kernel_rfl) ?_
  repeat (first | go_big_quiet_step (((go_at_call 87; exact Calls.regrown_of (strength_c s d _ HOK.out d0 d1)))) | quiet_step (((go_at_call 87; exact Calls.regrown_of (strength_c s d _ HOK.out d0 d1)))))
  refine wpQuiet_nil ?_
  intro W2 B2
  replace B2 := Lib.hid (show Below (W1).heap.size (W1) W2 from by obtain ⟨pq, rfl⟩ := B2; exact below_regrown _ _ _)
  clear qx0 qx3 qc0 qc1 qc2 qc3 qc4 qc5 qc6
  have K2 : Hid (Blk W2 w.heap.size 56 #[.slice (some ad) n c, .int .i64 rise, .int .i64 run, .int .i64 d, .int .i64 more]) := Lib.hid (K1.out.below B2.out hlt1)
  have T2 : Hid (Below w.heap.size w W2) := Lib.hid (B1.out.trans (B2.out.mono (by omega)))
  have R2 : Hid (Reads W2 BA 7 (some ad) n (lays ls)) := Lib.hid (HR.out.below (T2.out.mono hB))
  have hs2 : BA ≤ W2.heap.size := by have := T2.out.size; omega
  clear x0 x3 c0 c1 c2 c3 c4 c5 c6 K1 B1 B2 hlt1
  have x0 : W2.cell? ⟨w.heap.size, 0, none⟩ = some (.slice (some ad) n c) := K2.out.cell 0
  have x1 : W2.cell? ⟨w.heap.size, 1, none⟩ = some (.int .i64 rise) := K2.out.cell 1
  have x2 : W2.cell? ⟨w.heap.size, 2, none⟩ = some (.int .i64 run) := K2.out.cell 2
  have x4 : W2.cell? ⟨w.heap.size, 4, none⟩ = some (.int .i64 more) := K2.out.cell 4
  have e1 : IntKind.i64.wrap (loadV ls k + more) = loadV ls k + more := i64w (by omega) (by omega)
  go_wp2
  have qx0 := cell_regrown x0
  have qx1 := cell_regrown x1
  have qx2 := cell_regrown x2
  have qx4 := cell_regrown x4
  refine wp_region_quiet_below (by kernel_rfl) (by kernel_rfl) ?_
  repeat (first | go_big_quiet_step ((first | (go_at_call 89; exact Calls.regrown_of (loadAbove_c _ n c BA k ls _ (R2.out.below ((below_regrown _ _ _).mono hs2)) (Nat.le_trans hs2 (below_regrown _ _ _).size) (by omega) hnc HP.out hk)) | (go_at_call 88; exact Calls.regrown_of (drew_b (stressOf_c _ rise run _ (by omega) (by omega) r0 r1 n0 n1))))) | quiet_step ((first | (go_at_call 89; exact Calls.regrown_of (loadAbove_c _ n c BA k ls _ (R2.out.below ((below_regrown _ _ _).mono hs2)) (Nat.le_trans hs2 (below_regrown _ _ _).size) (by omega) hnc HP.out hk)) | (go_at_call 88; exact Calls.regrown_of (drew_b (stressOf_c _ rise run _ (by omega) (by omega) r0 r1 n0 n1))))))
  refine wpQuiet_nil ?_
  intro W3 B3
  replace B3 := Lib.hid (show Below (W2).heap.size (W2) W3 from by obtain ⟨pq, rfl⟩ := B3; exact below_regrown _ _ _)
  clear qx0 qx1 qx2 qx4
  have T3 : Hid (Below w.heap.size w W3) := Lib.hid (T2.out.trans (B3.out.mono T2.out.size))
  clear e1 x0 x1 x2 x4 K2 R2 hs2 B3 T2
  generalize stressV (loadV ls k + more) rise run = st at *
  generalize s.lo d = lo at *
  generalize s.hi d = hi at *
  by_cases h0 : st = 0
  · subst h0
    go_wp2
    go_ret2
    exact ⟨ret2 (by rw [HLO.out]; rfl) (by rw [HHI.out]; rfl), T3.out⟩
  · have hst : 1 ≤ st := by omega
    have q1 := Int.ediv_nonneg (show 0 ≤ 1000 * lo by omega) (show 0 ≤ st by omega)
    have q2 := Int.ediv_le_self st (show 0 ≤ 1000 * lo by omega)
    have e1 : IntKind.i64.wrap (1000 * lo) = 1000 * lo := i64w (by omega) (by omega)
    have e2 : IntKind.i64.wrap (1000 * hi) = 1000 * hi := i64w (by omega) (by omega)
    have e3 : Int.tdiv (1000 * lo) st = 1000 * lo / st := Int.tdiv_eq_ediv_of_nonneg (by omega)
    have e4 : IntKind.i64.wrap (1000 * lo / st) = 1000 * lo / st := i64w (by omega) (by omega)
    rcases Int.lt_or_le 1000000 (1000 * lo / st) with hl | hl <;> rcases Int.lt_or_le 1000000 ((1000 * hi + st - 1) / st) with hh | hh
    all_goals
      go_wp2
      refine wp_region_quiet_below (by kernel_rfl) (by kernel_rfl) ?_
      repeat (first | go_big_quiet_step (((go_at_call 90; exact Calls.regrown_of (quiet_b (divUp_c _ _ _ (by omega) (by omega) (by omega) (by omega)))))) | quiet_step (((go_at_call 90; exact Calls.regrown_of (quiet_b (divUp_c _ _ _ (by omega) (by omega) (by omega) (by omega)))))))
      refine wpQuiet_nil ?_
      intro W4 B4
      replace B4 := Lib.hid (show Below (W3).heap.size (W3) W4 from by obtain ⟨pq, rfl⟩ := B4; exact below_regrown _ _ _)
      go_wp2
      go_ret2
      exact ⟨ret2 (by rw [HLO.out, idxLoV, if_neg h0]; omega) (by rw [HHI.out, idxHiV, if_neg h0]; omega), T3.out.trans (B4.out.mono T3.out.size)⟩
set_option maxHeartbeats 2000000 in
theorem l07Index_c (A : Option Addr) (n c BA k : Nat) (ls : List Lay) (more rise run d : Int) (w : World) (ha : Reads w BA 7 A n (lays ls)) (hB : BA ≤ w.heap.size) (hnc : n ≤ c) (hp : proB ls = true) (hk : k < n) (g : Args more rise run d) :
    Calls Try.prog 56 #[.slice A n c, .int .i64 k, .int .i64 more, .int .i64 rise, .int .i64 run, .int .i64 d] w fun e w' => e = .returned (.tuple #[.int .i64 (idxLo ls more rise run d k), .int .i64 (idxHi ls more rise run d k)]) ∧ Below w.heap.size w w' := by
  obtain ⟨m0, m1, r0, r1, n0, n1, d0, d1⟩ := g
  have hn16 : n ≤ 16 := by rw [← ha.layLen]; exact proB_len hp
  obtain ⟨ad, s, rfl, hbl, hs, hc⟩ := ha.lay hk
  have hok := proB_get hp hs
  obtain ⟨⟨lo1, lo2⟩, hi1, hi2⟩ := Lay.lo_bd hok d0 d1
  obtain ⟨ld1, ld2⟩ := loadV_bd hp k
  obtain ⟨st1, st2⟩ := stressV_bd (load := loadV ls k + more) (by omega) (by omega) r0 r1 n0 n1
  have HLO : Hid (idxLo ls more rise run d k = idxLoV (s.lo d) (stressV (loadV ls k + more) rise run)) := Lib.hid (by simp only [idxLo, hs, stAt])
  have HHI : Hid (idxHi ls more rise run d k = idxHiV (s.hi d) (stressV (loadV ls k + more) rise run)) := Lib.hid (by simp only [idxHi, hs, stAt])
  have HLD := Lib.hid (l03Load_c _ n c BA k ls w ha (by omega) hnc hp hk)
  have HST := Lib.hid (l07Strength_c ad k s d w hc hok d0 d1)
  have hk' : (k : Int) < (n : Int) := by omega
  clear ha hc hp hok hs
  go_enter Try.func56, Try.ntmps56
  go_wp2_with fail
  refine HLD.out.mono ?_
  rintro e w' ⟨rfl, rfl⟩
  go_wp2_with fail
  refine (l07Stress_c _ rise run _ (by omega) (by omega) r0 r1 n0 n1).mono ?_
  rintro e w' ⟨rfl, rfl⟩
  generalize stressV (loadV ls k + more) rise run = st at *
  by_cases h0 : st = 0
  · subst h0
    go_wp2
    go_ret2
    exact ⟨ret2 (by rw [HLO.out]; rfl) (by rw [HHI.out]; rfl), Below.refl _ _⟩
  · have hst : 1 ≤ st := by omega
    go_wp2_with fail
    refine HST.out.mono ?_
    rintro e W3 ⟨rfl, T3⟩
    replace T3 := Lib.hid T3
    generalize s.lo d = lo at *
    generalize s.hi d = hi at *
    have q1 := Int.ediv_nonneg (show 0 ≤ 1000 * lo by omega) (show 0 ≤ st by omega)
    have q2 := Int.ediv_le_self st (show 0 ≤ 1000 * lo by omega)
    have q3 := Int.ediv_nonneg (show 0 ≤ hi * 1000 + st - 1 by omega) (show 0 ≤ st by omega)
    have q4 := Int.ediv_le_self st (show 0 ≤ hi * 1000 + st - 1 by omega)
    have z1 : lo * 1000 = 1000 * lo := Int.mul_comm _ _
    have z2 : hi * 1000 = 1000 * hi := Int.mul_comm _ _
    rw [← z1] at q1 q2
    have HZ : Hid (1000 * lo / st = lo * 1000 / st ∧ (1000 * hi + st - 1) / st = (hi * 1000 + st - 1) / st) := Lib.hid (by rw [z1, z2]; exact ⟨rfl, rfl⟩)
    clear z1 z2
    have e1 : IntKind.i64.wrap (lo * 1000) = lo * 1000 := i64w (by omega) (by omega)
    have e2 : IntKind.i64.wrap (hi * 1000) = hi * 1000 := i64w (by omega) (by omega)
    have e3 : Int.tdiv (lo * 1000) st = lo * 1000 / st := Int.tdiv_eq_ediv_of_nonneg (by omega)
    have e4 : IntKind.i64.wrap (lo * 1000 / st) = lo * 1000 / st := i64w (by omega) (by omega)
    have e5 : IntKind.i64.wrap (hi * 1000 + st) = hi * 1000 + st := i64w (by omega) (by omega)
    have e6 : IntKind.i64.wrap (hi * 1000 + st - 1) = hi * 1000 + st - 1 := i64w (by omega) (by omega)
    have e7 : Int.tdiv (hi * 1000 + st - 1) st = (hi * 1000 + st - 1) / st := Int.tdiv_eq_ediv_of_nonneg (by omega)
    have e8 : IntKind.i64.wrap ((hi * 1000 + st - 1) / st) = (hi * 1000 + st - 1) / st := i64w (by omega) (by omega)
    go_wp2
    refine wp_region_quiet_below (by kernel_rfl) (by kernel_rfl) ?_
    repeat (first | go_big_quiet_step (((go_at_call 83; exact Calls.regrown_of (quiet_b (l00Min_c _ _ _))))) | quiet_step (((go_at_call 83; exact Calls.regrown_of (quiet_b (l00Min_c _ _ _))))))
    refine wpQuiet_nil ?_
    intro W4 B4
    replace B4 := Lib.hid (show Below (W3).heap.size (W3) W4 from by obtain ⟨pq, rfl⟩ := B4; exact below_regrown _ _ _)
    clear e1 e2 e3 e4 e5 e6 e7 e8
    go_wp2
    go_ret2
    exact ⟨ret2 (by rw [HLO.out, idxLoV, if_neg h0, HZ.out.1]; exact Int.min_comm _ _) (by rw [HHI.out, idxHiV, if_neg h0, HZ.out.2]; exact Int.min_comm _ _), T3.out.trans (B4.out.mono T3.out.size)⟩
end Go.Proofs.Ytipchejcgbmpgaa
