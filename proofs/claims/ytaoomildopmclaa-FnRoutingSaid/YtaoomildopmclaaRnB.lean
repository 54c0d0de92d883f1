/- Masses that run: what is reached, the whole run, the neighbours: contracts for valid arguments. -/
import Derived.Test.YtaoomildopmclaaRnA
import Derived.Test.YtaoomildopmclaaAvB
namespace Go.Proofs.Ytaoomildopmclaa
open Go.ChangeShapes Go.WideShapes Go.ChangeAt Go.RowKit
set_option linter.unusedVariables false
def ReachPost (l : List Int) (w : World) (e : Ending) (w' : World) : Prop :=
  ∃ A n c, e = .returned (.slice A n c) ∧ Own w' w.heap.size w'.heap.size 2 1 (.slice A n c) n (ints l) ∧ Below w.heap.size w w'
set_option maxHeartbeats 2000000 in
theorem reached_c (v : Value) (k0 : Int) (F : Option Addr) (n fd B : Nat) (l : List Int) (w : World) (hf : Reads w B 1 F n (ints l)) (hB : B ≤ w.heap.size) (hn : n ≤ 64) :
    Calls Try.prog 52 #[.agg #[v, .int .i64 k0, .slice F n fd]] w (ReachPost (reachL l n) w) := by
  have HF := Lib.hid hf
  clear hf
  have B1 : Hid (Below w.heap.size w (w.alloc (.cells #[v, .int .i64 k0, .slice F n fd] 66))) := Lib.hid ((Below.refl _ _).alloc (Nat.le_refl _) _)
  have hs1 : (w.alloc (.cells #[v, .int .i64 k0, .slice F n fd] 66)).heap.size = w.heap.size + 1 := by simp
  have O1 : Hid ((w.alloc (.cells #[v, .int .i64 k0, .slice F n fd] 66)).ownsRow w.heap.size 2 1 (.slice none 0 0) 0 (ints [])) := Lib.hid (World.ownsRow_nil _ _ _ _)
  go_enter Try.func52, Try.ntmps52
  go_wp2
  go_loopw [3, 9] (fun cv iv wr => ∃ k : Nat, k ≤ n ∧ iv = .int .i64 k ∧ Hid (wr.ownsRow w.heap.size 2 1 cv (reachL l k).length (ints (reachL l k))) ∧ Hid (Below w.heap.size w wr)) (fun _ iv _ => n - (intOf iv).toNat)
  case atStart => exact ⟨0, Nat.zero_le _, rfl, O1, B1⟩
  case round =>
    clear O1 B1 hs1
    obtain ⟨k, hk, rfl, HO, HB⟩ := hrel
    have hwr := HB.out.size
    by_cases hlt : k < n
    · obtain ⟨ad, z, rfl, _, hz, cz⟩ := (HF.out.below (HB.out.mono hB)).int hlt
      have hzl : at0 l k = z := at0_get hz
      have hkn : (k : Int) < (n : Int) := by omega
      have hk0 : (0 : Int) ≤ (k : Int) := by omega
      have HL : Hid (reachL l (k + 1) = if 0 ≤ z then reachL l k ++ [(k : Int)] else reachL l k) := Lib.hid (by rw [reachL, hzl])
      have hlen := reachL_len l k
      clear hz hzl
      by_cases hp : 0 ≤ z
      · have hd : decide (0 ≤ z) = true := by simpa using hp
        rw [if_pos hp] at HL
        have HOW := Lib.hid (owns_al HO.out (.cells #[.int .i64 (k : Int)] 2))
        go_wp2_with (at_builtin; refine app_i64 rfl (.tmp 16) (.tmp 18) rfl w.heap.size _ (reachL l k).length (reachL l k) (k : Int) _ rfl HOW.out rfl ?_ (by omega) ?_ ?_)
        rotate_left 2
        · intro v' w2 O4 B4 hs4
          have HO2 : Hid (w2.ownsRow w.heap.size 2 1 v' (reachL l (k + 1)).length (ints (reachL l (k + 1)))) := Lib.hid (by rw [HL.out, List.length_append]; exact O4)
          have HB2 := Lib.hid (HB.out.trans ((((Below.refl w.heap.size wr).alloc hwr (.cells #[.int .i64 (k : Int)] 2))).trans B4))
          clear O4 B4 hs4 HOW
          go_wp2
          go_roundw
          case rel => exact ⟨k + 1, by omega, by go_num, HO2, HB2⟩
          case measure => simp [intOf]; omega
        · exact (Blk.new _ _ _).cell 0
        · simp; omega
      · have hd : decide (0 ≤ z) = false := by simpa using hp
        rw [if_neg hp] at HL
        go_wp2
        go_roundw
        case rel => exact ⟨k + 1, by omega, by go_num, by rw [HL.out]; exact HO, HB⟩
        case measure => simp [intOf]; omega
    · obtain rfl : k = n := by omega
      obtain ⟨A2, c2, rfl, _, _⟩ := (Own.of_owns HO.out (Nat.le_refl _)).slice
      go_wp2
      go_ret
      exact ⟨A2, _, c2, rfl, Own.of_owns HO.out (Nat.le_refl _), HB.out⟩
def RunMassPost (g : Gr) (fr : Int) (ms : List Int) (n : Nat) (w : World) (e : Ending) (w' : World) : Prop :=
  ∃ N D d, EndAt g fr ms N ∧ e = .returned (.tuple #[.slice D n d, .int .i64 (N : Nat), .int .i64 0]) ∧ Own w' w.heap.size w'.heap.size 2 1 (.slice D n d) n (ints (setV g fr ms N)) ∧ Below w.heap.size w w'
set_option maxHeartbeats 2000000 in
set_option maxRecDepth 100000 in
theorem iRunMass_c (g : Gr) (A : Option Addr) (n c B : Nat) (D : Option Addr) (d BD : Nat) (ms : List Int) (fr : Int) (w : World) (hg : GS w B g A n c) (hd : Reads w BD 1 D n (ints ms)) (hD : BD ≤ w.heap.size) (h0 : routeV g ms fr [] = 0) :
    Calls Try.prog 18 #[g.val A n c, .slice D n d, .int .i64 fr] w (RunMassPost g fr ms n w) := by
  have HRC := Lib.hid fun W (hW : Below w.heap.size w W) => routeCode_c g A n c B D n d BD ms fr none 0 0 0 [] W (hg.below hW) (hd.below (hW.mono hD)) (by have := hW.size; omega) hg.big Reads.none_ (by omega) (by omega)
  have HT := Lib.hid ((Below.refl w.heap.size w).alloc (Nat.le_refl _) (.cells (g.cells A n c) 26))
  have HS : Hid ((w.alloc (.cells (g.cells A n c) 26)).heap.size = w.heap.size + 1) := Lib.hid (by simp)
  have HK := Lib.hid (Blk.new w 26 (g.cells A n c))
  obtain ⟨hok, hf1, hf2, hlen, hnn, hsm⟩ := routeOk h0
  have HRT := Lib.hid fun W (hW : Below w.heap.size w W) => run_c g A n c B D d BD ms fr W (hg.below hW) hok (hd.below (hW.mono hD)) (by have := hW.size; omega) hnn hsm hf1 hf2
  rw [h0] at HRC
  clear h0 hok hlen hnn hsm hg hd
  simp only [Gr.val, Gr.cells] at *
  go_enter Try.func18, Try.ntmps18
  go_wp2_with fail
  refine (HRC.out _ HT.out).mono ?_
  rintro e w1 ⟨rfl, hb1⟩
  have HB := Lib.hid (HT.out.trans (hb1.mono (by rw [HS.out]; omega)))
  have HK1 := Lib.hid (HK.out.below hb1 (by rw [HS.out]; omega))
  clear hb1
  have x0 : w1.cell? ⟨w.heap.size, 0, none⟩ = some (.int .i64 g.rows) := HK1.out.cell 0
  have x1 : w1.cell? ⟨w.heap.size, 1, none⟩ = some (.int .i64 g.cols) := HK1.out.cell 1
  have x2 : w1.cell? ⟨w.heap.size, 2, none⟩ = some (.int .i64 g.size) := HK1.out.cell 2
  have x3 : w1.cell? ⟨w.heap.size, 3, none⟩ = some (.slice A n c) := HK1.out.cell 3
  go_wp2_with fail
  refine (HRT.out w1 HB.out).mono ?_
  rintro e w2 ⟨N, D1, F1, p, p', q, q', hN, rfl, O1, O2, hpq, hp, hq, hp', hq', B2⟩
  have HNE := Lib.hid hN
  have hbs := HB.out.size
  have HB2 := Lib.hid (HB.out.trans (B2.mono hbs))
  have HO1 := Lib.hid ((O1.widen hp hp').widen hbs (Nat.le_refl _))
  clear x0 x1 x2 x3 B2 O1 O2 hN
  obtain ⟨W3, hW3⟩ : ∃ W, W = w2.alloc (.cells #[.slice D1 n n, .int .i64 (N : Nat), .slice F1 n n] 66) := ⟨_, rfl⟩
  have HX := Lib.hid hW3
  have HK3 : Hid (Blk W3 w2.heap.size 66 #[.slice D1 n n, .int .i64 (N : Nat), .slice F1 n n]) := Lib.hid (by rw [hW3]; exact Blk.new _ _ _)
  have HB3 : Hid (Below w.heap.size w W3) := Lib.hid (by rw [hW3]; exact HB2.out.alloc HB2.out.size _)
  have HO3 : Hid (Own W3 w.heap.size W3.heap.size 2 1 (.slice D1 n n) n (ints (setV g fr ms N))) := Lib.hid (by
    have hb : Below w2.heap.size w2 W3 := by rw [hW3]; exact (Below.refl _ _).alloc (Nat.le_refl _) _
    exact (HO1.out.below hb (Nat.le_refl _)).widen (Nat.le_refl _) hb.size)
  clear hW3
  go_upto_region 5 with (fail)
  rw [← HX.out]
  have y0 : W3.cell? ⟨w2.heap.size, 0, none⟩ = some (.slice D1 n n) := HK3.out.cell 0
  have y1 : W3.cell? ⟨w2.heap.size, 1, none⟩ = some (.int .i64 (N : Nat)) := HK3.out.cell 1
  refine wp_region_quiet_lit (by kernel_rfl) (by kernel_rfl) ?_
  repeat (first | go_big_quiet_step (fail) | quiet_step (fail))
  refine wpQuiet_nil ?_
  intro _ hw'
  obtain ⟨nq, hw''⟩ := hw'
  subst hw''
  go_wp2
  try simp only [Exit.inBlock, Exit.then]
  refine bodyPost_ret (results_tmp3 rfl _ _ _) rfl ?_
  exact ⟨N, D1, n, HNE.out, rfl, HO3.out, below_drewN HB3.out _⟩
def ReachedPost (g : Gr) (fr : Int) (ms : List Int) (n : Nat) (w : World) (e : Ending) (w' : World) : Prop :=
  ∃ N A m c, EndAt g fr ms N ∧ e = .returned (.tuple #[.slice A m c, .int .i64 0]) ∧ Own w' w.heap.size w'.heap.size 2 1 (.slice A m c) m (ints (reachL (preV g fr ms (N + 1)) n)) ∧ Below w.heap.size w w'
set_option maxHeartbeats 2000000 in
set_option maxRecDepth 100000 in
theorem iReachedBy_c (g : Gr) (A : Option Addr) (n c B : Nat) (D : Option Addr) (d BD : Nat) (ms : List Int) (fr : Int) (w : World) (hg : GS w B g A n c) (hd : Reads w BD 1 D n (ints ms)) (hD : BD ≤ w.heap.size) (h0 : routeV g ms fr [] = 0) :
    Calls Try.prog 19 #[g.val A n c, .slice D n d, .int .i64 fr] w (ReachedPost g fr ms n w) := by
  have HRC := Lib.hid fun W (hW : Below w.heap.size w W) => routeCode_c g A n c B D n d BD ms fr none 0 0 0 [] W (hg.below hW) (hd.below (hW.mono hD)) (by have := hW.size; omega) hg.big Reads.none_ (by omega) (by omega)
  have HT := Lib.hid ((Below.refl w.heap.size w).alloc (Nat.le_refl _) (.cells (g.cells A n c) 26))
  have HS : Hid ((w.alloc (.cells (g.cells A n c) 26)).heap.size = w.heap.size + 1) := Lib.hid (by simp)
  have HK := Lib.hid (Blk.new w 26 (g.cells A n c))
  obtain ⟨hok, hf1, hf2, hlen, hnn, hsm⟩ := routeOk h0
  have hn64 := (Gr.ok_bd hok).len64
  rw [hg.len] at hn64
  have HRT := Lib.hid fun W (hW : Below w.heap.size w W) => run_c g A n c B D d BD ms fr W (hg.below hW) hok (hd.below (hW.mono hD)) (by have := hW.size; omega) hnn hsm hf1 hf2
  rw [h0] at HRC
  clear h0 hok hlen hnn hsm hg hd
  simp only [Gr.val, Gr.cells] at *
  go_enter Try.func19, Try.ntmps19
  go_wp2_with fail
  refine (HRC.out _ HT.out).mono ?_
  rintro e w1 ⟨rfl, hb1⟩
  have HB := Lib.hid (HT.out.trans (hb1.mono (by rw [HS.out]; omega)))
  have HK1 := Lib.hid (HK.out.below hb1 (by rw [HS.out]; omega))
  clear hb1
  have x0 : w1.cell? ⟨w.heap.size, 0, none⟩ = some (.int .i64 g.rows) := HK1.out.cell 0
  have x1 : w1.cell? ⟨w.heap.size, 1, none⟩ = some (.int .i64 g.cols) := HK1.out.cell 1
  have x2 : w1.cell? ⟨w.heap.size, 2, none⟩ = some (.int .i64 g.size) := HK1.out.cell 2
  have x3 : w1.cell? ⟨w.heap.size, 3, none⟩ = some (.slice A n c) := HK1.out.cell 3
  go_wp2_with fail
  refine (HRT.out w1 HB.out).mono ?_
  rintro e w2 ⟨N, D1, F1, p, p', q, q', hN, rfl, O1, O2, hpq, hp, hq, hp', hq', B2⟩
  have HNE := Lib.hid hN
  have hbs := HB.out.size
  have HB2 := Lib.hid (HB.out.trans (B2.mono hbs))
  have HRE := Lib.hid (reached_c (.slice D1 n n) (N : Nat) F1 n n w2.heap.size (preV g fr ms (N + 1)) w2 (O2.reads.more hq') (Nat.le_refl _) (by omega))
  clear x0 x1 x2 x3 B2 O1 O2 hN
  go_wp2_with fail
  refine HRE.out.mono ?_
  rintro e w3 ⟨A3, m3, c3, rfl, O3, B3⟩
  have HO3 := Lib.hid (O3.widen HB2.out.size (Nat.le_refl _))
  have HB3 := Lib.hid (HB2.out.trans (B3.mono HB2.out.size))
  clear O3 B3 HRE
  go_wp2
  go_ret2
  exact ⟨N, A3, m3, c3, HNE.out, rfl, HO3.out, HB3.out⟩
def NearPost (g : Gr) (k : Nat) (w : World) (e : Ending) (w' : World) : Prop :=
  ∃ A m c, e = .returned (.tuple #[.slice A m c, .int .i64 0]) ∧ Own w' w.heap.size w'.heap.size 2 1 (.slice A m c) m (ints (nearV g k 8)) ∧ Below w.heap.size w w'
theorem sNeighboursOf_c (g : Gr) (A : Option Addr) (n c B : Nat) (k : Nat) (w : World) (hg : GS w B g A n c) (hok : g.ok = true) (hk : k < n) :
    Calls Try.prog 21 #[g.val A n c, .int .i64 k] w (NearPost g k w) := by
  have HP := Lib.hid (GP.new hg)
  have HT := Lib.hid ((Below.refl w.heap.size w).alloc (Nat.le_refl _) (.cells (g.cells A n c) 26))
  obtain ⟨X, hX⟩ : ∃ X, X = w.alloc (.cells (g.cells A n c) 26) := ⟨_, rfl⟩
  rw [← hX] at HP HT
  have HA := Lib.hid (l09Ask_c g w.heap.size A n c B k X HP.out)
  have h0 : askG g k = 0 := by
    have hl := hg.len
    unfold askG inG inB
    simp [hok]; omega
  rw [h0] at HA
  have HN := Lib.hid fun q => l09Near_c g w.heap.size A n c B k (X.drewN q) (HP.out.below (below_drewN (Below.refl _ _) q)) hok hk
  have HX := Lib.hid hX
  clear hg hok h0 hX
  simp only [Gr.val, Gr.cells] at *
  go_enter Try.func21, Try.ntmps21
  go_wp2_with fail
  rw [← HX.out]
  refine HA.out.mono ?_
  rintro e w1 ⟨rfl, q, rfl⟩
  have HT1 := Lib.hid (below_drewN HT.out q)
  go_wp2_with fail
  refine (HN.out q).mono ?_
  rintro e w2 ⟨A2, m2, c2, rfl, O2, B2⟩
  have HO := Lib.hid (O2.widen HT1.out.size (Nat.le_refl _))
  have HB := Lib.hid (HT1.out.trans (B2.mono HT1.out.size))
  clear O2 B2 HA HN
  go_wp2
  go_ret2
  exact ⟨A2, m2, c2, rfl, HO.out, HB.out⟩
theorem r8Has_c (A : Option Addr) (m c B : Nat) (l : List Int) (z : Int) (w : World) (ha : Reads w B 1 A m (ints l)) (hB : B ≤ w.heap.size) (hm : m ≤ 1048576) :
    Calls Try.prog 20 #[.slice A m c, .int .i64 z] w fun e w' => e = .returned (.bool (hasB l z)) ∧ w = w' := by
  have HA := Lib.hid ha
  have HL := Lib.hid ha.len
  clear ha
  go_enter Try.func20, Try.ntmps20
  go_wp2
  go_loop [5] (fun iv => ∃ k : Nat, k ≤ m ∧ iv = .int .i64 k ∧ Hid (hasB (l.take k) z = false)) (fun iv => m - (intOf iv).toNat)
  case atStart => exact ⟨0, Nat.zero_le _, rfl, Lib.hid rfl⟩
  case round =>
    obtain ⟨k, hk, rfl, HH⟩ := hrel
    by_cases hlt : k < m
    · obtain ⟨ad, y, rfl, _, hy, cy⟩ := HA.out.int hlt
      have hkn : (k : Int) < (m : Int) := by omega
      have hk0 : (0 : Int) ≤ (k : Int) := by omega
      by_cases e : y = z
      · have hd : (y == z) = true := by simpa using e
        have HV : Hid (hasB l z = true) := Lib.hid (by unfold hasB; rw [List.any_eq_true]; exact ⟨y, List.mem_of_getElem? hy, by simpa using e⟩)
        clear hy e
        go_wp2
        go_ret
        exact ⟨ret_bool HV.out.symm, rfl⟩
      · have hd : (y == z) = false := by simpa using e
        have HN : Hid (hasB (l.take (k + 1)) z = false) := Lib.hid (by
          have h := HH.out
          unfold hasB at h ⊢
          rw [List.take_add_one, hy, List.any_append, h]
          simpa using e)
        clear hy e
        go_wp2
        go_round
        case rel => exact ⟨k + 1, by omega, by go_num, HN⟩
        case measure => simp [intOf]; omega
    · obtain rfl : k = m := by omega
      have HV : Hid (hasB l z = false) := Lib.hid (by have h := HH.out; rwa [List.take_of_length_le (by have := HL.out; omega)] at h)
      go_wp2
      go_ret
      exact ⟨ret_bool HV.out.symm, rfl⟩
end Go.Proofs.Ytaoomildopmclaa
