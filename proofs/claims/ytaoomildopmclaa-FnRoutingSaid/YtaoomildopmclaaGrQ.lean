/- The steps to the cells next to a cell, by the program. -/
import Derived.Test.YtaoomildopmclaaGrP
namespace Go.Proofs.Ytaoomildopmclaa
open Go.ChangeShapes Go.WideShapes Go.ChangeAt Go.RowKit
set_option linter.unusedVariables false

theorem dirIdx (k : Nat) (hk : k < 8) : ∀ w : World, (Instr.index 103 (.agg #[.int .i64 (-1), .int .i64 0, .int .i64 (-1), .int .i64 1, .int .i64 0, .int .i64 1, .int .i64 1, .int .i64 1, .int .i64 1, .int .i64 0, .int .i64 1, .int .i64 (-1), .int .i64 0, .int .i64 (-1), .int .i64 (-1), .int .i64 (-1)]) (.int .i64 (k : Int))).run Try.prog w = .ok (.agg #[.int .i64 (dR k), .int .i64 (dC k)]) w := by
  have h8 : k = 0 ∨ k = 1 ∨ k = 2 ∨ k = 3 ∨ k = 4 ∨ k = 5 ∨ k = 6 ∨ k = 7 := by omega
  rcases h8 with rfl | rfl | rfl | rfl | rfl | rfl | rfl | rfl
  all_goals (intro w; kernel_rfl)
theorem app_stp {ops : Array Oper} {rest : List Oper} {o : Oper} {a : Act} {Q : Exit → Act → World → Prop} {w : World} (hgd : o.guard = none) (s x : Operand)
    (ho : o.op = .call { callee := .builtin .append, args := #[s, x], argTypes := #[82, 82] })
    (lo : Nat) (v : Value) (n : Nat) (ss : List Stp) (z : Stp) (g : Nat) (hs : a.eval s = v) (hown : w.ownsRow lo 85 3 v n (stps ss))
    (hx : a.eval x = .slice (some ⟨g, 0, none⟩) 1 1) (hk : Blk w g 85 #[.int .i64 z.cell, .int .i64 z.dir, .int .i64 z.slope])
    (hn : n ≤ 100000000000) (hlo : lo ≤ w.heap.size)
    (h : ∀ v' w', w'.ownsRow lo 85 3 v' (n + 1) (stps (ss ++ [z])) → Below lo w w' → w.heap.size ≤ w'.heap.size → wpList Try.prog ops Q rest (a.put o.dst v') w') : wpList Try.prog ops Q (o :: rest) a w := by
  refine app_gen hgd s x _ ho lo _ _ 3 24 Try.underlying82 info_stp rfl (by omega) (by omega) v n (stps ss) z.cells g hs hown hx rfl (by simp [Value.oneCell', Stp.cells]) (fun j u hu => ?_) hn hlo (fun v' w' k1 k2 k3 => h v' w' (by rw [stps_app]; simpa [stps] using k1) k2 k3)
  rw [hk.cell j]
  simpa [Stp.cells] using hu
theorem owns_bel {w w' : World} {lo B s n : Nat} {T : TypeId} {v : Value} {xs : List Value} (h : w.ownsRow lo T s v n xs) (hb : Below B w w') (hB : w.heap.size ≤ B) : w'.ownsRow lo T s v n xs :=
  ((Own.of_owns h (Nat.le_refl _)).below hb hB).1
def NextPost (g : Gr) (cell : Int) (w : World) (e : Ending) (w' : World) : Prop :=
  ∃ A n c, e = .returned (.slice A n c) ∧ Own w' w.heap.size w'.heap.size 85 3 (.slice A n c) n (stps (nextTo g cell 8)) ∧ n ≤ 8 ∧ Below w.heap.size w w'
set_option maxHeartbeats 8000000 in
set_option maxRecDepth 100000 in
theorem next_c (g : Gr) (A : Option Addr) (n c B : Nat) (cell : Nat) (w : World) (hg : GS w B g A n c) (hok : g.ok = true) (hc : cell < n) :
    Calls Try.prog 67 #[g.val A n c, .int .i64 cell] w (NextPost g cell w) := by
  have hb := Gr.ok_bd hok
  have HGO := Lib.hid hb
  have hl := hg.len
  have HL := Lib.hid hl
  obtain ⟨⟨q1, q2⟩, m1, m2⟩ := cell_bd (cell := (cell : Int)) hb (by omega) (by omega)
  have r0 := hb.r0; have r1 := hb.r1; have c0 := hb.c0; have c1 := hb.c1; have s0 := hb.s0; have s1 := hb.s1
  have hbig := hg.big
  have HGS := Lib.hid hg
  have HK0 := Lib.hid (Blk.new w 26 (g.cells A n c))
  have HT0 := Lib.hid ((Below.refl w.heap.size w).alloc (Nat.le_refl _) (.cells (g.cells A n c) 26))
  have HS0 : Hid ((w.alloc (.cells (g.cells A n c) 26)).heap.size = w.heap.size + 1) := Lib.hid (by simp)
  clear hg hok hb hl
  simp only [Gr.val, Gr.cells] at *
  have HQ := Lib.hid (show (cell : Int) / g.cols = (cell : Int) / g.cols from rfl)
  have HROW := Lib.hid fun a => show rowT g cell a = (cell : Int) / g.cols + dR a from rfl
  have HCOL := Lib.hid fun a => show colT g cell a = (cell : Int) % g.cols + dC a from rfl
  have d1 : Int.tdiv (cell : Int) g.cols = (cell : Int) / g.cols := Int.tdiv_eq_ediv_of_nonneg (by omega)
  have d2 : Int.tmod (cell : Int) g.cols = (cell : Int) % g.cols := Int.tmod_eq_emod_of_nonneg (by omega)
  have HD1 := Lib.hid d1
  have HD2 := Lib.hid d2
  clear d1 d2 HQ
  generalize (cell : Int) / g.cols = q at *
  generalize (cell : Int) % g.cols = m at *
  go_enter Try.func67, Try.ntmps67
  go_wp2
  go_loopw [5, 21] (fun v i wr => ∃ k n' : Nat, k ≤ 8 ∧ n' ≤ k ∧ i = .int .i64 k ∧ Hid (wr.ownsRow (w.heap.size + 1) 85 3 v n' (stps (nextTo g cell k))) ∧ Hid (Blk wr w.heap.size 26 #[.int .i64 g.rows, .int .i64 g.cols, .int .i64 g.size, .slice A n c]) ∧ Hid (Below w.heap.size w wr) ∧ w.heap.size + 1 ≤ wr.heap.size) (fun _ i _ => 8 - (intOf i).toNat)
  case atStart => exact ⟨0, 0, by omega, by omega, rfl, Lib.hid (World.ownsRow_nil _ _ _ _), HK0, HT0, by simp⟩
  case round =>
    clear HK0 HT0 HS0
    obtain ⟨k, n', hk, hn', rfl, HO, HK, HT, hsz⟩ := hrel
    by_cases hlt : k < 8
    · have hlt' : (k : Int) < 8 := by omega
      have hdr := dR_bd k
      have hdc := dC_bd k
      have hi := dirIdx k hlt
      obtain ⟨W1, hW1⟩ : ∃ W1, W1 = wr.alloc (.cells #[.int .i64 (dR k), .int .i64 (dC k)] 102) := ⟨_, rfl⟩
      have K1 : Blk W1 wr.heap.size 102 #[.int .i64 (dR k), .int .i64 (dC k)] := by rw [hW1]; exact Blk.new _ _ _
      have B1 : Below wr.heap.size wr W1 := by rw [hW1]; exact (Below.refl _ _).alloc (Nat.le_refl _) _
      have hsz1 : W1.heap.size = wr.heap.size + 1 := by rw [hW1]; simp
      have HW1 := Lib.hid hW1; clear hW1
      have HKB := Lib.hid (HK.out.below B1 (by omega))
      have HB1 := Lib.hid B1
      have HGW := Lib.hid (HGS.out.below (HT.out.trans (B1.mono HT.out.size)))
      go_upto_region 5 with (fail)
      rw [← HW1.out]
      clear hi
      have x1 : W1.cell? ⟨w.heap.size, 1, none⟩ = some (.int .i64 g.cols) := HKB.out.cell 1
      have x0 : W1.cell? ⟨w.heap.size, 0, none⟩ = some (.int .i64 g.rows) := HKB.out.cell 0
      have z0 : W1.cell? ⟨wr.heap.size, 0, none⟩ = some (.int .i64 (dR k)) := K1.cell 0
      have z1 : W1.cell? ⟨wr.heap.size, 1, none⟩ = some (.int .i64 (dC k)) := K1.cell 1
      clear K1 B1
      have d1 := HD1.out
      have d2 := HD2.out
      have e1 : IntKind.i64.wrap (q + dR k) = q + dR k := IntWalk.i64_in _ (by omega)
      have e2 : IntKind.i64.wrap (m + dC k) = m + dC k := IntWalk.i64_in _ (by omega)
      have e3 : IntKind.i64.wrap q = q := IntWalk.i64_in _ (by omega)
      have e4 : IntKind.i64.wrap m = m := IntWalk.i64_in _ (by omega)
      have hz0 : (g.cols == 0) = false := by simp; omega
      have hz1 : g.cols ≠ 0 := by omega
      go_quiet (fail)
      clear d1 d2 e1 e2 e3 e4 hz0 hz1 z0 z1 x0 x1
      generalize hWq : World.drewN W1 _ = Wq
      have BQ : Below wr.heap.size wr Wq := by rw [← hWq]; exact below_drewN HB1.out _
      have hszq : Wq.heap.size = wr.heap.size + 1 := by rw [← hWq]; exact hsz1
      clear hWq HKB HB1 HGW HW1 hsz1
      have HKB := Lib.hid (HK.out.below BQ (by omega))
      have HBQ := Lib.hid BQ
      have HTQ := Lib.hid (HT.out.trans (BQ.mono HT.out.size))
      clear BQ
      have x1 : Wq.cell? ⟨w.heap.size, 1, none⟩ = some (.int .i64 g.cols) := HKB.out.cell 1
      have x0 : Wq.cell? ⟨w.heap.size, 0, none⟩ = some (.int .i64 g.rows) := HKB.out.cell 0
      have HGB := Lib.hid (show goB g cell k = (inB (q + dR k) 0 (g.rows - 1) && inB (m + dC k) 0 (g.cols - 1)) from by rw [goB, HROW.out, HCOL.out])
      cases h1 : inB (q + dR k) 0 (g.rows - 1)
      · have HN : Hid (nextTo g cell (k + 1) = nextTo g cell k) := Lib.hid (nextTo_f (by rw [HGB.out, h1]; rfl))
        go_wp2_with (go_at_call 65; refine (within_c _ _ _ _).mono ?_; rintro e w' ⟨rfl, rfl⟩)
        go_roundw
        case rel => exact ⟨k + 1, n', by omega, by omega, by go_num, Lib.hid (by rw [HN.out]; exact owns_bel HO.out HBQ.out (Nat.le_refl _)), HKB, HTQ, by omega⟩
        case measure => simp [intOf]; omega
      · cases h2 : inB (m + dC k) 0 (g.cols - 1)
        · have HN : Hid (nextTo g cell (k + 1) = nextTo g cell k) := Lib.hid (nextTo_f (by rw [HGB.out, h1, h2]; rfl))
          go_wp2_with (go_at_call 65; refine (within_c _ _ _ _).mono ?_; rintro e w' ⟨rfl, rfl⟩)
          go_roundw
          case rel => exact ⟨k + 1, n', by omega, by omega, by go_num, Lib.hid (by rw [HN.out]; exact owns_bel HO.out HBQ.out (Nat.le_refl _)), HKB, HTQ, by omega⟩
          case measure => simp [intOf]; omega
        · have hgb : goB g cell k = true := by rw [HGB.out, h1, h2]; rfl
          have HN := Lib.hid (nextTo_t hgb)
          obtain ⟨hbr, hbc, hbp, hg0, hg1⟩ := goB_bd HGO.out hgb
          have hgv : goV g cell k = (q + dR k) * g.cols + (m + dC k) := by rw [goV, if_pos hgb, HROW.out, HCOL.out]
          rw [HROW.out] at hbr hbp
          rw [HCOL.out] at hbc
          rw [HL.out] at hg1
          obtain ⟨to_, hto⟩ : ∃ t : Nat, goV g cell k = t := ⟨(goV g cell k).toNat, by omega⟩
          have HST := Lib.hid (show stpV g cell k = ⟨(to_ : Int), k, fallV g cell to_ k⟩ from by rw [stpV, hto])
          rw [hto] at hgv hg0 hg1
          have ht : to_ < n := by omega
          have hsum : (q + dR k) * g.cols + (m + dC k) = (to_ : Int) := hgv.symm
          clear hgb hto hgv
          go_upto_region 8 with (go_at_call 65; refine (within_c _ _ _ _).mono ?_; rintro e w' ⟨rfl, rfl⟩)
          obtain ⟨W2, hW2⟩ : ∃ W2, W2 = Wq.alloc (.cells #[.int .i64 to_, .int .i64 k, .int .i64 0] 85) := ⟨_, rfl⟩
          have K2 : Blk W2 Wq.heap.size 85 #[.int .i64 to_, .int .i64 k, .int .i64 0] := by rw [hW2]; exact Blk.new _ _ _
          have B2 : Below Wq.heap.size Wq W2 := by rw [hW2]; exact (Below.refl _ _).alloc (Nat.le_refl _) _
          have hsz2 : W2.heap.size = wr.heap.size + 1 + 1 := by rw [hW2]; simp [hszq]
          rw [← hW2]
          clear hW2 hsum x0 x1
          rw [hszq] at K2
          have HK2 := Lib.hid K2
          have HKB2 := Lib.hid (HKB.out.below B2 (by omega))
          have HB2 : Hid (Below wr.heap.size wr W2) := Lib.hid (HBQ.out.trans (B2.mono (by omega)))
          have HT2 := Lib.hid (HT.out.trans (HB2.out.mono HT.out.size))
          clear B2 HKB HBQ HTQ
          obtain ⟨ad, rfl, _, c1'⟩ := (HGS.out.below HT2.out).at_ hc
          obtain ⟨ad', e', _, c2'⟩ := (HGS.out.below HT2.out).at_ ht
          obtain rfl : ad = ad' := by injection e'
          have x3 : W2.cell? ⟨w.heap.size, 3, none⟩ = some (.slice (some ad) n c) := HKB2.out.cell 3
          have y0 : W2.cell? ⟨wr.heap.size + 1, 0, none⟩ = some (.int .i64 to_) := HK2.out.cell 0
          obtain ⟨hA1, hA2⟩ := hAt_bd HGO.out (cell : Int)
          obtain ⟨hA3, hA4⟩ := hAt_bd HGO.out (to_ : Int)
          have hc' : (cell : Int) < (n : Int) := by omega
          have ht' : (to_ : Int) < (n : Int) := by omega
          have e1 : IntKind.i64.wrap (hAt g cell - hAt g to_) = hAt g cell - hAt g to_ := IntWalk.i64_in _ (by omega)
          clear K2 e'
          go_quiet (fail)
          clear e1 c1' c2' x3 y0
          generalize hW3 : World.drewN W2 _ = W3
          have hsz3 : W3.heap.size = wr.heap.size + 1 + 1 := by rw [← hW3]; exact hsz2
          have HK3 : Hid (Blk W3 (wr.heap.size + 1) 85 #[.int .i64 to_, .int .i64 k, .int .i64 0]) := Lib.hid (by rw [← hW3]; exact HK2.out.drewN _)
          have HKB3 : Hid (Blk W3 w.heap.size 26 #[.int .i64 g.rows, .int .i64 g.cols, .int .i64 g.size, .slice (some ad) n c]) := Lib.hid (by rw [← hW3]; exact HKB2.out.drewN _)
          have HB3 : Hid (Below wr.heap.size wr W3) := Lib.hid (by rw [← hW3]; exact below_drewN HB2.out _)
          clear hW3 HK2 HKB2 HB2 HT2 hsz2
          have x2 : W3.cell? ⟨w.heap.size, 2, none⟩ = some (.int .i64 g.size) := HKB3.out.cell 2
          have HF := Lib.hid (show fallV g cell to_ k = if k % 2 = 1 then rnd (1000000 * (hAt g cell - hAt g to_)) (1414 * g.size) else rnd (1000 * (hAt g cell - hAt g to_)) g.size from rfl)
          generalize fallV g cell to_ k = fv at *
          generalize hAt g cell = hp at *
          generalize hAt g to_ = hq at *
          have hpar : (k % 2 = 1 ∧ ((k : Int) % 2 == 0) = false) ∨ (k % 2 = 0 ∧ ((k : Int) % 2 == 0) = true) := by
            rcases Nat.mod_two_eq_zero_or_one k with h | h
            · right; exact ⟨h, by simp; omega⟩
            · left; exact ⟨h, by simp; omega⟩
          rcases hpar with ⟨hk2, hb2⟩ | ⟨hk2, hb2⟩
          all_goals
            have HK2' := Lib.hid hk2
            clear hk2
            go_wp2_with fail
            refine (divRound_c _ _ _ (by omega) (by omega) (by omega) (by omega)).mono ?_
            rintro e w' ⟨rfl, q3, rfl⟩
            first
              | rw [show rnd (1000000 * (hp - hq)) (1414 * g.size) = fv from by rw [HF.out, if_pos HK2'.out]]
              | rw [show rnd (1000 * (hp - hq)) g.size = fv from by rw [HF.out, if_neg (by have := HK2'.out; omega)]]
            have HK4 := Lib.hid (HK3.out.drewN q3)
            have HKB4 := Lib.hid (HKB3.out.drewN q3)
            have HB4 := Lib.hid (below_drewN HB3.out q3)
            have hsz4 : (W3.drewN q3).heap.size = wr.heap.size + 1 + 1 := hsz3
            obtain ⟨W4, hW4⟩ : ∃ W4, W4 = W3.drewN q3 := ⟨_, rfl⟩
            rw [← hW4] at HK4 HKB4 HB4 hsz4 ⊢
            clear hW4 HK3 HKB3 HB3 hsz3 x2
            have y0 : W4.cell? ⟨wr.heap.size + 1, 0, none⟩ = some (.int .i64 to_) := HK4.out.cell 0
            have y1 : W4.cell? ⟨wr.heap.size + 1, 1, none⟩ = some (.int .i64 k) := HK4.out.cell 1
            have y2 : W4.cell? ⟨wr.heap.size + 1, 2, none⟩ = some (.int .i64 0) := HK4.out.cell 2
            have f2 := HK4.out.frozen 2
            have HBS := Lib.hid (HB4.out.setCell (p := ⟨wr.heap.size + 1, 2, none⟩) (by show wr.heap.size ≤ wr.heap.size + 1; omega) (.int .i64 fv))
            have HBA := Lib.hid (HBS.out.alloc HBS.out.size (.cells #[.int .i64 to_, .int .i64 k, .int .i64 fv] 85))
            have hszs : (W4.setCell ⟨wr.heap.size + 1, 2, none⟩ (.int .i64 fv)).heap.size = wr.heap.size + 1 + 1 := by simp [hsz4]
            have HKN : Hid (Blk ((W4.setCell ⟨wr.heap.size + 1, 2, none⟩ (.int .i64 fv)).alloc (.cells #[.int .i64 to_, .int .i64 k, .int .i64 fv] 85)) (wr.heap.size + 1 + 1) 85 #[.int .i64 to_, .int .i64 k, .int .i64 fv]) := Lib.hid (by
              have h := Blk.new (W4.setCell ⟨wr.heap.size + 1, 2, none⟩ (.int .i64 fv)) 85 #[.int .i64 to_, .int .i64 k, .int .i64 fv]
              rw [hszs] at h
              exact h)
            have HKBA := Lib.hid (((HKB4.out.far (p := ⟨wr.heap.size + 1, 2, none⟩) (by show w.heap.size ≠ wr.heap.size + 1; omega) (.int .i64 fv))).alloc (.cells #[.int .i64 to_, .int .i64 k, .int .i64 fv] 85))
            have hsza : ((W4.setCell ⟨wr.heap.size + 1, 2, none⟩ (.int .i64 fv)).alloc (.cells #[.int .i64 to_, .int .i64 k, .int .i64 fv] 85)).heap.size = wr.heap.size + 1 + 1 + 1 := by simp [hsz4]
            have HSZA := Lib.hid hsza
            clear hszs hsza
            go_wp2_with (at_builtin; refine app_stp rfl (.tmp 89) (.tmp 91) rfl (w.heap.size + 1) _ n' (nextTo g cell k) ⟨to_, k, fv⟩ (wr.heap.size + 1 + 1) rfl (owns_bel HO.out HBA.out (Nat.le_refl _)) rfl HKN.out (by omega) (by rw [HSZA.out]; omega) ?_)
            intro v5 w5 o5 b5 hs5
            have HO5 : Hid (w5.ownsRow (w.heap.size + 1) 85 3 v5 (n' + 1) (stps (nextTo g cell (k + 1)))) := Lib.hid (by rw [HN.out, HST.out]; exact o5)
            have HB5 := Lib.hid b5
            clear o5 b5 y0 y1 y2 f2
            go_wp2
            go_roundw
            case rel => exact ⟨k + 1, n' + 1, by omega, by omega, by go_num, HO5, Lib.hid (HKBA.out.below HB5.out (by omega)), Lib.hid ((HT.out.trans (HBA.out.mono HT.out.size)).trans (HB5.out.mono (by omega))), by omega⟩
            case measure => simp [intOf]; omega
    · obtain rfl : k = 8 := by omega
      obtain ⟨A', c', rfl, _, _⟩ := (Own.of_owns HO.out (Nat.le_refl _)).slice
      go_wp2
      go_ret
      exact ⟨A', n', c', rfl, (Own.of_owns HO.out (Nat.le_refl _)).widen (by omega) (Nat.le_refl _), by omega, HT.out⟩
end Go.Proofs.Ytaoomildopmclaa
