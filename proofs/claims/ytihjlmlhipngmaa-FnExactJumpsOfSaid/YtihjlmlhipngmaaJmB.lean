/- JumpsOf by both. -/
import Derived.Test.YtihjlmlhipngmaaJmA
import Derived.Deep.DrawnRows
namespace Go.Proofs.Ytihjlmlhipngmaa
open Go.ChangeShapes Go.WideShapes Go.ChangeAt Go.RowKit
set_option linter.unusedVariables false
def PairsCode (v : List (List ByteArray) × Int) (w : World) (e : Ending) (w' : World) : Prop :=
  ∃ A n c l, e = .returned (.tuple #[.slice A n c, .int .i64 v.2]) ∧ OwnG 47 9 w' w.heap.size w'.heap.size (.slice A n c) n l ∧ l.map GRow.xs = v.1.map strs ∧ n ≤ 1048576 ∧ (∀ x ∈ l, x.n ≤ 1048576) ∧ Below w.heap.size w w'
theorem PairsCode.err {v : List (List ByteArray) × Int} {k : Int} {w w' : World} (hv : v = ([], k)) (hb : Below w.heap.size w w') : PairsCode v w (.returned (.tuple #[.slice none 0 0, .int .i64 k])) w' := by
  subst hv; exact ⟨none, 0, 0, [], rfl, OwnG.nil, rfl, by omega, fun x hx => by simp at hx, hb⟩
theorem PairsSt.done {w0 wr : World} {v : Value} {cn : Nat} {ps : List (List ByteArray)} {l : List GRow} {V : List (List ByteArray) × Int} (h : PairsSt w0 wr v cn ps l) (hV : V = (ps, 0)) (hn : cn ≤ 1048576) : PairsCode V w0 (.returned (.tuple #[v, .int .i64 0])) wr := by
  obtain ⟨A, c, rfl, _, _⟩ := h.g.row.slice
  subst hV
  exact ⟨A, cn, c, l, rfl, h.g, h.dat, hn, fun x hx => by rw [h.two x hx]; omega, h.bel⟩
theorem PairsSt.nil (w : World) : PairsSt w w (.slice none 0 0) 0 [] [] := ⟨OwnG.nil, rfl, fun x hx => by simp at hx, Below.refl _ _⟩
theorem PairsSt.more {w0 w1 wr : World} {v : Value} {cn : Nat} {ps : List (List ByteArray)} {l : List GRow} (hb : Below w0.heap.size w0 w1) (h : PairsSt w1 wr v cn ps l) : PairsSt w0 wr v cn ps l :=
  ⟨h.g.widen hb.size (Nat.le_refl _), h.dat, h.two, hb.trans (h.bel.mono hb.size)⟩
/-- append of one row to a row of rows of texts -/
theorem app_srow {ops : Array Oper} {rest : List Oper} {o : Oper} {a : Act} {Q : Exit → Act → World → Prop} {w : World} (hgd : o.guard = none) (s x : Operand)
    (ho : o.op = .call { callee := .builtin .append, args := #[s, x], argTypes := #[24, 24] })
    (lo : Nat) (v : Value) (n : Nat) (xs : List Value) (D : Option Addr) (m d : Nat) (g : Nat) (hs : a.eval s = v) (hown : w.ownsRow lo 47 1 v n xs)
    (hx : a.eval x = .slice (some ⟨g, 0, none⟩) 1 1) (hc : w.cell? ⟨g, 0, none⟩ = some (.slice D m d)) (hn : n ≤ 100000000000) (hlo : lo ≤ w.heap.size)
    (h : ∀ v' w', w'.ownsRow lo 47 1 v' (n + 1) (xs ++ [.slice D m d]) → w.grownBy w' v.ownBlock → wpList Try.prog ops Q rest (a.put o.dst v') w') : wpList Try.prog ops Q (o :: rest) a w := by
  have hinfo : (Try.prog.info? 47).map (fun i => (i.zero, i.size, i.bytes)) = some (some (.slice none 0 0), 1, 24) := by kernel_rfl
  obtain ⟨i, hi, hz, hs', hb⟩ := info_parts hinfo
  have hg : g < w.heap.size := World.block_lt_of_cell? w ⟨g, 0, none⟩ hc
  refine wpList_append_any w hgd s x _ ho lo _ i _ 1 24 Try.underlying24 hi hz hs' hb rfl (by omega) v n xs hs hown w.heap.size (some ⟨g, 0, none⟩) 1 1 [.slice D m d] hx
    ⟨rfl, fun _ => ⟨_, rfl, hg, fun j u hu => ?_⟩⟩ (by simp [Value.oneCell']) (by simp only [maxLen]; omega) (by omega) hlo ?_
  · match j with
    | 0 => simp at hu; subst hu; exact hc
    | j + 1 => simp at hu
  · intro v' w' h2 h3 _
    exact h v' w' h2 h3
theorem step_srow {ops : Array Oper} {o : Oper} {a : Act} {K : Act → World → Prop} {Q : Exit → Act → World → Prop} {E : Prop} {w : World} (hgd : o.guard = none) (s x : Operand)
    (ho : o.op = .call { callee := .builtin .append, args := #[s, x], argTypes := #[24, 24] })
    (lo : Nat) (v : Value) (n : Nat) (xs : List Value) (D : Option Addr) (m d : Nat) (g : Nat) (hs : a.eval s = v) (hown : w.ownsRow lo 47 1 v n xs)
    (hx : a.eval x = .slice (some ⟨g, 0, none⟩) 1 1) (hc : w.cell? ⟨g, 0, none⟩ = some (.slice D m d)) (hn : n ≤ 100000000000) (hlo : lo ≤ w.heap.size)
    (h : ∀ v' w', w'.ownsRow lo 47 1 v' (n + 1) (xs ++ [.slice D m d]) → w.grownBy w' v.ownBlock → K (a.put o.dst v') w') :
    if Region.wanted o (yielded ops a.tmps) = true then Oper.wp Try.prog o a w K Q else E := by
  have hinfo : (Try.prog.info? 47).map (fun i => (i.zero, i.size, i.bytes)) = some (some (.slice none 0 0), 1, 24) := by kernel_rfl
  obtain ⟨i, hi, hz, hs', hb⟩ := info_parts hinfo
  have hg : g < w.heap.size := World.block_lt_of_cell? w ⟨g, 0, none⟩ hc
  refine step_append_any w hgd s x _ ho lo _ i _ 1 24 Try.underlying24 hi hz hs' hb rfl (by omega) v n xs hs hown w.heap.size (some ⟨g, 0, none⟩) 1 1 [.slice D m d] hx
    ⟨rfl, fun _ => ⟨_, rfl, hg, fun j u hu => ?_⟩⟩ (by simp [Value.oneCell']) (by simp only [maxLen]; omega) (by omega) hlo ?_
  · match j with
    | 0 => simp at hu; subst hu; exact hc
    | j + 1 => simp at hu
  · intro v' w' h2 h3 _
    exact h v' w' h2 h3
set_option maxHeartbeats 8000000 in
set_option maxRecDepth 100000 in
theorem iJumpsOf_d (A : Option Addr) (n c BA : Nat) (rs : List Rg) (least : Int) (w : World) (ha : Regs w BA A n rs) (hB : BA ≤ w.heap.size) (hx : ∀ x ∈ rs, x.n ≤ 1048576) (hn : n ≤ 1048576) :
    Calls Try.prog 8 #[.slice A n c, .int .i64 least] w (PairsCode (jumpsV (rs.map Rg.dat) least) w) := by
  have HC := Lib.hid (iValidRegions_d A n c BA rs w ha hB hx hn)
  have HVD := Lib.hid (show jumpsV (rs.map Rg.dat) least = if validD (rs.map Rg.dat) = false then ([], 1) else if inB least 0 4 = false then ([], 2) else (jTo (rs.map Rg.dat) least (rs.map Rg.dat).length, 0) from rfl)
  have HL := Lib.hid ha.len
  have HX := Lib.hid hx
  have HA := Lib.hid ha
  clear ha hx
  generalize jumpsV (rs.map Rg.dat) least = V at *
  go_enter Try.func8, Try.ntmps8
  go_wp2_with fail
  refine HC.out.mono ?_
  rintro e w1 ⟨rfl, B1⟩
  have T1 := Lib.hid B1; clear B1
  cases hv : validD (rs.map Rg.dat)
  · have HV : Hid (V = ([], 1)) := Lib.hid (by rw [HVD.out, if_pos hv])
    clear hv
    go_wp2
    go_ret2
    exact PairsCode.err HV.out T1.out
  · have HV1 := Lib.hid (show V = if inB least 0 4 = false then ([], 2) else (jTo (rs.map Rg.dat) least (rs.map Rg.dat).length, 0) by rw [HVD.out, hv]; rfl)
    have HVR : Hid (validR rs = true) := Lib.hid (by rw [validR_dat]; exact hv)
    have hn8 : n ≤ 8 := by have := validD_len hv; rw [HL.out] at this; exact this
    clear hv HC HVD
    go_wp2_with fail
    refine (within_c least 0 4 w1).mono ?_
    rintro e w2 ⟨rfl, rfl⟩
    cases hl : inB least 0 4
    · have HV : Hid (V = ([], 2)) := Lib.hid (by rw [HV1.out, if_pos hl])
      clear hl
      go_wp2
      go_ret2
      exact PairsCode.err HV.out T1.out
    · have HV : Hid (V = (jTo (rs.map Rg.dat) least n, 0)) := Lib.hid (by rw [HV1.out, hl, List.length_map, HL.out]; rfl)
      have HD : Hid ((rs.map Rg.dat).length = n) := Lib.hid (by rw [List.length_map, HL.out])
      obtain ⟨ds, hds⟩ : ∃ ds, ds = rs.map Rg.dat := ⟨_, rfl⟩
      have HDS := Lib.hid hds
      rw [← hds] at HV HD
      have HP0 := Lib.hid ((PairsSt.nil w1).more T1.out)
      clear hl HV1 hds T1
      go_wp2
      go_loopw [6, 21] (fun o i wr => ∃ (k cn : Nat) (l : List GRow), k ≤ n ∧ cn ≤ k * 8 ∧ i = .int .i64 k ∧ Hid (PairsSt w wr o cn (jTo ds least k) l)) (fun _ i _ => n - (intOf i).toNat)
      case atStart => exact ⟨0, 0, [], Nat.zero_le _, by omega, rfl, HP0⟩
      case round =>
        clear HP0
        obtain ⟨k, cn, l, hk, hcn, rfl, HP⟩ := hrel
        generalize wr = wo at *
        have hwz := HP.out.bel.size
        by_cases hlt : k < n
        · obtain ⟨ad, x, rfl, hbl, hs, hnx, c0, c1, c2⟩ := (HA.out.below (HP.out.bel.mono hB)).at_ hlt
          have HXS := Lib.hid hs
          have hxn := HX.out x (List.mem_of_getElem? hs)
          have HFN := Lib.hid (fnd_nbs HVR.out hs)
          have hrl : x.near.length = x.n := Reads.strLen hnx
          have HRL := Lib.hid hrl
          have HNB : Hid ((nbs ds k ds.length).length = x.n) := Lib.hid (by rw [HDS.out, List.length_map, ← HFN.out]; simp [fnd, hrl])
          have hxn8 : x.n ≤ 8 := by have h1 := nbs_len ds k ds.length; rw [HNB.out, HD.out] at h1; omega
          have HLX := Lib.hid (valid_lv HVR.out hs)
          obtain ⟨hlx1, hlx2⟩ := HLX.out
          have HJS := Lib.hid (jTo_succ ds least k)
          obtain ⟨W1, hW1⟩ : ∃ W, W = wo.alloc (.cells #[.string x.id, .int .i64 x.lv, .slice x.A x.n x.c] 54) := ⟨_, rfl⟩
          have HWE := Lib.hid hW1
          have HP1 : Hid (PairsSt w W1 u6 cn (jTo ds least k ++ jIn ds least k ((nbs ds k ds.length).take 0)) l) := Lib.hid (by
            rw [hW1]; simpa [jIn] using HP.out.below ((Below.refl _ _).alloc (Nat.le_refl _) _))
          have HK1 : Hid (Blk W1 wo.heap.size 54 #[.string x.id, .int .i64 x.lv, .slice x.A x.n x.c]) := Lib.hid (by rw [hW1]; exact Blk.new _ _ _)
          obtain ⟨xA, hxA⟩ : ∃ a, a = x.A := ⟨_, rfl⟩
          have HXA := Lib.hid hxA
          have b2 : W1.cell? ⟨wo.heap.size, 2, none⟩ = some (.slice xA x.n x.c) := by rw [hxA]; exact HK1.out.cell 2
          have hkn : (k : Int) < (n : Int) := by omega
          clear hs hnx hrl hW1 hxA
          go_upto_region 9 with (fail)
          rw [← HWE.out]
          clear c0 c1 c2 HWE
          generalize wo.heap.size = bx at *
          go_wp2
          clear b2
          go_loopw [6, 28] (fun o jj wr => ∃ (j cn' : Nat) (l' : List GRow), j ≤ x.n ∧ cn' ≤ cn + j ∧ jj = .int .i64 j ∧ Hid (PairsSt w wr o cn' (jTo ds least k ++ jIn ds least k ((nbs ds k ds.length).take j)) l') ∧ Hid (Blk wr bx 54 #[.string x.id, .int .i64 x.lv, .slice x.A x.n x.c])) (fun _ jj _ => x.n - (intOf jj).toNat)
          case atStart => exact ⟨0, cn, l, Nat.zero_le _, Nat.le_refl _, rfl, HP1, HK1⟩
          case round =>
            clear HP1 HK1 HP
            obtain ⟨j, cn', l', hj, hcn', rfl, HP, HK⟩ := hrel
            generalize wr = wy at *
            have hyz := HP.out.bel.size
            by_cases hjl : j < x.n
            · have HRG := Lib.hid (HA.out.below (HP.out.bel.mono hB))
              obtain ⟨ad3, x', had3, -, hx', hnx, -⟩ := HRG.out.at_ hlt
              obtain rfl : x = x' := by have h := HXS.out; rw [hx'] at h; injection h with h; exact h.symm
              obtain ⟨adn, nm, hadn, _, hnm, hcn2⟩ := Reads.str hnx hjl
              obtain rfl : xA = some adn := HXA.out.trans hadn
              obtain ⟨a, hfa, han, hna⟩ := near_found HVR.out HXS.out hnm
              rw [HL.out] at han
              have HNA : Hid ((nbs ds k ds.length)[j]? = some a) := Lib.hid (by
                rw [HDS.out, List.length_map, ← HFN.out, fnd, List.getElem?_map, hnm]
                simp [hfa])
              have HTK := Lib.hid (jIn_take least HNA.out)
              have hys : rs[a]? = some (rs[a]'(by rw [HL.out]; exact han)) := List.getElem?_eq_getElem _
              generalize rs[a]'(by rw [HL.out]; exact han) = y at hys
              have HYS := Lib.hid hys
              obtain ⟨hly1, hly2⟩ := valid_lv HVR.out hys
              have HGT : Hid ((!Op.bytesLess nm.toList x.id.toList && !nm.toList == x.id.toList) = decide (k < a)) := Lib.hid (by
                have h1 := name_gt HVR.out HXS.out (by rw [HL.out]; exact han) hna
                have h2 := bl_tri nm.toList x.id.toList
                rw [← h1, ltS, ← Bool.not_or, h2, Bool.not_not])
              have HID : Hid (nm = y.id) := Lib.hid (ba_ext (by rw [← hna, idAt_get hys]))
              have HOK : Hid (jOk ds least k a = (decide (k < a) && decide (least ≤ absI (x.lv - y.lv)))) := Lib.hid (by unfold jOk; rw [HDS.out, dLv_get HXS.out, dLv_get hys])
              have HPR : Hid ([dId ds k, dId ds a] = [x.id, nm]) := Lib.hid (by rw [HDS.out, dId_get HXS.out, dId_get hys, HID.out])
              have HCF := Lib.hid fun W (hW : Below wy.heap.size wy W) => regionAt_c (some ad) n c BA rs nm W (HRG.out.below (hW.mono (by omega))) (by have := hW.size; omega) (by omega)
              rw [hfa] at HCF
              have hjr : (j : Int) < (x.n : Int) := by omega
              have hj0 : (0 : Int) ≤ (j : Int) := by omega
              have han' : (a : Int) < (n : Int) := by omega
              have ha0 : (0 : Int) ≤ (a : Int) := by omega
              have b0 : wy.cell? ⟨bx, 0, none⟩ = some (.string x.id) := HK.out.cell 0
              clear had3 hx' hnx hadn hnm hfa hna hys
              by_cases hka : k < a
              · have hgt : (!Op.bytesLess nm.toList x.id.toList && !nm.toList == x.id.toList) = true := by rw [HGT.out]; simpa using hka
                have b1 : wy.cell? ⟨bx, 1, none⟩ = some (.int .i64 x.lv) := HK.out.cell 1
                obtain ⟨ad4, y', had4, hbl4, hy', -, e0, e1, e2⟩ := HRG.out.at_ han
                obtain rfl : ad = ad4 := by injection had4
                obtain rfl : y = y' := by have h := HYS.out; rw [hy'] at h; injection h with h; exact h.symm
                have hbxz := HK.out.lt
                have HS : Hid (∀ W', Below wy.heap.size wy W' → (W'.cell? ⟨bx, 0, none⟩ = some (.string x.id) ∧ W'.cell? ⟨bx, 1, none⟩ = some (.int .i64 x.lv) ∧ W'.cell? ⟨(ad.add (a * 3)).block, (ad.add (a * 3)).off + 1, none⟩ = some (.int .i64 y.lv))) := Lib.hid fun W' hW =>
                  ⟨(hW.cell (p := ⟨bx, 0, none⟩) hbxz).trans b0, (hW.cell (p := ⟨bx, 1, none⟩) hbxz).trans b1, (hW.cell (p := ⟨(ad.add (a * 3)).block, (ad.add (a * 3)).off + 1, none⟩) (by show (ad.add (a * 3)).block < _; rw [block_of_add]; omega)).trans e1⟩
                have w1 : IntKind.i64.wrap (x.lv - y.lv) = x.lv - y.lv := IntWalk.i64_in _ (by omega)
                have hBr := Below.refl wy.heap.size wy
                have HAB := Lib.hid fun W => abs_c (x.lv - y.lv) W (by omega) (by omega)
                clear had4 hy' e0 e2
                go_wp2
                clear hcn2
                go_region_held3 (fun w' => Below wy.heap.size wy w' ∧ (w'.cell? ⟨bx, 0, none⟩ = some (.string x.id) ∧ w'.cell? ⟨bx, 1, none⟩ = some (.int .i64 x.lv) ∧ w'.cell? ⟨(ad.add (a * 3)).block, (ad.add (a * 3)).off + 1, none⟩ = some (.int .i64 y.lv))) (first | exact keepB HS.out (by assumption) (by first | assumption | exact And.left (by assumption)) | exact keepD HS.out (by assumption) | (go_keep; done))
                  (first
                   | (go_at_call 30; refine (HCF.out _ (And.left (by assumption))).mono ?_; rintro e wv ⟨rfl, hb⟩)
                   | (go_at_call 29; refine (HAB.out _).mono ?_; rintro e wv2 ⟨rfl, rfl⟩))
                have hwv : Below wy.heap.size wy wv := And.left (by assumption)
                have HPv := Lib.hid (HP.out.below hwv)
                have HKv := Lib.hid (HK.out.below hwv hbxz)
                have v0 : wv.cell? ⟨bx, 0, none⟩ = some (.string x.id) := HKv.out.cell 0
                have hwvs := hwv.size
                clear HS b0 b1 e1 HCF HAB hBr hwv
                by_cases hle : least ≤ absI (x.lv - y.lv)
                · have HST : Hid (jIn ds least k ((nbs ds k ds.length).take (j + 1)) = jIn ds least k ((nbs ds k ds.length).take j) ++ [[x.id, nm]]) := Lib.hid (by rw [HTK.out, HOK.out, HPR.out, decide_eq_true hka, decide_eq_true hle]; rfl)
                  have HROW := Lib.hid (owns_al (owns_al HPv.out.g.row.1 (.cells #[.string x.id, .string nm] 9)) (.cells #[.slice (some ⟨wv.heap.size, 0, none⟩) 2 2] 47))
                  go_wp2_with (at_builtin; refine app_srow rfl (.tmp 51) (.tmp 56) rfl w.heap.size _ cn' (gcs l') (some ⟨wv.heap.size, 0, none⟩) 2 2 _ rfl HROW.out rfl ?_ (by omega) ?_ ?_)
                  rotate_left 2
                  · intro v2 w2 O5 G5
                    have HP2 := Lib.hid (HPv.out.push ((Below.refl _ _).alloc (Nat.le_refl _) _ |>.mono (by simp)) O5 G5)
                    have HK2 := Lib.hid (((HKv.out.alloc _).alloc _).grown G5 (fun e => own_blk_ne HROW.out ((HKv.out.alloc _).alloc _) (by decide) e.symm))
                    rw [List.append_assoc, ← HST.out] at HP2
                    clear O5 G5 HROW v0
                    go_wp2
                    go_roundw
                    case rel => exact ⟨j + 1, cn' + 1, _, by omega, by omega, by go_num, HP2, HK2⟩
                    case measure => simp [intOf]; omega
                  · simp
                  · simp; omega
                · have HST : Hid (jIn ds least k ((nbs ds k ds.length).take (j + 1)) = jIn ds least k ((nbs ds k ds.length).take j)) := Lib.hid (by rw [HTK.out, HOK.out, decide_eq_true hka, decide_eq_false hle]; simp)
                  go_wp2
                  go_roundw
                  case rel => exact ⟨j + 1, cn', l', by omega, by omega, by go_num, by rw [HST.out]; exact HPv, HKv⟩
                  case measure => simp [intOf]; omega
              · have hgt : (!Op.bytesLess nm.toList x.id.toList && !nm.toList == x.id.toList) = false := by rw [HGT.out]; simpa using hka
                have HST : Hid (jIn ds least k ((nbs ds k ds.length).take (j + 1)) = jIn ds least k ((nbs ds k ds.length).take j)) := Lib.hid (by rw [HTK.out, HOK.out, decide_eq_false hka]; simp)
                clear hka
                go_wp2
                refine wp_region_quiet_lit (by kernel_rfl) (by kernel_rfl) ?_
                repeat (first | go_big_quiet_step (fail) | quiet_step (fail))
                refine wpQuiet_nil ?_
                intro _ hw'
                obtain ⟨nq, hw''⟩ := hw'
                subst hw''
                go_wp2
                go_roundw
                case rel => exact ⟨j + 1, cn', l', by omega, by omega, by go_num, by rw [HST.out]; exact Lib.hid (HP.out.below (below_drewN (Below.refl _ _) _)), Lib.hid (HK.out.drewN _)⟩
                case measure => simp [intOf]; omega
            · have hfin : jTo ds least k ++ jIn ds least k ((nbs ds k ds.length).take j) = jTo ds least (k + 1) := by rw [HJS.out, List.take_of_length_le (by rw [HNB.out]; omega)]
              rw [hfin] at HP
              clear hfin
              go_wp2
              go_roundw
              case rel => exact ⟨k + 1, cn', l', by omega, by omega, by go_num, HP⟩
              case measure => simp [intOf]; omega
        · obtain rfl : k = n := by omega
          go_wp2
          go_ret2
          exact HP.out.done HV.out (by omega)
end Go.Proofs.Ytihjlmlhipngmaa
