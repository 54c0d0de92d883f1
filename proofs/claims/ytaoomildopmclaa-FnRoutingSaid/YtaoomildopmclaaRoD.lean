/- Masses that run: a step by the reference. -/
import Derived.Test.YtaoomildopmclaaRoC
import Derived.Test.YtaoomildopmclaaGrB
namespace Go.Proofs.Ytaoomildopmclaa
open Go.ChangeShapes Go.WideShapes Go.ChangeAt Go.RowKit
set_option linter.unusedVariables false
/-- two rows of integers of the call's own, the first two blocks of the call -/
structure RS2 (w0 wr : World) (n : Nat) (s : List Int × List Int) : Prop where
  mv : Own wr w0.heap.size (w0.heap.size + 1) 2 1 (.slice (some ⟨w0.heap.size, 0, none⟩) n n) n (ints s.1)
  st : Own wr (w0.heap.size + 1) (w0.heap.size + 1 + 1) 2 1 (.slice (some ⟨w0.heap.size + 1, 0, none⟩) n n) n (ints s.2)
  sz : w0.heap.size + 1 + 1 ≤ wr.heap.size
  bel : Below w0.heap.size w0 wr
section
variable {w0 wr : World} {n : Nat} {s : List Int × List Int}
theorem RS2.below {w1 : World} (h : RS2 w0 wr n s) (hb : Below wr.heap.size wr w1) : RS2 w0 w1 n s := by
  have := h.sz; have := hb.size; have := h.bel.size
  exact ⟨h.mv.below hb (by omega), h.st.below hb (by omega), by omega, h.bel.trans (hb.mono (by omega))⟩
theorem RS2.drewN (h : RS2 w0 wr n s) (q : Nat) : RS2 w0 (wr.drewN q) n s := h.below (below_drewN (Below.refl _ _) q)
theorem RS2.drew (h : RS2 w0 wr n s) : RS2 w0 wr.drew n s := h.below (Below.refl _ _).drew
theorem RS2.mvAt (h : RS2 w0 wr n s) {k : Nat} (hk : k < n) : wr.cell? ⟨w0.heap.size, k, none⟩ = some (.int .i64 (at0 s.1 k)) ∧ wr.frozen? ⟨w0.heap.size, k, none⟩ = false := by
  have hl : s.1.length = n := h.mv.reads.len
  refine ⟨?_, h.mv.1.frozenAt k⟩
  rw [h.mv.1.cellAt k (by omega)]
  simp [ints, at0_el (show k < s.1.length by omega)]
theorem RS2.stAt (h : RS2 w0 wr n s) {k : Nat} (hk : k < n) : wr.cell? ⟨w0.heap.size + 1, k, none⟩ = some (.int .i64 (at0 s.2 k)) ∧ wr.frozen? ⟨w0.heap.size + 1, k, none⟩ = false := by
  have hl : s.2.length = n := h.st.reads.len
  refine ⟨?_, h.st.1.frozenAt k⟩
  rw [h.st.1.cellAt k (by omega)]
  simp [ints, at0_el (show k < s.2.length by omega)]
theorem RS2.setMv (h : RS2 w0 wr n s) (k : Nat) (z : Int) : RS2 w0 (wr.setCell ⟨w0.heap.size, k, none⟩ (.int .i64 z)) n (s.1.set k z, s.2) := by
  have h1 := h.mv.stored (j := k) (.int .i64 z)
  refine ⟨by rw [ints_set]; exact h1.1, h.st.away (only_set wr _ _) (fun g hg => by simp [Value.ownBlock] at hg; show g < w0.heap.size ∨ w0.heap.size + 1 ≤ g; omega), by simpa using h.sz, h.bel.setCell (Nat.le_refl _) _⟩
theorem RS2.setSt (h : RS2 w0 wr n s) (k : Nat) (z : Int) : RS2 w0 (wr.setCell ⟨w0.heap.size + 1, k, none⟩ (.int .i64 z)) n (s.1, s.2.set k z) := by
  have h1 := h.st.stored (j := k) (.int .i64 z)
  refine ⟨h.mv.away (only_set wr _ _) (fun g hg => by simp [Value.ownBlock] at hg; show g < w0.heap.size + 1 ∨ w0.heap.size + 1 + 1 ≤ g; omega), by rw [ints_set]; exact h1.1, by simpa using h.sz, h.bel.setCell (show w0.heap.size ≤ w0.heap.size + 1 by omega) _⟩
theorem RS2.done {v : List Int × List Int} (h : RS2 w0 wr n s) (hv : v = s) : RoutePost v n w0 (.returned (.tuple #[.slice (some ⟨w0.heap.size, 0, none⟩) n n, .slice (some ⟨w0.heap.size + 1, 0, none⟩) n n])) wr := by
  subst hv
  have := h.sz
  exact ⟨_, n, _, n, _, _, _, _, rfl, h.mv, h.st, by omega, by omega, by omega, by omega, by omega, h.bel⟩
theorem Own.intAt {w : World} {lo hi k m cp : Nat} {P : Option Addr} {l : List Int} (h : Own w lo hi 2 1 (.slice P m cp) m (ints l)) (hk : k < m) : ∃ ad z, P = some ad ∧ l[k]? = some z ∧ w.cell? (ad.add k) = some (.int .i64 z) := by
  obtain ⟨ad, z, h1, _, h3, h4⟩ := h.reads.int hk
  exact ⟨ad, z, h1, h3, h4⟩
end
theorem ways_mem {g : Gr} {c : Nat} {fr : Int} {x : Stp} (h : x ∈ waysL g c fr) : ∃ a : Nat, a < 8 ∧ x.dir = a ∧ x.cell = goV g c a := by
  obtain ⟨a, h1, _, h3⟩ := nextTo_mem (List.mem_filter.1 h).1
  exact ⟨a, h1, by rw [h3]; rfl, by rw [h3]; rfl⟩
theorem l13SumW_c (D : Option Addr) (m d BD : Nat) (ms : List Int) (w : World) (hd : Reads w BD 1 D m (ints ms)) (hm : m ≤ 64) (hall : ∀ x ∈ ms, 0 ≤ x ∧ x ≤ 5000000001) :
    Calls Try.prog 61 #[.slice D m d] w fun e w' => e = .returned (.int .i64 (sumZ ms)) ∧ w = w' := by
  have HL := Lib.hid hd.len
  have HD := Lib.hid hd; clear hd
  have HB : Hid (∀ k, 0 ≤ sumZ (ms.take k) ∧ sumZ (ms.take k) ≤ 5000000001 * m) := Lib.hid fun k => by
    have h1 := sumZ_bd 5000000001 (by omega) (ms.take k) (fun x hx => hall x (List.mem_of_mem_take hx))
    have h2 : (ms.take k).length ≤ m := by rw [List.length_take, HL.out]; omega
    omega
  have HALL := Lib.hid hall; clear hall
  go_enter Try.func61, Try.ntmps61
  go_wp2
  go_loop [3, 4] (fun t i => ∃ k : Nat, k ≤ m ∧ i = .int .i64 k ∧ t = .int .i64 (sumZ (ms.take k))) (fun _ i => m - (intOf i).toNat)
  case atStart => exact ⟨0, Nat.zero_le _, rfl, rfl⟩
  case round =>
    obtain ⟨k, hk, rfl, rfl⟩ := hrel
    by_cases hlt : k < m
    · obtain ⟨ad, z, rfl, hbl, hz, hc⟩ := HD.out.int hlt
      have hb := HB.out k
      have hzb := HALL.out z (List.mem_of_getElem? hz)
      have HE := Lib.hid (sumZ_take hz)
      clear hz
      go_wp2
      go_round
      case rel => exact ⟨k + 1, by omega, by go_num, by rw [HE.out]⟩
      case measure => simp [intOf]; omega
    · obtain rfl : k = m := by omega
      have HE : Hid (ms.take k = ms) := Lib.hid (List.take_of_length_le (by have := HL.out; omega))
      go_wp2
      go_ret
      exact ⟨ret_int (by rw [HE.out]), rfl⟩
set_option maxHeartbeats 8000000 in
set_option maxRecDepth 100000 in
theorem l13Step_c (g : Gr) (b : Nat) (A : Option Addr) (n c B : Nat) (E : Option Addr) (ec BE : Nat) (ms : List Int) (fr : Int) (w : World) (hg : GP w b B g A n c) (hok : g.ok = true) (he : Reads w BE 1 E n (ints ms)) (hE : BE ≤ w.heap.size) (hms : Nn ms) (hsum : ms.sum ≤ 64000000) (hf1 : 1 ≤ fr) :
    Calls Try.prog 75 #[.pointer (some ⟨b, 0, none⟩), .slice E n ec, .int .i64 fr] w (RoutePost (routeTo g fr ms n) n w) := by
  have hb := Gr.ok_bd hok
  have HGO := Lib.hid hb
  have HL := Lib.hid hg.gs.len
  have HLM := Lib.hid (show ms.length = n from he.len)
  have hn64 := hb.len64
  rw [HL.out] at hn64
  have HW := Lib.hid fun W (hW : Below w.heap.size w W) k (hk : k < n) => l13Ways_c g b A n c B k fr W (hg.below hW) hok hk
  have HG := Lib.hid fun W (hW : Below w.heap.size w W) k (hk : k < n) a (ha : a < 8) => l09Go_c g b A n c B k a W (hg.below hW) hok hk ha
  have HE := Lib.hid he
  have HMS := Lib.hid hms
  have HRI := Lib.hid fun k (hk : k ≤ n) => routeTo_inv (fr := fr) (ms := ms) hb (by rw [HL.out, HLM.out]) hf1 hms k (by rw [HLM.out]; exact hk)
  have HST := Lib.hid fun k => sum_take_le hms k
  have HRS := Lib.hid fun k => routeTo_succ g fr ms k
  obtain ⟨i0, hi, hz, hs, hbb⟩ := info_parts info_i64
  have hmk : ∀ W : World, (Instr.makeSlice 24 (.int .i64 (n : Int)) (.int .i64 (n : Int))).run Try.prog W = .ok (.slice (some ⟨W.heap.size, 0, none⟩) n n) (W.alloc (.cells (madeCells #[.int .i64 0] n) 2)) := fun W => by
    have h := run_make_rowN (P := Try.prog) 24 2 i0 _ Try.underlying24 hi hz .i64 .i64 n n (Nat.le_refl _) (by rw [hbb]; omega) (by omega) W
    rw [hs, Nat.mul_one] at h
    exact h
  have hmade : ∀ (W : World) (lo : Nat), lo ≤ W.heap.size → Own (W.alloc (.cells (madeCells #[.int .i64 0] n) 2)) lo (W.heap.size + 1) 2 1 (.slice (some ⟨W.heap.size, 0, none⟩) n n) n (ints (List.replicate n 0)) := fun W lo hlo => by
    have h := Own.of_blk (lo := lo) (hi := W.heap.size + 1) (n := n) (s := 1) (Blk.new W 2 (madeCells #[.int .i64 0] n)) (by simp [madeCells]) hlo (Nat.lt_succ_self _) (by simp [maxLen]; omega)
    have e : (madeCells #[.int .i64 0] n).toList = ints (List.replicate n 0) := by simp [madeCells, ints, Nat.mod_one, List.map_const']
    rw [e] at h; exact h
  have HR0 : Hid (RS2 w ((w.alloc (.cells (madeCells #[.int .i64 0] n) 2)).alloc (.cells (madeCells #[.int .i64 0] n) 2)) n (routeTo g fr ms 0)) := Lib.hid (by
    have hx2 : (w.alloc (.cells (madeCells #[.int .i64 0] n) 2)).heap.size = w.heap.size + 1 := by simp
    have o1 := (hmade w w.heap.size (Nat.le_refl _)).below ((Below.refl (w.alloc (.cells (madeCells #[.int .i64 0] n) 2)).heap.size _).alloc (Nat.le_refl _) (.cells (madeCells #[.int .i64 0] n) 2)) (by rw [hx2]; omega)
    have o2 := hmade (w.alloc (.cells (madeCells #[.int .i64 0] n) 2)) (w.heap.size + 1) (by omega)
    rw [hx2] at o2
    have e0 : routeTo g fr ms 0 = (List.replicate n 0, List.replicate n 0) := by simp [routeTo, HLM.out]
    rw [e0]
    exact ⟨o1, o2, by simp, ((Below.refl _ _).alloc (Nat.le_refl _) _).alloc (by omega) _⟩)
  have hbig := hg.gs.big
  clear hg hok he hms hb hi hz hs hbb i0 hmade
  go_enter Try.func75, Try.ntmps75
  go_wp2
  go_loopw [10] (fun i wr => ∃ k : Nat, k ≤ n ∧ i = .int .i64 k ∧ Hid (RS2 w wr n (routeTo g fr ms k))) (fun i _ => n - (intOf i).toNat)
  case atStart => exact ⟨0, Nat.zero_le _, rfl, HR0⟩
  case round =>
    clear HR0
    obtain ⟨k, hk, rfl, HR⟩ := hrel
    generalize wr = wo at *
    by_cases hlt : k < n
    · have hsz := HR.out.sz
      have hwz := HR.out.bel.size
      obtain ⟨adm, m, rfl, hbm, hm, cm⟩ := (HE.out.below (HR.out.bel.mono hE)).int hlt
      have hmv : at0 ms k = m := at0_get hm
      have hm0 : 0 ≤ m := by have := HMS.out k; omega
      have hm1 : m ≤ 64000000 := by have := HMS.out.le k; omega
      have HI := Lib.hid (HRI.out k hk)
      have hmt : (ms.take k).sum + m ≤ 64000000 := by have h1 := HST.out (k + 1); rw [sum_take_succ, hmv] at h1; omega
      have HSC : Hid (routeTo g fr ms (k + 1) = stepC g fr m k (routeTo g fr ms k)) := Lib.hid (by rw [HRS.out, hmv])
      have hkn : (k : Int) < (n : Int) := by omega
      have hk0 : (0 : Int) ≤ (k : Int) := by omega
      have HWO := Lib.hid (ways_ok (c := k) HGO.out hf1)
      rw [HL.out] at HWO
      have HMC := Lib.hid hm
      have HRw := Lib.hid HR.out.bel
      clear hm hmv
      by_cases hmz : m = 0
      · subst hmz
        have HSN : Hid (routeTo g fr ms (k + 1) = routeTo g fr ms k) := Lib.hid (by rw [HSC.out, stepC_zero])
        go_wp2
        go_roundw
        case rel => exact ⟨k + 1, by omega, by go_num, by rw [HSN.out]; exact HR⟩
        case measure => simp [intOf]; omega
      · have hmzb : (m == 0) = false := by simpa using hmz
        have HNX := Lib.hid (HW.out wo HR.out.bel k hlt)
        go_wp2_with fail
        refine HNX.out.mono ?_
        rintro e wz ⟨P, p, Q, q, rfl, HT⟩
        have HTW := Lib.hid HT
        obtain ⟨ws, hwe⟩ : ∃ ws, ws = waysL g k fr := ⟨_, rfl⟩
        rw [← hwe] at HTW ⊢
        have HWE := Lib.hid hwe
        have HRz := Lib.hid (HR.out.below HT.bel)
        have hzz := HT.bel.size
        clear hwe HT HNX HR
        have hl1 := HI.out.l1
        have hl2 := HI.out.l2
        have hs1 := HI.out.sum
        have hn1 := HI.out.n1.sum
        have hn2' := HI.out.n2.sum
        rw [HLM.out] at hl1 hl2
        replace cm : wz.cell? (adm.add k) = some (.int .i64 m) := (HTW.out.bel.cell (p := adm.add k) (by rw [block_of_add]; omega)).trans cm
        by_cases hwc : ws = []
        · subst hwc
          have HSN : Hid (routeTo g fr ms (k + 1) = ((routeTo g fr ms k).1, (routeTo g fr ms k).2.set k (at0 (routeTo g fr ms k).2 k + m))) := Lib.hid (by rw [HSC.out, stepC, if_pos HWE.out.symm]; rfl)
          have hle := HI.out.n2.le k
          have hge := HI.out.n2 k
          obtain ⟨z1, z2⟩ := HRz.out.stAt hlt
          have hwz2 : IntKind.i64.wrap (at0 (routeTo g fr ms k).2 k + m) = at0 (routeTo g fr ms k).2 k + m := IntWalk.i64_in _ (by omega)
          have HRf := Lib.hid ((HRz.out.setSt k (at0 (routeTo g fr ms k).2 k + m)).drew)
          rw [← HSN.out] at HRf
          go_wp2
          go_still_tail 10, (by kernel_rfl)
          change wpList _ _ _ _ _ wz.drew
          go_wp2
          go_roundw
          case rel => exact ⟨k + 1, by omega, by go_num, HRf⟩
          case measure => simp [intOf]; omega
        · have HWQ : Hid (WOk n ws) := Lib.hid (by rw [HWE.out]; exact HWO.out)
          have HFIN : Hid (routeTo g fr ms (k + 1) = (addAt (moveTo m (totS ws) (routeTo g fr ms k).1 ws) (bestW ws).cell.toNat (m - quoS m (totS ws) ws), (routeTo g fr ms k).2)) := Lib.hid (by rw [HSC.out, stepC, ← HWE.out, if_neg hwc])
          have HNE := Lib.hid hwc
          have hwl : 0 < ws.length := List.length_pos_iff.2 hwc
          have hwl8 := HWQ.out.len
          have hT1 := (totS_bd HWQ.out).1
          have hT2 := (totS_bd HWQ.out).2
          have hq0 : ws[0]? = some (ws[0]'hwl) := List.getElem?_eq_getElem _
          generalize ws[0]'hwl = x at hq0
          have HBW : Hid (bestW ws = ws.foldl betW x) := Lib.hid (by
            cases ws with
            | nil => simp at hwl
            | cons y r => simp at hq0; rw [hq0]; rfl)
          have HQ0 := Lib.hid hq0
          have HWM : Hid (∀ y ∈ ws, ∃ a : Nat, a < 8 ∧ y.dir = a ∧ y.cell = goV g k a) := Lib.hid (by rw [HWE.out]; exact fun y hy => ways_mem hy)
          have hwz : ¬ ((ws.length : Int) = 0) := by omega
          have HSW := Lib.hid (l13SumW_c Q ws.length q wz.heap.size (ws.map Stp.slope) wz (by have h := HTW.out.b; rw [List.length_map] at h; exact h.reads) (by omega) (fun z hz => by
            obtain ⟨y, hy, rfl⟩ := List.mem_map.1 hz
            have h1 := HWQ.out.lo y hy
            have h2 := HWQ.out.hi y hy
            omega))
          have hts : sumZ (ws.map Stp.slope) = totS ws := rfl
          rw [hts] at HSW
          clear hq0 hwc hts
          go_wp2_with fail
          refine HSW.out.mono ?_
          rintro e w4 ⟨rfl, rfl⟩
          have hq00 : m - quoS m (totS ws) (ws.take 0) = m := by simp [quoS]
          have HPa : Hid (Own wz wo.heap.size wz.heap.size 2 1 (.slice P ws.length p) ws.length (ints (ws.map Stp.dir))) := Lib.hid (by have h := HTW.out.a; rw [List.length_map] at h; exact h)
          have HQa : Hid (Own wz wo.heap.size wz.heap.size 2 1 (.slice Q ws.length q) ws.length (ints (ws.map Stp.slope))) := Lib.hid (by have h := HTW.out.b; rw [List.length_map] at h; exact h)
          clear HSW HTW
          go_wp2
          go_loopw [14, 15, 16] (fun lf bi i wr => ∃ j bj : Nat, j ≤ ws.length ∧ i = .int .i64 j ∧ bi = .int .i64 bj ∧ Hid (ws[bj]? = some ((ws.take j).foldl betW x)) ∧ lf = .int .i64 (m - quoS m (totS ws) (ws.take j)) ∧ Hid (RS2 w wr n (moveTo m (totS ws) (routeTo g fr ms k).1 (ws.take j), (routeTo g fr ms k).2)) ∧
            Hid (Own wr wo.heap.size wz.heap.size 2 1 (.slice P ws.length p) ws.length (ints (ws.map Stp.dir))) ∧ Hid (Own wr wo.heap.size wz.heap.size 2 1 (.slice Q ws.length q) ws.length (ints (ws.map Stp.slope))) ∧ wz.heap.size ≤ wr.heap.size) (fun _ _ i _ => ws.length - (intOf i).toNat)
          case atStart => exact ⟨0, 0, Nat.zero_le _, rfl, rfl, HQ0, by rw [hq00], HRz, HPa, HQa, Nat.le_refl _⟩
          case round =>
            clear HRz HPa HQa
            obtain ⟨j, bj, hj, rfl, rfl, HBJ, rfl, HR, HPa, HQa, hzb⟩ := hrel
            generalize wr = wb at *
            by_cases hjl : j < ws.length
            · have hy : ws[j]? = some (ws[j]'hjl) := List.getElem?_eq_getElem _
              generalize ws[j]'hjl = y at hy
              have hym := List.mem_of_getElem? hy
              obtain ⟨t, htc, htn⟩ := HWQ.out.cell y hym
              obtain ⟨a, ha8, hda, hca⟩ := HWM.out y hym
              have hlo := HWQ.out.lo y hym
              have hhi := HWQ.out.hi y hym
              have hsT := slope_le_tot HWQ.out hym
              have HMT := Lib.hid (moveTo_take (m := m) (T := totS ws) (mv := (routeTo g fr ms k).1) hy)
              have HQT := Lib.hid (quoS_take1 (m := m) (T := totS ws) hy)
              have HBT := Lib.hid (best_take (b := x) hy)
              have HYS := Lib.hid hy
              have hqa := quoS_take hm0 HWQ.out HNE.out j
              have hqb := quoS_take hm0 HWQ.out HNE.out (j + 1)
              have hmo := moveTo_ok hm0 (show 0 < totS ws by omega) (HWQ.out.take j) hl1 HI.out.n1
              have hmle := hmo.1.le t
              have hmge := hmo.1 t
              have hmsum := hmo.2
              have hpb := prod_bd hm0 hm1 hlo hhi
              have hqt := quo_bd hm0 hlo hsT
              have hwm : IntKind.i64.wrap (m * y.slope) = m * y.slope := IntWalk.i64_in _ (by omega)
              have hdv : Int.tdiv (m * y.slope) (totS ws) = m * y.slope / totS ws := Int.tdiv_eq_ediv_of_nonneg (by omega)
              have hwq : IntKind.i64.wrap (m * y.slope / totS ws) = m * y.slope / totS ws := IntWalk.i64_in _ (by omega)
              have hT0 : ¬ (totS ws = 0) := by omega
              have hT0b : (totS ws == 0) = false := by simpa using hT0
              have hwa : IntKind.i64.wrap (at0 (moveTo m (totS ws) (routeTo g fr ms k).1 (ws.take j)) t + m * y.slope / totS ws) = at0 (moveTo m (totS ws) (routeTo g fr ms k).1 (ws.take j)) t + m * y.slope / totS ws := IntWalk.i64_in _ (by omega)
              have hws2 : IntKind.i64.wrap (m - quoS m (totS ws) (ws.take j) - m * y.slope / totS ws) = m - quoS m (totS ws) (ws.take j) - m * y.slope / totS ws := IntWalk.i64_in _ (by omega)
              have hnew : m - quoS m (totS ws) (ws.take j) - m * y.slope / totS ws = m - quoS m (totS ws) (ws.take (j + 1)) := by rw [HQT.out]; omega
              have hjr : (j : Int) < (ws.length : Int) := by omega
              have hj0 : (0 : Int) ≤ (j : Int) := by omega
              have htr : (t : Int) < (n : Int) := by omega
              have ht0 : (0 : Int) ≤ (t : Int) := by omega
              have htn' : y.cell.toNat = t := by omega
              have hgo : goV g k a = (t : Int) := by omega
              rw [htn'] at HMT
              have hbjl := (List.getElem?_eq_some_iff.1 HBJ.out).1
              have hbjr : (bj : Int) < (ws.length : Int) := by omega
              have hbj0 : (0 : Int) ≤ (bj : Int) := by omega
              have cmb : wb.cell? (adm.add k) = some (.int .i64 m) := by
                have h1 := HE.out.below (HR.out.bel.mono hE)
                obtain ⟨ad9, m9, e9, _, h9, c9⟩ := h1.int hlt
                have h8 := (HE.out.below (HRw.out.mono hE))
                obtain ⟨ad8, m8, e8, _, h8', c8⟩ := h8.int hlt
                injection e9 with e9
                injection e8 with e8
                subst e9
                subst e8
                rw [HMC.out] at h9
                injection h9 with h9
                rw [h9]; exact c9
              obtain ⟨adq, zq, hPq, hzq, cq⟩ := HQa.out.intAt hjl
              subst hPq
              obtain rfl : y.slope = zq := by rw [List.getElem?_map, hy] at hzq; injection hzq
              obtain ⟨adp, zp, hPp, hzp, cp⟩ := HPa.out.intAt hjl
              subst hPp
              obtain rfl : (a : Int) = zp := by rw [List.getElem?_map, hy] at hzp; injection hzp with hzp; omega
              have HGa := Lib.hid fun W (hW : Below w.heap.size w W) => HG.out W hW k hlt a ha8
              rw [hgo] at HGa
              clear hy hym hmo hzq hzp hgo hda hca
              go_wp2
              refine wp_region_quiet_lit (by kernel_rfl) (by kernel_rfl) ?_
              repeat (first | go_big_quiet_step (fail) | quiet_step (fail))
              refine wpQuiet_nil ?_
              intro _ hw'
              obtain ⟨nq, hw''⟩ := hw'
              subst hw''
              obtain ⟨W3, hW3⟩ : ∃ W, W = wb.drewN nq := ⟨_, rfl⟩
              rw [← hW3]
              have HR3 : Hid (RS2 w W3 n (moveTo m (totS ws) (routeTo g fr ms k).1 (ws.take j), (routeTo g fr ms k).2)) := Lib.hid (by rw [hW3]; exact HR.out.drewN nq)
              have HP3 : Hid (Own W3 wo.heap.size wz.heap.size 2 1 (.slice (some adp) ws.length p) ws.length (ints (ws.map Stp.dir))) := Lib.hid (by rw [hW3]; exact HPa.out.drewN nq)
              have HQ3 : Hid (Own W3 wo.heap.size wz.heap.size 2 1 (.slice (some adq) ws.length q) ws.length (ints (ws.map Stp.slope))) := Lib.hid (by rw [hW3]; exact HQa.out.drewN nq)
              have hz3 : wz.heap.size ≤ W3.heap.size := by rw [hW3]; simpa using hzb
              replace cp : W3.cell? (adp.add j) = some (.int .i64 (a : Int)) := by rw [hW3]; exact cp
              clear hW3 cmb cq HR HPa HQa
              go_wp2_with fail
              refine (HGa.out W3 HR3.out.bel).mono ?_
              rintro e w5 ⟨rfl, B5⟩
              have HR5 := Lib.hid (HR3.out.below B5)
              have hz5 := B5.size
              have HP5 := Lib.hid (HP3.out.below B5 hz3)
              have HQ5 := Lib.hid (HQ3.out.below B5 hz3)
              clear B5 cp HR3 HP3 HQ3
              obtain ⟨p1, p2⟩ := HR5.out.mvAt htn
              simp only at p1
              go_upto_region 19 with (fail)
              have hw5 : w.heap.size + 1 + 1 ≤ w5.heap.size := HR5.out.sz
              obtain ⟨W6, hW6⟩ : ∃ W, W = w5.setCell ⟨w.heap.size, t, none⟩ (.int .i64 (at0 (moveTo m (totS ws) (routeTo g fr ms k).1 (ws.take j)) t + m * y.slope / totS ws)) := ⟨_, rfl⟩
              rw [← hW6]
              have HR6 : Hid (RS2 w W6 n (moveTo m (totS ws) (routeTo g fr ms k).1 (ws.take (j + 1)), (routeTo g fr ms k).2)) := Lib.hid (by
                have h := HR5.out.setMv t (at0 (moveTo m (totS ws) (routeTo g fr ms k).1 (ws.take j)) t + m * y.slope / totS ws)
                rw [hW6, HMT.out]; exact h)
              have HP6 : Hid (Own W6 wo.heap.size wz.heap.size 2 1 (.slice (some adp) ws.length p) ws.length (ints (ws.map Stp.dir))) := Lib.hid (by rw [hW6]; exact HP5.out.setOut (show w.heap.size < wo.heap.size by omega) _)
              have HQ6 : Hid (Own W6 wo.heap.size wz.heap.size 2 1 (.slice (some adq) ws.length q) ws.length (ints (ws.map Stp.slope))) := Lib.hid (by rw [hW6]; exact HQ5.out.setOut (show w.heap.size < wo.heap.size by omega) _)
              have hz6 : wz.heap.size ≤ W6.heap.size := by rw [hW6]; simp; omega
              clear hW6 p1 p2 HR5 HP5 HQ5
              obtain ⟨adq1, z1, e1, hz1, cq⟩ := HQ6.out.intAt hjl
              obtain rfl : adq = adq1 := by injection e1
              obtain rfl : y.slope = z1 := by rw [List.getElem?_map, HYS.out] at hz1; injection hz1
              obtain ⟨adq2, z2, e2, hz2, cb⟩ := HQ6.out.intAt hbjl
              obtain rfl : adq = adq2 := by injection e2
              obtain rfl : ((ws.take j).foldl betW x).slope = z2 := by rw [List.getElem?_map, HBJ.out] at hz2; injection hz2
              clear e1 hz1 e2 hz2
              by_cases hsl : ((ws.take j).foldl betW x).slope < y.slope
              · have hd : decide (((ws.take j).foldl betW x).slope < y.slope) = true := by simpa using hsl
                have HWT : Hid (ws[j]? = some ((ws.take (j + 1)).foldl betW x)) := Lib.hid (by rw [HYS.out, show (ws.take (j + 1)).foldl betW x = y from HBT.out.trans (if_pos hsl)])
                go_wp2
                refine wp_region_quiet_lit (by kernel_rfl) (by kernel_rfl) ?_
                repeat (first | go_big_quiet_step (fail) | quiet_step (fail))
                refine wpQuiet_nil ?_
                intro _ hw'
                obtain ⟨nq, hw''⟩ := hw'
                subst hw''
                clear cq cb
                go_wp2
                go_roundw
                case rel => exact ⟨j + 1, j, by omega, by go_num, rfl, HWT, rfl, Lib.hid (HR6.out.drewN _), Lib.hid (HP6.out.drewN _), Lib.hid (HQ6.out.drewN _), by simpa using hz6⟩
                case measure => simp [intOf]; omega
              · have hd : decide (((ws.take j).foldl betW x).slope < y.slope) = false := by simpa using hsl
                have HWT : Hid (ws[bj]? = some ((ws.take (j + 1)).foldl betW x)) := Lib.hid (by rw [HBJ.out, show (ws.take (j + 1)).foldl betW x = (ws.take j).foldl betW x from HBT.out.trans (if_neg hsl)])
                go_wp2
                refine wp_region_quiet_lit (by kernel_rfl) (by kernel_rfl) ?_
                repeat (first | go_big_quiet_step (fail) | quiet_step (fail))
                refine wpQuiet_nil ?_
                intro _ hw'
                obtain ⟨nq, hw''⟩ := hw'
                subst hw''
                clear cq cb
                go_wp2
                go_roundw
                case rel => exact ⟨j + 1, bj, by omega, by go_num, rfl, HWT, rfl, Lib.hid (HR6.out.drewN _), Lib.hid (HP6.out.drewN _), Lib.hid (HQ6.out.drewN _), by simpa using hz6⟩
                case measure => simp [intOf]; omega
            · obtain rfl : j = ws.length := by omega
              rw [List.take_length] at HR HBJ
              rw [← HBW.out] at HBJ
              obtain ⟨t, htc, htn⟩ := HWQ.out.cell _ (bestW_mem HNE.out)
              obtain ⟨a, ha8, hda, hca⟩ := HWM.out _ (bestW_mem HNE.out)
              have hqa := quoS_take hm0 HWQ.out HNE.out ws.length
              rw [List.take_length] at hqa ⊢
              have hmo := moveTo_ok hm0 (show 0 < totS ws by omega) HWQ.out hl1 HI.out.n1
              have hmle := hmo.1.le t
              have hmge := hmo.1 t
              have hmsum := hmo.2
              have hwa : IntKind.i64.wrap (at0 (moveTo m (totS ws) (routeTo g fr ms k).1 ws) t + (m - quoS m (totS ws) ws)) = at0 (moveTo m (totS ws) (routeTo g fr ms k).1 ws) t + (m - quoS m (totS ws) ws) := IntWalk.i64_in _ (by omega)
              have htr : (t : Int) < (n : Int) := by omega
              have ht0 : (0 : Int) ≤ (t : Int) := by omega
              have hgo : goV g k a = (t : Int) := by omega
              have hbjl := (List.getElem?_eq_some_iff.1 HBJ.out).1
              have hbjr : (bj : Int) < (ws.length : Int) := by omega
              have hbj0 : (0 : Int) ≤ (bj : Int) := by omega
              obtain ⟨adp, zp, hPp, hzp, cp⟩ := HPa.out.intAt hbjl
              subst hPp
              obtain rfl : (a : Int) = zp := by rw [List.getElem?_map, HBJ.out] at hzp; injection hzp with hzp; omega
              have HGa := Lib.hid fun W (hW : Below w.heap.size w W) => HG.out W hW k hlt a ha8
              rw [hgo] at HGa
              have HSN : Hid (routeTo g fr ms (k + 1) = ((moveTo m (totS ws) (routeTo g fr ms k).1 ws).set t (at0 (moveTo m (totS ws) (routeTo g fr ms k).1 ws) t + (m - quoS m (totS ws) ws)), (routeTo g fr ms k).2)) := Lib.hid (by rw [HFIN.out, show (bestW ws).cell.toNat = t by omega]; rfl)
              clear hmo hzp hgo hda hca
              go_wp2_with fail
              refine (HGa.out wb HR.out.bel).mono ?_
              rintro e w5 ⟨rfl, B5⟩
              have HR5 := Lib.hid (HR.out.below B5)
              clear B5 cp HR HPa HQa
              obtain ⟨p1, p2⟩ := HR5.out.mvAt htn
              simp only at p1
              have HR6 := Lib.hid (HR5.out.setMv t (at0 (moveTo m (totS ws) (routeTo g fr ms k).1 ws) t + (m - quoS m (totS ws) ws)))
              simp only at HR6
              rw [← HSN.out] at HR6
              go_wp2
              go_roundw
              case rel => exact ⟨k + 1, by omega, by go_num, HR6⟩
              case measure => simp [intOf]; omega
    · obtain rfl : k = n := by omega
      go_wp2
      go_ret2
      exact HR.out.done rfl
end Go.Proofs.Ytaoomildopmclaa
