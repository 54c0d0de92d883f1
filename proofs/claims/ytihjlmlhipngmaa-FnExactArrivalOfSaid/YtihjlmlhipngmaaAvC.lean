/- Masses that run until all have settled: the reference's run. -/
import Derived.Test.YtihjlmlhipngmaaAvB
namespace Go.Proofs.Ytihjlmlhipngmaa
open Go.ChangeShapes Go.WideShapes Go.ChangeAt Go.RowKit
set_option linter.unusedVariables false
set_option maxHeartbeats 2000000 in
theorem l00OwnR_c (A : Option Addr) (n c B : Nat) (l : List Int) (w : World) (ha : Reads w B 1 A n (ints l)) (hB : B ≤ w.heap.size) (hn : n ≤ 1048576) :
    Calls Try.prog 56 #[.slice A n c] w fun e w' => ∃ D d, e = .returned (.slice D n d) ∧ Own w' w.heap.size w'.heap.size 2 1 (.slice D n d) n (ints l) ∧ Below w.heap.size w w' := by
  have HA := Lib.hid ha
  clear ha
  have O1 : Hid ((w.alloc (.cells #[] 2)).ownsRow w.heap.size 2 1 (.slice (some ⟨w.heap.size, 0, none⟩) 0 0) 0 (ints [])) := Lib.hid (World.ownsRow_lit (w := w) (base := w.heap.size) (e := 2) (size := 1) #[] 0 (Nat.le_refl _) (by simp [maxLen]) (by simp))
  go_enter Try.func56, Try.ntmps56
  go_wp2_with (at_builtin; refine app_i64s rfl (.tmp 3) (.tmp 4) rfl w.heap.size _ 0 [] l B A n c rfl O1.out rfl (HA.out.alloc hB _) (by omega) (by simp) ?_)
  intro v' w' O4 B4 hs4
  have B5 := Lib.hid ((((Below.refl w.heap.size w).alloc (Nat.le_refl _) _)).trans B4)
  obtain ⟨D, d, hv, _, _⟩ := (Own.of_owns O4 (Nat.le_refl _)).slice
  subst hv
  have O5 : Hid (Own w' w.heap.size w'.heap.size 2 1 (.slice D (0 + n) d) (0 + n) (ints l)) := Lib.hid (by have h := Own.of_owns O4 (Nat.le_refl _); simpa using h)
  clear O4 B4 hs4
  go_wp2
  go_ret
  refine ⟨D, d, by simp, ?_, B5.out⟩
  have h := O5.out
  rw [Nat.zero_add] at h
  exact h
theorem startT_len (ms : List Int) : (startT ms).length = ms.length := by simp [startT]
theorem startT_take {ms : List Int} {k : Nat} {z : Int} (h : ms[k]? = some z) : (startT ms).take (k + 1) = (startT ms).take k ++ [if 0 < z then 0 else -1] := by
  have e : (startT ms)[k]? = some (if 0 < z then 0 else -1) := by simp [startT, List.getElem?_map, h]
  rw [List.take_add_one, e]; rfl
/-- what holds of the reference's memory while masses run -/
structure RunR (w0 wr : World) (tb ht ct n : Nat) (s : List Int × List Int) : Prop where
  st : Own wr w0.heap.size (w0.heap.size + 1) 2 1 (.slice (some ⟨w0.heap.size, 0, none⟩) n n) n (ints s.1)
  tm : Own wr (w0.heap.size + 1) ht 2 1 (.slice (some ⟨tb, 0, none⟩) n ct) n (ints s.2)
  hb : w0.heap.size + 1 ≤ tb ∧ tb < ht
  sz : ht ≤ wr.heap.size
  bel : Below w0.heap.size w0 wr
section
variable {w0 wr : World} {tb ht ct n : Nat} {s : List Int × List Int}
theorem RunR.below {w1 : World} (h : RunR w0 wr tb ht ct n s) (hb : Below wr.heap.size wr w1) : RunR w0 w1 tb ht ct n s := by
  have := h.sz; have := h.hb; have := hb.size; have := h.bel.size
  exact ⟨h.st.below hb (by omega), h.tm.below hb (by omega), h.hb, by omega, h.bel.trans (hb.mono (by omega))⟩
theorem RunR.drew (h : RunR w0 wr tb ht ct n s) : RunR w0 wr.drew tb ht ct n s := h.below (Below.refl _ _).drew
theorem RunR.stAt (h : RunR w0 wr tb ht ct n s) {k : Nat} (hk : k < n) : wr.cell? ⟨w0.heap.size, k, none⟩ = some (.int .i64 (at0 s.1 k)) ∧ wr.frozen? ⟨w0.heap.size, k, none⟩ = false := by
  have hl : s.1.length = n := h.st.reads.len
  refine ⟨?_, h.st.1.frozenAt k⟩
  rw [h.st.1.cellAt k (by omega)]
  simp [ints, at0_el (show k < s.1.length by omega)]
theorem RunR.tmAt (h : RunR w0 wr tb ht ct n s) {k : Nat} (hk : k < n) : wr.cell? ⟨tb, k, none⟩ = some (.int .i64 (at0 s.2 k)) ∧ wr.frozen? ⟨tb, k, none⟩ = false := by
  have hl : s.2.length = n := h.tm.reads.len
  refine ⟨?_, h.tm.1.frozenAt k⟩
  rw [h.tm.1.cellAt k (by omega)]
  simp [ints, at0_el (show k < s.2.length by omega)]
theorem RunR.setSt (h : RunR w0 wr tb ht ct n s) (k : Nat) (z : Int) : RunR w0 (wr.setCell ⟨w0.heap.size, k, none⟩ (.int .i64 z)) tb ht ct n (s.1.set k z, s.2) := by
  have h1 := h.st.stored (j := k) (.int .i64 z)
  have := h.hb
  exact ⟨by rw [ints_set]; exact h1.1, h.tm.away (only_set wr _ _) (fun g hg => by simp [Value.ownBlock] at hg; show g < w0.heap.size ∨ w0.heap.size + 1 ≤ g; omega), h.hb, by simpa using h.sz, h.bel.setCell (Nat.le_refl _) _⟩
theorem RunR.setTm (h : RunR w0 wr tb ht ct n s) (k : Nat) (z : Int) : RunR w0 (wr.setCell ⟨tb, k, none⟩ (.int .i64 z)) tb ht ct n (s.1, s.2.set k z) := by
  have h1 := h.tm.stored (j := k) (.int .i64 z)
  have := h.hb
  exact ⟨h.st.away (only_set wr _ _) (fun g hg => by simp [Value.ownBlock] at hg; show g < tb ∨ tb + 1 ≤ g; omega), by rw [ints_set]; exact h1.1, h.hb, by simpa using h.sz, h.bel.setCell (show w0.heap.size ≤ tb by omega) _⟩
end
def RefPost (g : Gr) (fr : Int) (ms : List Int) (n : Nat) (w : World) (e : Ending) (w' : World) : Prop :=
  ∃ N D d F f a a' b b', EndAt g fr ms N ∧ e = .returned (.tuple #[.slice D n d, .slice F n f, .int .i64 (N : Nat)]) ∧ Own w' a a' 2 1 (.slice D n d) n (ints (setV g fr ms N)) ∧ Own w' b b' 2 1 (.slice F n f) n (ints (preV g fr ms (N + 1))) ∧ (a' ≤ b ∨ b' ≤ a) ∧ w.heap.size ≤ a ∧ w.heap.size ≤ b ∧ a' ≤ w'.heap.size ∧ b' ≤ w'.heap.size ∧ Below w.heap.size w w'
set_option maxHeartbeats 8000000 in
set_option maxRecDepth 100000 in
theorem l13Run_c (g : Gr) (b0 : Nat) (A : Option Addr) (n c B : Nat) (E : Option Addr) (ec BE : Nat) (ms : List Int) (fr : Int) (w : World) (hg : GP w b0 B g A n c) (hok : g.ok = true) (he : Reads w BE 1 E n (ints ms)) (hE : BE ≤ w.heap.size) (hms : Nn ms) (hsum : ms.sum ≤ 64000000) (hf1 : 1 ≤ fr) :
    Calls Try.prog 40 #[.pointer (some ⟨b0, 0, none⟩), .slice E n ec, .int .i64 fr] w (RefPost g fr ms n w) := by
  have hb := Gr.ok_bd hok
  have HL := Lib.hid hg.gs.len
  have HLM := Lib.hid (show ms.length = n from he.len)
  have hn64 := hb.len64
  rw [HL.out] at hn64
  have HE := Lib.hid he
  have HNO := Lib.hid fun i => now_ok (fr := fr) (ms := ms) hb (by rw [HL.out, HLM.out]) hf1 hms i
  have HBD := Lib.hid fun i (h : ∀ j, j < i → 0 < (nowV g fr ms j).sum) => EndAt.bd (N := i) hb (by rw [HL.out, HLM.out]) hf1 hms h
  have HRT := Lib.hid fun i (D : Option Addr) (d : Nat) W (hW : Below w.heap.size w W) (hD : Reads W W.heap.size 1 D n (ints (nowV g fr ms i))) => l13Step_c g b0 A n c B D d W.heap.size (nowV g fr ms i) fr W (hg.below hW) hok hD (Nat.le_refl _) (HNO.out i).n1 (by have h1 := (HNO.out i).sum; have h2 := (HNO.out i).n2.sum; omega) hf1
  have HRI := Lib.hid fun i => routeTo_inv (fr := fr) hb (show g.hs.length = (nowV g fr ms i).length by rw [(HNO.out i).l1, HL.out, HLM.out]) hf1 (HNO.out i).n1 ms.length (by rw [(HNO.out i).l1]; omega)
  have HST := Lib.hid (startT_eq g fr ms)
  obtain ⟨i0, hi, hz, hs, hbb⟩ := info_parts info_i64
  have hmk : ∀ W : World, (Instr.makeSlice 34 (.int .i64 (n : Int)) (.int .i64 (n : Int))).run Try.prog W = .ok (.slice (some ⟨W.heap.size, 0, none⟩) n n) (W.alloc (.cells (madeCells #[.int .i64 0] n) 2)) := fun W => by
    have h := run_make_rowN (P := Try.prog) 34 2 i0 _ Try.underlying34 hi hz .i64 .i64 n n (Nat.le_refl _) (by rw [hbb]; omega) (by omega) W
    rw [hs, Nat.mul_one] at h
    exact h
  obtain ⟨Y, hY⟩ : ∃ Y, Y = w.alloc (.cells (madeCells #[.int .i64 0] n) 2) := ⟨_, rfl⟩
  have hsY : Y.heap.size = w.heap.size + 1 := by rw [hY]; simp
  have HOS : Hid (Own Y w.heap.size (w.heap.size + 1) 2 1 (.slice (some ⟨w.heap.size, 0, none⟩) n n) n (ints (List.replicate n 0))) := Lib.hid (by
    have h := Own.of_blk (lo := w.heap.size) (hi := w.heap.size + 1) (n := n) (s := 1) (Blk.new w 2 (madeCells #[.int .i64 0] n)) (by simp [madeCells]) (Nat.le_refl _) (Nat.lt_succ_self _) (by simp [maxLen]; omega)
    have e : (madeCells #[.int .i64 0] n).toList = ints (List.replicate n 0) := by simp [madeCells, ints, Nat.mod_one, List.map_const']
    rw [e] at h; rw [hY]; exact h)
  have HT : Hid (Below w.heap.size w Y) := Lib.hid (by rw [hY]; exact (Below.refl w.heap.size w).alloc (Nat.le_refl _) _)
  have O1 : Hid ((Y.alloc (.cells #[] 2)).ownsRow (w.heap.size + 1) 2 1 (.slice (some ⟨w.heap.size + 1, 0, none⟩) 0 0) 0 (ints [])) := Lib.hid (by
    have h := World.ownsRow_lit (w := Y) (base := w.heap.size + 1) (e := 2) (size := 1) #[] 0 (by omega) (by simp [maxLen]) (by simp)
    rw [hsY] at h; exact h)
  have B1 : Hid (Below (w.heap.size + 1) Y (Y.alloc (.cells #[] 2))) := Lib.hid ((Below.refl _ _).alloc (by omega) _)
  have HSY := Lib.hid hsY
  have HY := Lib.hid hY
  have hbig := hg.gs.big
  clear hg hok he hms hb hi hz hs hbb i0 hY hsY
  go_enter Try.func40, Try.ntmps40
  go_upto_region 2 with (fail)
  rw [← HY.out]
  have hsY := HSY.out
  go_wp2
  go_loopw [10, 11] (fun tv iv wr => ∃ k : Nat, k ≤ n ∧ iv = .int .i64 k ∧ Hid (wr.ownsRow (w.heap.size + 1) 2 1 tv k (ints ((startT ms).take k))) ∧ Hid (Below (w.heap.size + 1) Y wr)) (fun _ iv _ => n - (intOf iv).toNat)
  case atStart => exact ⟨0, Nat.zero_le _, rfl, by simpa using O1, B1⟩
  case round =>
    clear O1 B1
    obtain ⟨k, hk, rfl, HO, HB⟩ := hrel
    have hwr := HB.out.size
    have HWB := Lib.hid (HT.out.trans (HB.out.mono (by omega)))
    by_cases hlt : k < n
    · obtain ⟨adm, m, rfl, _, hm, cm⟩ := (HE.out.below (HWB.out.mono hE)).int hlt
      have hkn : (k : Int) < (n : Int) := by omega
      have hk0 : (0 : Int) ≤ (k : Int) := by omega
      have HTK := Lib.hid (startT_take hm)
      have HMM := Lib.hid hm
      have HOW := Lib.hid (owns_al HO.out (.cells #[.int .i64 (-1)] 2))
      clear hm cm HO
      go_wp2_with (at_builtin; refine app_i64 rfl (.tmp 27) (.tmp 28) rfl (w.heap.size + 1) _ k ((startT ms).take k) (-1) _ rfl HOW.out rfl ?_ (by omega) ?_ ?_)
      rotate_left 2
      · intro v' w2 O4 B4 hs4
        have HB2 := Lib.hid (HB.out.trans ((((Below.refl (w.heap.size + 1) wr).alloc (by omega) (.cells #[.int .i64 (-1)] 2))).trans B4))
        have HWB2 := Lib.hid (HT.out.trans (HB2.out.mono (by omega)))
        obtain ⟨T, ct, rfl, hct, hcm⟩ := (Own.of_owns O4 (Nat.le_refl _)).slice
        have HO4 := Lib.hid (Own.of_owns O4 (Nat.le_refl _))
        obtain ⟨tb, rfl, htb, _, _⟩ := HO4.out.at_ (by omega)
        obtain ⟨adm2, m2, e2, _, hm2, cm⟩ := (HE.out.below (HWB2.out.mono hE)).int hlt
        obtain rfl : adm = adm2 := by injection e2
        obtain rfl : m = m2 := by have h := HMM.out; rw [hm2] at h; injection h with h; exact h.symm
        have hlk : ((startT ms).take k).length = k := by rw [List.length_take, startT_len, HLM.out]; omega
        clear O4 B4 hs4 HOW hct hcm hm2 e2
        by_cases hmp : 0 < m
        · have hd : decide (0 < m) = true := by simpa using hmp
          rw [if_pos hmp] at HTK
          have f0 := HO4.out.1.frozenAt k
          have c0 : w2.cell? ⟨tb, k, none⟩ = some (.int .i64 (-1)) := by
            have hil : (ints ((startT ms).take k)).length = k := by unfold ints; rw [List.length_map]; exact hlk
            rw [HO4.out.1.cellAt k (by omega), ints_app, List.getElem?_append_right (by omega), hil, Nat.sub_self]
            rfl
          have HS := HO4.out.stored (j := k) (.int .i64 0)
          have HS1 : Hid ((w2.setCell ⟨tb, k, none⟩ (.int .i64 0)).ownsRow (w.heap.size + 1) 2 1 (.slice (some ⟨tb, 0, none⟩) (k + 1) ct) (k + 1) (ints ((startT ms).take (k + 1)))) := Lib.hid (by
            have h := HS.1.1
            rw [HTK.out]
            rw [← ints_set, List.set_append_right _ _ (by omega), hlk, Nat.sub_self] at h
            exact h)
          have HB3 := Lib.hid (HB2.out.setCell (p := ⟨tb, k, none⟩) htb (.int .i64 0))
          clear HS
          go_wp2
          go_roundw
          case rel => exact ⟨k + 1, by omega, by go_num, HS1, HB3⟩
          case measure => simp [intOf]; omega
        · have hd : decide (0 < m) = false := by simpa using hmp
          rw [if_neg hmp] at HTK
          have HS1 : Hid (w2.ownsRow (w.heap.size + 1) 2 1 (.slice (some ⟨tb, 0, none⟩) (k + 1) ct) (k + 1) (ints ((startT ms).take (k + 1)))) := Lib.hid (by rw [HTK.out]; exact HO4.out.1)
          go_wp2
          go_roundw
          case rel => exact ⟨k + 1, by omega, by go_num, HS1, HB2⟩
          case measure => simp [intOf]; omega
      · exact (Blk.new _ _ _).cell 0
      · simp; omega
    · obtain rfl : k = n := by omega
      have HO2 := Lib.hid (Own.of_owns HO.out (Nat.le_refl _))
      obtain ⟨T, ct, rfl, _, _⟩ := HO2.out.slice
      obtain ⟨tb, rfl, htb, htb2, _⟩ := HO2.out.at_ (by omega)
      have HR0 : Hid (RunR w wr tb wr.heap.size ct k (setV g fr ms 0, preV g fr ms 1)) := Lib.hid (by
        have h := HO2.out
        rw [List.take_of_length_le (by rw [startT_len, HLM.out]; omega), ← HST.out] at h
        exact ⟨by simp only [setV, HLM.out]; exact HOS.out.below HB.out (Nat.le_refl _), h, ⟨htb, htb2⟩, Nat.le_refl _, HWB.out⟩)
      have HOC := Lib.hid (l00OwnR_c E k ec BE ms wr (HE.out.below (HWB.out.mono hE)) (by have := HWB.out.size; omega) (by omega))
      obtain ⟨ht, hht⟩ : ∃ ht, ht = wr.heap.size := ⟨_, rfl⟩
      rw [← hht] at HR0
      clear HO2 HB HWB HOS HO hsY
      go_wp2_with fail
      refine HOC.out.mono ?_
      rintro e w2 ⟨D0, d0, rfl, ON, BN⟩
      have HR1 := Lib.hid (HR0.out.below BN)
      have HN1 : Hid (NowS w ht w2 D0 k d0 (nowV g fr ms 0)) := Lib.hid (.inr ⟨wr.heap.size, w2.heap.size, by omega, Nat.le_refl _, ON⟩)
      clear ON BN HOC HR0 hht hlt hk
      generalize k = n at *
      go_wp2
      go_loopw [12, 13] (fun nw sv wr => ∃ (i : Nat) (D : Option Addr) (d : Nat), (∀ j, j < i → 0 < (nowV g fr ms j).sum) ∧ nw = .slice D n d ∧ sv = .int .i64 i ∧ Hid (NowS w ht wr D n d (nowV g fr ms i)) ∧ Hid (RunR w wr tb ht ct n (setV g fr ms i, preV g fr ms (i + 1)))) (fun _ sv _ => n + 1 - (intOf sv).toNat)
      case atStart => exact ⟨0, D0, d0, fun j h => absurd h (Nat.not_lt_zero j), rfl, rfl, HN1, HR1⟩
      case round =>
        clear HN1 HR1
        obtain ⟨i, D, d, hpos, rfl, rfl, HNW, HR⟩ := hrel
        generalize wr = wo at *
        have hin : i ≤ n := by have := HBD.out i hpos; rw [HLM.out] at this; exact this
        have HPO := Lib.hid hpos
        have HI := Lib.hid (HNO.out i)
        have HCV := Lib.hid (HRT.out i D d)
        have HRV := Lib.hid (HRI.out i)
        have HS1 : Hid (∀ sv nw, setV g fr ms i = sv → nowV g fr ms i = nw → setV g fr ms (i + 1) = addK sv (routeTo g fr nw n).2 n) := Lib.hid (fun sv nw h1 h2 => by rw [← h1, ← h2, setV, HLM.out])
        have HP1 : Hid (∀ pv nw, preV g fr ms (i + 1) = pv → nowV g fr ms (i + 1) = nw → preV g fr ms (i + 1 + 1) = markK nw pv ((i : Int) + 1) n) := Lib.hid (fun pv nw h1 h2 => by rw [preV, h1, h2, HLM.out]; rfl)
        have HN1 : Hid (∀ nw, nowV g fr ms i = nw → nowV g fr ms (i + 1) = (routeTo g fr nw n).1) := Lib.hid (fun nw h2 => by rw [← h2, nowV, HLM.out])
        have HED : Hid ((nowV g fr ms i).sum ≤ 0 → EndAt g fr ms i) := Lib.hid (fun h => ⟨HPO.out, by omega⟩)
        have HPS : Hid (0 < (nowV g fr ms i).sum → ∀ j, j < i + 1 → 0 < (nowV g fr ms j).sum) := Lib.hid (fun h j hj => by
          by_cases e : j = i
          · subst e; exact h
          · exact HPO.out j (by omega))
        rw [HLM.out] at HI HRV
        have hlen := HI.out.l1
        have hsl := HI.out.l2
        have hnn := HI.out.n1
        have hsn := HI.out.n2
        have hss := HI.out.sum
        have hpl := preV_len g fr ms (i + 1)
        rw [HLM.out] at hpl
        clear hpos HPO HI
        obtain ⟨l, hl⟩ : ∃ l, nowV g fr ms i = l := ⟨_, rfl⟩
        obtain ⟨sv, hsv⟩ : ∃ l, setV g fr ms i = l := ⟨_, rfl⟩
        obtain ⟨pv, hpv⟩ : ∃ l, preV g fr ms (i + 1) = l := ⟨_, rfl⟩
        replace HS1 := Lib.hid (HS1.out sv l hsv hl)
        replace HP1 := Lib.hid (HP1.out pv (nowV g fr ms (i + 1)) hpv rfl)
        replace HN1 := Lib.hid (HN1.out l hl)
        rw [hl] at HNW HED HPS HCV HRV hlen hnn hss
        rw [hsv] at hsl hsn hss HR
        rw [hpv] at HR hpl
        have HSV := Lib.hid hsv
        have HPV := Lib.hid hpv
        have HNN := Lib.hid hnn
        have HSN := Lib.hid hsn
        have hssn := hsn.sum
        have HSC := Lib.hid (l13SumW_c D n d wo.heap.size l wo (HNW.out.reads HR.out.bel.size) (by omega) (fun z hz => by
          obtain ⟨j, hj⟩ := List.getElem?_of_mem hz
          have h1 := HNN.out j
          have h2 := HNN.out.le j
          rw [at0_get hj] at h1 h2
          omega))
        have hsz : sumZ l = l.sum := rfl
        rw [hsz] at HSC
        clear hl hsv hpv hnn hsn hsz
        go_wp2_with fail
        refine HSC.out.mono ?_
        rintro e w3 ⟨rfl, rfl⟩
        clear HSC
        by_cases hs : 0 < l.sum
        · have hd : decide (0 < l.sum) = true := by simpa using hs
          have HPP := Lib.hid (HPS.out hs)
          have HCC := Lib.hid (HCV.out wo HR.out.bel (HNW.out.reads HR.out.bel.size))
          have hw3 := HR.out.sz
          go_wp2_with fail
          refine HCC.out.mono ?_
          rintro e w2 ⟨D1, d1, F1, f1, a, a', b, b', rfl, O1, O2, hab, ha, hb, ha', hb', B2⟩
          have HO1 := Lib.hid O1
          have HO2 := Lib.hid O2
          have HR2 := Lib.hid (HR.out.below B2)
          rw [← HN1.out] at HO1
          obtain ⟨mr, hmr⟩ : ∃ x, (routeTo g fr l n).2 = x := ⟨_, rfl⟩
          have HRV1 := Lib.hid HRV.out.n2
          have hrs := HRV.out.sum
          have hrl := HRV.out.l2
          have HRN := Lib.hid HRV.out.n1
          have hrn := HRN.out.sum
          rw [List.take_of_length_le (by omega)] at hrs
          rw [← HN1.out] at hrs hrn
          rw [hmr] at HO2 HRV1 hrs hrl HS1
          obtain ⟨nx, hnx⟩ : ∃ x, nowV g fr ms (i + 1) = x := ⟨_, rfl⟩
          rw [hnx] at HO1 hrs hrn HP1
          have HNX := Lib.hid hnx
          have hwi : IntKind.i64.wrap ((i : Int) + 1) = (i : Int) + 1 := IntWalk.i64_in _ (by omega)
          have hwh : ht ≤ w2.heap.size := by have := B2.size; omega
          clear O1 O2 B2 HCC HNW HR hmr HRV hnx hs
          go_wp2
          go_loopw [16] (fun iv wr => ∃ j : Nat, j ≤ n ∧ iv = .int .i64 j ∧ Hid (RunR w wr tb ht ct n (addK sv mr j, markK nx pv ((i : Int) + 1) j)) ∧ Hid (Own wr a a' 2 1 (.slice D1 n d1) n (ints nx)) ∧ Hid (Own wr b b' 2 1 (.slice F1 n f1) n (ints mr)) ∧ w2.heap.size ≤ wr.heap.size) (fun iv _ => n - (intOf iv).toNat)
          case atStart => exact ⟨0, Nat.zero_le _, rfl, HR2, HO1, HO2, Nat.le_refl _⟩
          case round =>
            clear HR2 HO1 HO2
            obtain ⟨j, hj, rfl, HR2, HO1, HO2, hsz⟩ := hrel
            generalize wr = wz at *
            by_cases hjl : j < n
            · obtain ⟨adq, z, rfl, hz, cz⟩ := HO2.out.intAt hjl
              have hzl : at0 mr j = z := at0_get hz
              obtain ⟨p1, p2⟩ := HR2.out.stAt hjl
              simp only at p1
              have hat := addK_at sv mr j (by omega) j
              rw [if_neg (Nat.lt_irrefl j)] at hat
              rw [hat] at p1
              have h1 := HSN.out.le j
              have h2 := HSN.out j
              have h3 := HRV1.out.le j
              have h4 := HRV1.out j
              rw [hzl] at h3 h4
              have hwz : IntKind.i64.wrap (at0 sv j + z) = at0 sv j + z := IntWalk.i64_in _ (by omega)
              have hkn : (j : Int) < (n : Int) := by omega
              have hk0 : (0 : Int) ≤ (j : Int) := by omega
              have HAD : Hid (addK sv mr (j + 1) = (addK sv mr j).set j (at0 sv j + z)) := Lib.hid (by rw [addK, addAt, hat, hzl])
              have HR3 := Lib.hid (HR2.out.setSt j (at0 sv j + z)).drew
              simp only at HR3
              rw [← HAD.out] at HR3
              have htl := HR2.out.hb
              have hta := HR2.out.sz
              have HO3 := Lib.hid (HO1.out.setOut (p := ⟨w.heap.size, j, none⟩) (show w.heap.size < a by omega) (.int .i64 (at0 sv j + z))).drew
              have HO4 := Lib.hid (HO2.out.setOut (p := ⟨w.heap.size, j, none⟩) (show w.heap.size < b by omega) (.int .i64 (at0 sv j + z))).drew
              clear hz hzl hat h1 h2 h3 h4 HO1 HO2 HR2
              go_wp2
              go_still_tail 10, (by kernel_rfl)
              change wpList _ _ _ _ _ wz.drew
              go_upto_region 18 with (fail)
              obtain ⟨W3, hW3⟩ : ∃ W, W = (wz.setCell ⟨w.heap.size, j, none⟩ (.int .i64 (at0 sv j + z))).drew := ⟨_, rfl⟩
              rw [← hW3] at HR3 HO3 HO4 ⊢
              have hz3 : w2.heap.size ≤ W3.heap.size := by rw [hW3]; simpa using hsz
              clear hW3 p1 p2 cz hwz
              obtain ⟨adm, y, rfl, hy, cy⟩ := HO3.out.intAt hjl
              have hyl : at0 nx j = y := at0_get hy
              obtain ⟨q1, q2⟩ := HR3.out.tmAt hjl
              simp only at q1
              have HMK : Hid (markK nx pv ((i : Int) + 1) (j + 1) = if 0 < y ∧ at0 (markK nx pv ((i : Int) + 1) j) j < 0 then (markK nx pv ((i : Int) + 1) j).set j ((i : Int) + 1) else markK nx pv ((i : Int) + 1) j) := Lib.hid (by rw [markK, markC, hyl])
              clear hy hyl
              by_cases hm : 0 < y
              · have hd : decide (0 < y) = true := by simpa using hm
                by_cases hq : at0 (markK nx pv ((i : Int) + 1) j) j < 0
                · have hd2 : decide (at0 (markK nx pv ((i : Int) + 1) j) j < 0) = true := by simpa using hq
                  have HM1 : Hid (markK nx pv ((i : Int) + 1) (j + 1) = (markK nx pv ((i : Int) + 1) j).set j ((i : Int) + 1)) := Lib.hid (by rw [HMK.out, if_pos ⟨hm, hq⟩])
                  have HR4 := Lib.hid (HR3.out.setTm j ((i : Int) + 1))
                  simp only at HR4
                  rw [← HM1.out] at HR4
                  have HO5 := Lib.hid (HO3.out.setOut (p := ⟨tb, j, none⟩) (show tb < a by omega) (.int .i64 ((i : Int) + 1)))
                  have HO6 := Lib.hid (HO4.out.setOut (p := ⟨tb, j, none⟩) (show tb < b by omega) (.int .i64 ((i : Int) + 1)))
                  go_wp2
                  go_roundw
                  case rel => exact ⟨j + 1, by omega, by go_num, HR4, HO5, HO6, by simpa using hz3⟩
                  case measure => simp [intOf]; omega
                · have hd2 : decide (at0 (markK nx pv ((i : Int) + 1) j) j < 0) = false := by simpa using hq
                  have HM1 : Hid (markK nx pv ((i : Int) + 1) (j + 1) = markK nx pv ((i : Int) + 1) j) := Lib.hid (by rw [HMK.out, if_neg (fun h => hq h.2)])
                  rw [← HM1.out] at HR3
                  go_wp2
                  go_roundw
                  case rel => exact ⟨j + 1, by omega, by go_num, HR3, HO3, HO4, hz3⟩
                  case measure => simp [intOf]; omega
              · have hd : decide (0 < y) = false := by simpa using hm
                have HM1 : Hid (markK nx pv ((i : Int) + 1) (j + 1) = markK nx pv ((i : Int) + 1) j) := Lib.hid (by rw [HMK.out, if_neg (fun h => hm h.1)])
                rw [← HM1.out] at HR3
                go_wp2
                go_roundw
                case rel => exact ⟨j + 1, by omega, by go_num, HR3, HO3, HO4, hz3⟩
                case measure => simp [intOf]; omega
            · obtain rfl : j = n := by omega
              rw [← HS1.out, ← HP1.out] at HR2
              rw [← HNX.out] at HO1
              have hta := HR2.out.sz
              have HN3 : Hid (NowS w ht wz D1 j d1 (nowV g fr ms (i + 1))) := Lib.hid (.inr ⟨a, a', by omega, by omega, HO1.out⟩)
              go_wp2
              go_roundw
              case rel => exact ⟨i + 1, D1, d1, HPP.out, rfl, by go_num, HN3, HR2⟩
              case measure => simp [intOf]; omega
        · have hd : decide (0 < l.sum) = false := by simpa using hs
          have HEE := Lib.hid (HED.out (by omega))
          rw [← HSV.out, ← HPV.out] at HR
          go_wp2
          try simp only [Exit.inBlock, Exit.then]
          refine bodyPost_ret (results_tmp3 rfl _ _ _) rfl ?_
          have hbb := HR.out.hb
          have hta := HR.out.sz
          exact ⟨i, _, n, _, ct, w.heap.size, w.heap.size + 1, w.heap.size + 1, ht, HEE.out, rfl, HR.out.st, HR.out.tm, by omega, by omega, by omega, by omega, by omega, HR.out.bel⟩
end Go.Proofs.Ytihjlmlhipngmaa
