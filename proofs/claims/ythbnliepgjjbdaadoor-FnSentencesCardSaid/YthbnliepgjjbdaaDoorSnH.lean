/- Sentences: the text of one, by the reference; SentenceText of both. -/
import Derived.Test.YthbnliepgjjbdaaDoorSnG
import Derived.Test.YthbnliepgjjbdaaDoorSnR
import Derived.Test.YthbnliepgjjbdaaDoorSen2
import Derived.Test.YthbnliepgjjbdaaDoorTc
namespace Go.Proofs.YthbnliepgjjbdaaDoor
open Go.ChangeShapes Go.WideShapes Go.ChangeAt Go.RowKit
set_option linter.unusedVariables false
theorem str_add (a b : List UInt8) : (⟨a.toArray⟩ : ByteArray) ++ ⟨b.toArray⟩ = ⟨(a ++ b).toArray⟩ := by
  apply ByteArray.ext
  simp [ByteArray.data_append]
set_option maxHeartbeats 800000 in
set_option maxRecDepth 100000 in
theorem l19Text_c (k l : Nat) (a b : Int) (hk : 1 ≤ k ∧ k ≤ 7) (hl : 1 ≤ l ∧ l ≤ 4) (ha : numOk k a) (hb : k = 4 → numOk 4 b) (ad : Addr) (w : World)
    (h0 : w.cell? ad = some (.int .i64 k)) (h1 : w.cell? ⟨ad.block, ad.off + 1, none⟩ = some (.int .i64 a)) (h2 : w.cell? ⟨ad.block, ad.off + 2, none⟩ = some (.int .i64 b)) :
    Calls Tryd.prog 36 #[.pointer (some ad), .int .i64 l] w fun e w' => e = .returned (.string ⟨(textT k l a b).toArray⟩) ∧ Below w.heap.size w w' := by
  have hlt := World.block_lt_of_cell? _ _ h0
  have HK := Lib.hid (fun W (hW : Below w.heap.size w W) => (⟨(hW.cell hlt).trans h0, (hW.cell (p := ⟨ad.block, ad.off + 1, none⟩) hlt).trans h1, (hW.cell (p := ⟨ad.block, ad.off + 2, none⟩) hlt).trans h2⟩ : W.cell? ad = some (.int .i64 k) ∧ W.cell? ⟨ad.block, ad.off + 1, none⟩ = some (.int .i64 a) ∧ W.cell? ⟨ad.block, ad.off + 2, none⟩ = some (.int .i64 b)))
  have HA := Lib.hid ha
  have HB := Lib.hid hb
  have hHK := Lib.hid hk
  have hHL := Lib.hid hl
  clear ha hb hlt h1 h2
  go_enter Tryd.func36, Tryd.ntmps36
  go_wp2_with fail
  refine (l19Parts_c k l hHK.out hHL.out _).mono ?_
  rintro e w1 ⟨g, rfl, hb1, B1⟩
  have HB1 := Lib.hid hb1
  have T1 := Lib.hid B1
  clear h0 hb1 B1 hk hl
  obtain ⟨c0, c1, c2⟩ := HK.out w1 T1.out
  have hpf := pat_facts hHK.out hHL.out
  have hna := (num_facts hHK.out hHL.out HA.out).1
  have hpat : (patT k l).length = if k = 4 then (partT k l).1.length + 3 + ((partT k l).2.1.length + 3 + (partT k l).2.2.length) else (partT k l).1.length + 3 + (partT k l).2.1.length := by
    unfold patT; split <;> simp only [List.length_append] <;> rfl
  rw [hpat] at hpf
  obtain ⟨x0, hx0⟩ : ∃ b : ByteArray, b = ⟨(partT k l).1.toArray⟩ := ⟨_, rfl⟩
  obtain ⟨x1, hx1⟩ : ∃ b : ByteArray, b = ⟨(partT k l).2.1.toArray⟩ := ⟨_, rfl⟩
  have z0 : x0.size = (partT k l).1.length := by rw [hx0]; rfl
  have z1 : x1.size = (partT k l).2.1.length := by rw [hx1]; rfl
  have zn : (numB k l a).size = (numT k l a).length := rfl
  have HX0 := Lib.hid hx0
  have HX1 := Lib.hid hx1
  by_cases hk4 : k = 4
  · subst hk4
    rw [if_pos rfl] at hpf
    obtain ⟨x2, hx2⟩ : ∃ b : ByteArray, b = ⟨(partT 4 l).2.2.toArray⟩ := ⟨_, rfl⟩
    have z2 : x2.size = (partT 4 l).2.2.length := by rw [hx2]; rfl
    have HX2 := Lib.hid hx2
    have HNB := Lib.hid (HB.out rfl)
    have hnb := (num_facts hHK.out hHL.out HNB.out).1
    have zm : (numB 4 l b).size = (numT 4 l b).length := rfl
    have s1 : ¬ (9223372036854775807 < x0.size + (numB 4 l a).size) := by omega
    have s2 : ¬ (9223372036854775807 < x0.size + (numB 4 l a).size + x1.size) := by omega
    have s3 : ¬ (9223372036854775807 < (numB 4 l b).size + x2.size) := by omega
    have s4 : ¬ (9223372036854775807 < x0.size + (numB 4 l a).size + x1.size + ((numB 4 l b).size + x2.size)) := by omega
    have d0 : w1.cell? ⟨g, 0, none⟩ = some (.string x0) := (HB1.out.cell 0).trans (by rw [hx0]; rfl)
    have d1 : w1.cell? ⟨g, 1, none⟩ = some (.string x1) := (HB1.out.cell 1).trans (by rw [hx1]; rfl)
    have hpl : (partsB 4 l).length = 3 := rfl
    rw [hpl]
    clear hpf hna hpat hx0 hx1 hx2 z0 z1 z2 zn hnb zm hpl
    go_upto_region 2 with (fail)
    have qc0 := cell_regrown c0
    have qc1 := cell_regrown c1
    have qd0 := cell_regrown d0
    have qd1 := cell_regrown d1
    refine wp_region_quiet_below (by kernel_rfl) (by kernel_rfl) ?_
    repeat (first | go_big_quiet_step ((go_at_call 56; exact Calls.regrown_of (l19Number_c 4 l hHK.out hHL.out a HA.out _))) | quiet_step ((go_at_call 56; exact Calls.regrown_of (l19Number_c 4 l hHK.out hHL.out a HA.out _))))
    refine wpQuiet_nil ?_
    intro W2 B2
    replace B2 := Lib.hid (show Below (w1).heap.size (w1) W2 from by obtain ⟨pq, rfl⟩ := B2; exact below_regrown _ _ _)
    clear qc0 qc1 qd0 qd1
    have T2 := Lib.hid (T1.out.trans (B2.out.mono T1.out.size))
    clear c0 c1 c2 d0 d1 s1 s2
    obtain ⟨c0, c1, c2⟩ := HK.out W2 T2.out
    have d2 : W2.cell? ⟨g, 2, none⟩ = some (.string x2) := ((HB1.out.below B2.out HB1.out.lt).cell 2).trans (by rw [HX2.out]; rfl)
    go_upto_region 4 with (fail)
    have qc0 := cell_regrown c0
    have qc2 := cell_regrown c2
    have qd2 := cell_regrown d2
    refine wp_region_quiet_below (by kernel_rfl) (by kernel_rfl) ?_
    repeat (first | go_big_quiet_step ((go_at_call 56; exact Calls.regrown_of (l19Number_c 4 l hHK.out hHL.out b HNB.out _))) | quiet_step ((go_at_call 56; exact Calls.regrown_of (l19Number_c 4 l hHK.out hHL.out b HNB.out _))))
    refine wpQuiet_nil ?_
    intro W3 B3
    replace B3 := Lib.hid (show Below (W2).heap.size (W2) W3 from by obtain ⟨pq, rfl⟩ := B3; exact below_regrown _ _ _)
    clear qc0 qc2 qd2
    go_wp2
    go_ret
    refine ⟨?_, T2.out.trans (B3.out.mono T2.out.size)⟩
    have e1 : textT 4 l a b = (partT 4 l).1 ++ numT 4 l a ++ (partT 4 l).2.1 ++ (numT 4 l b ++ (partT 4 l).2.2) := by unfold textT; rw [if_pos rfl]
    rw [e1, HX0.out, HX1.out, HX2.out]
    unfold numB
    simp only [str_add]
    rfl
  · rw [if_neg hk4] at hpf
    have hpl : (partsB k l).length = 2 := by unfold partsB; rw [if_neg (by have := hHK.out; omega), if_neg hk4]; rfl
    have hpe : partsB k l = [⟨(partT k l).1.toArray⟩, ⟨(partT k l).2.1.toArray⟩] := by unfold partsB; rw [if_neg (by have := hHK.out; omega), if_neg hk4]
    have s1 : ¬ (9223372036854775807 < x0.size + (numB k l a).size) := by omega
    have s2 : ¬ (9223372036854775807 < x0.size + (numB k l a).size + x1.size) := by omega
    have d0 : w1.cell? ⟨g, 0, none⟩ = some (.string x0) := (HB1.out.cell 0).trans (by rw [hpe, hx0]; rfl)
    have d1 : w1.cell? ⟨g, 1, none⟩ = some (.string x1) := (HB1.out.cell 1).trans (by rw [hpe, hx1]; rfl)
    have hk4' : ¬ ((k : Int) = 4) := by omega
    have e1 : Hid (textT k l a b = (partT k l).1 ++ numT k l a ++ (partT k l).2.1) := Lib.hid (by unfold textT; rw [if_neg hk4])
    rw [hpl]
    clear hpl hpe hk4 hpf hna hpat hx0 hx1 z0 z1 zn
    go_upto_region 2 with (fail)
    have qc0 := cell_regrown c0
    have qc1 := cell_regrown c1
    have qd0 := cell_regrown d0
    have qd1 := cell_regrown d1
    refine wp_region_quiet_below (by kernel_rfl) (by kernel_rfl) ?_
    repeat (first | go_big_quiet_step ((go_at_call 56; exact Calls.regrown_of (l19Number_c k l hHK.out hHL.out a HA.out _))) | quiet_step ((go_at_call 56; exact Calls.regrown_of (l19Number_c k l hHK.out hHL.out a HA.out _))))
    refine wpQuiet_nil ?_
    intro W2 B2
    replace B2 := Lib.hid (show Below (w1).heap.size (w1) W2 from by obtain ⟨pq, rfl⟩ := B2; exact below_regrown _ _ _)
    clear qc0 qc1 qd0 qd1
    have T2 := Lib.hid (T1.out.trans (B2.out.mono T1.out.size))
    clear c0 c1 c2 d0 d1
    obtain ⟨c0, c1, c2⟩ := HK.out W2 T2.out
    go_wp2
    go_ret
    refine ⟨?_, T2.out⟩
    rw [e1.out, HX0.out, HX1.out]
    unfold numB
    simp only [str_add]
    rfl
def sentV (s : Sen) (n : Int) : ByteArray × Int := if s.ok = false then (⟨#[]⟩, 1) else if inB n 1 4 = false then (⟨#[]⟩, 2) else (⟨(s.text n.toNat).toArray⟩, 0)
theorem inB_lang {n : Int} (h : inB n 1 4 = true) : ∃ l : Nat, n = l ∧ 1 ≤ l ∧ l ≤ 4 := by
  unfold inB at h
  simp at h
  exact ⟨n.toNat, by omega, by omega, by omega⟩
set_option maxHeartbeats 800000 in
theorem sSentenceText_c (s : Sen) (n : Int) (w : World) :
    Calls Tryd.prog 10 #[s.val, .int .i64 n] w fun e w' => e = .returned (.tuple #[.string (sentV s n).1, .int .i64 (sentV s n).2]) ∧ Below w.heap.size w w' := by
  obtain ⟨k, a, b⟩ := s
  simp only [Sen.val]
  have HC := Lib.hid fun (W : World) (ad : Addr) (h0 : W.cell? ad = some (.int .i64 k)) (h1 : W.cell? ⟨ad.block, ad.off + 1, none⟩ = some (.int .i64 a)) (h2 : W.cell? ⟨ad.block, ad.off + 2, none⟩ = some (.int .i64 b)) => l19Ok_c ad k a b W h0 h1 h2
  have HV := Lib.hid (show sentV ⟨k, a, b⟩ n = if okS k a b = false then (⟨#[]⟩, 1) else if inB n 1 4 = false then (⟨#[]⟩, 2) else (⟨(Sen.text n.toNat ⟨k, a, b⟩).toArray⟩, 0) from rfl)
  generalize sentV ⟨k, a, b⟩ n = v at *
  cases ho : okS k a b
  · rw [ho] at HC HV
    clear ho
    go_enter Tryd.func10, Tryd.ntmps10
    go_wp2_with fail
    refine (HC.out _ _ ?_ ?_ ?_).mono ?_
    · go_simp
    · go_simp
    · go_simp
    rintro e w1 ⟨rfl, rfl⟩
    go_wp2
    go_ret2
    exact ⟨by rw [HV.out]; rfl, by go_grown⟩
  · rw [ho] at HC HV
    cases hn : inB n 1 4
    · rw [hn] at HV
      have HN := Lib.hid fun W => l19Language_c n W
      rw [hn] at HN
      clear ho hn
      go_enter Tryd.func10, Tryd.ntmps10
      go_wp2_with fail
      refine (HC.out _ _ ?_ ?_ ?_).mono ?_
      · go_simp
      · go_simp
      · go_simp
      rintro e w1 ⟨rfl, rfl⟩
      go_wp2_with fail
      refine (HN.out _).mono ?_
      rintro e w1 ⟨rfl, rfl⟩
      go_wp2
      go_ret2
      exact ⟨by rw [HV.out]; rfl, by go_grown⟩
    · rw [hn] at HV
      have HN := Lib.hid fun W => l19Language_c n W
      rw [hn] at HN
      obtain ⟨l, rfl, hl⟩ := inB_lang hn
      obtain ⟨kn, rfl, h1, h7, ha, hb, _⟩ := okS_num ho
      have HT := Lib.hid fun (W : World) (ad : Addr) (h0 : W.cell? ad = some (.int .i64 (kn : Int))) (g1 : W.cell? ⟨ad.block, ad.off + 1, none⟩ = some (.int .i64 a)) (g2 : W.cell? ⟨ad.block, ad.off + 2, none⟩ = some (.int .i64 b)) => l19Text_c kn l a b ⟨h1, h7⟩ hl ha hb ad W h0 g1 g2
      clear ho hn hl h1 h7 ha hb
      go_enter Tryd.func10, Tryd.ntmps10
      go_wp2_with fail
      refine (HC.out _ _ ?_ ?_ ?_).mono ?_
      · go_simp
      · go_simp
      · go_simp
      rintro e w1 ⟨rfl, rfl⟩
      go_wp2_with fail
      refine (HN.out _).mono ?_
      rintro e w1 ⟨rfl, rfl⟩
      go_wp2_with fail
      refine (HT.out _ _ ?_ ?_ ?_).mono ?_
      · go_simp
      · go_simp
      · go_simp
      rintro e w1 ⟨rfl, B1⟩
      go_wp2
      go_ret2
      exact ⟨by rw [HV.out]; rfl, ((Below.refl _ _).alloc (Nat.le_refl _) _).trans (B1.mono (by simp))⟩
set_option maxHeartbeats 800000 in
theorem iSentenceText_c (s : Sen) (n m0 : Int) (w : World) (hm0 : w.cell? ⟨0, 0, none⟩ = some (.int .i64 m0)) (ht : Tab10 w) :
    Calls Tryd.prog 12 #[s.val, .int .i64 n] w fun e w' => e = .returned (.tuple #[.string (sentV s n).1, .int .i64 (sentV s n).2]) ∧ Below w.heap.size w w' := by
  obtain ⟨k, a, b⟩ := s
  simp only [Sen.val]
  have HM : Hid (∀ W, Below w.heap.size w W → W.cell? ⟨0, 0, none⟩ = some (.int .i64 m0)) := Lib.hid (fun W hW => (hW.cell (World.block_lt_of_cell? _ _ hm0)).trans hm0)
  have HTB := Lib.hid (fun W (hW : Below w.heap.size w W) => ht.below hW)
  have HC := Lib.hid fun W => iValidSentence_c k a b W
  have HV := Lib.hid (show sentV ⟨k, a, b⟩ n = if okS k a b = false then (⟨#[]⟩, 1) else if inB n 1 4 = false then (⟨#[]⟩, 2) else (⟨(Sen.text n.toNat ⟨k, a, b⟩).toArray⟩, 0) from rfl)
  generalize sentV ⟨k, a, b⟩ n = v at *
  have HN := Lib.hid fun W => languageOk_c n W
  clear hm0 ht
  have hB0 : Below w.heap.size w (w.alloc (.cells #[.int .i64 k, .int .i64 a, .int .i64 b] 26)) := (Below.refl _ _).alloc (Nat.le_refl _) _
  have HB0 := Lib.hid hB0
  have HKX := Lib.hid (Blk.new w 26 #[.int .i64 k, .int .i64 a, .int .i64 b])
  have hs0 : (w.alloc (.cells #[.int .i64 k, .int .i64 a, .int .i64 b] 26)).heap.size = w.heap.size + 1 := by simp
  cases ho : okS k a b
  · rw [ho] at HC HV
    clear ho hB0
    go_enter Tryd.func12, Tryd.ntmps12
    go_wp2_with fail
    refine (HC.out _).mono ?_
    rintro e w1 ⟨rfl, B1⟩
    have T1 := Lib.hid (HB0.out.trans (B1.mono (by rw [hs0]; omega)))
    clear B1
    go_wp2
    go_ret2
    exact ⟨by rw [HV.out]; rfl, T1.out⟩
  · rw [ho] at HC HV
    clear hB0
    cases hn : inB n 1 4
    · rw [hn] at HV HN
      clear ho hn
      go_enter Tryd.func12, Tryd.ntmps12
      go_wp2_with fail
      refine (HC.out _).mono ?_
      rintro e w1 ⟨rfl, B1⟩
      have T1 := Lib.hid (HB0.out.trans (B1.mono (by rw [hs0]; omega)))
      clear B1
      go_wp2_with fail
      refine (HN.out _).mono ?_
      rintro e w2 ⟨rfl, rfl⟩
      go_wp2
      go_ret2
      exact ⟨by rw [HV.out]; rfl, T1.out⟩
    · rw [hn] at HV HN
      obtain ⟨l, rfl, hl⟩ := inB_lang hn
      obtain ⟨kn, rfl, h1, h7, ha, hb, _⟩ := okS_num ho
      have HT := Lib.hid fun (W : World) (hW : Below w.heap.size w W) => iText_c kn l a b m0 ⟨h1, h7⟩ hl ha hb W (HM.out W hW) (HTB.out W hW)
      clear ho hn hl h1 h7 ha hb
      go_enter Tryd.func12, Tryd.ntmps12
      go_wp2_with fail
      refine (HC.out _).mono ?_
      rintro e w1 ⟨rfl, B1⟩
      have T1 := Lib.hid (HB0.out.trans (B1.mono (by rw [hs0]; omega)))
      have K1 := HKX.out.below B1 (by rw [hs0]; omega)
      have c0 : w1.cell? ⟨w.heap.size, 0, none⟩ = some (.int .i64 (kn : Int)) := K1.cell 0
      have c1 : w1.cell? ⟨w.heap.size, 1, none⟩ = some (.int .i64 a) := K1.cell 1
      have c2 : w1.cell? ⟨w.heap.size, 2, none⟩ = some (.int .i64 b) := K1.cell 2
      clear B1 K1
      go_wp2_with fail
      refine (HN.out _).mono ?_
      rintro e w2 ⟨rfl, rfl⟩
      go_wp2_with fail
      refine (HT.out _ T1.out).mono ?_
      rintro e w2 ⟨rfl, B2⟩
      go_wp2
      go_ret2
      exact ⟨by rw [HV.out]; rfl, T1.out.trans (B2.mono T1.out.size)⟩
end Go.Proofs.YthbnliepgjjbdaaDoor
