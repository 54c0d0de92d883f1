/- When a field has settled: SettledField by both. -/
import Derived.Test.YtndnjabalofcnaaFiJ
namespace Go.Proofs.Ytndnjabalofcnaa
open Go.ChangeShapes Go.WideShapes Go.ChangeAt Go.RowKit
set_option linter.unusedVariables false

theorem subL_mem {o g : List Int} {M : Int} (ho : ∀ k, 0 ≤ lAt o k ∧ lAt o k ≤ M) (hg : ∀ k, 0 ≤ lAt g k ∧ lAt g k ≤ M) (hl : o.length = g.length) : ∀ z ∈ subL o g, -M ≤ z ∧ z ≤ M := by
  intro z hz
  obtain ⟨i, hi⟩ := List.getElem?_of_mem hz
  rw [subL_get hl] at hi
  split at hi
  · injection hi with hi
    have := ho i; have := hg i
    omega
  · cases hi
theorem any_quiet {limit : Int} {l : List Int} (h : ∀ z ∈ l, -1000000 ≤ z ∧ z ≤ 1000000) : (l.any fun z => decide (limit < absW z)) = !quietB limit l := by
  unfold quietB
  rw [← any_not_all, Bool.not_not]
  induction l with
  | nil => rfl
  | cons z l ih =>
    have hz := h z (List.mem_cons_self ..)
    rw [List.any_cons, List.any_cons, ih (fun y hy => h y (List.mem_cons_of_mem _ hy)), absW_in (by omega) (by omega)]
    congr 1
    rw [Bool.eq_iff_iff]; simp
def maxP (o g : List Int) : Nat → Int
  | 0 => 0
  | k + 1 => max (maxP o g k) (absI (lAt o k - lAt g k))
theorem maxP_bd {o g : List Int} {M : Int} (hM : 0 ≤ M) (ho : ∀ k, 0 ≤ lAt o k ∧ lAt o k ≤ M) (hg : ∀ k, 0 ≤ lAt g k ∧ lAt g k ≤ M) : ∀ k, 0 ≤ maxP o g k ∧ maxP o g k ≤ M
  | 0 => by simp [maxP]; exact hM
  | k + 1 => by
    have ih := maxP_bd hM ho hg k
    have := ho k; have := hg k
    rw [maxP]; unfold absI; omega
theorem maxP_quiet {o g : List Int} {limit : Int} (h0 : 0 ≤ limit) (hl : o.length = g.length) : ∀ k, k ≤ o.length → (maxP o g k ≤ limit ↔ quietB limit ((subL o g).take k) = true)
  | 0, _ => by simp [maxP, quietB, h0]
  | k + 1, hk => by
    have ih := maxP_quiet h0 hl k (by omega)
    rw [maxP, subL_take hl (by omega)]
    unfold quietB at ih ⊢
    rw [List.all_append, Bool.and_eq_true, ← ih]
    simp
    omega
theorem settleF_bad {limit sh : Int} {f : Nat} {k : Int} {g : Fi} (h : allInB 0 1000000 (stepF g 0 sh).hs = false) : settleF limit sh (f + 1) k g = (0, 6) := by rw [settleF, if_pos h]
theorem settleF_at {limit sh : Int} {f : Nat} {k : Int} {g : Fi} (h : allInB 0 1000000 (stepF g 0 sh).hs = true) (hq : quietB limit (subL (stepF g 0 sh).hs g.hs) = true) : settleF limit sh (f + 1) k g = (k, 0) := by rw [settleF, if_neg (by simp [h]), if_pos hq]
theorem settleF_next {limit sh : Int} {f : Nat} {k : Int} {g : Fi} (h : allInB 0 1000000 (stepF g 0 sh).hs = true) (hq : quietB limit (subL (stepF g 0 sh).hs g.hs) = false) : settleF limit sh (f + 1) k g = settleF limit sh f (k + 1) (stepF g 0 sh) := by rw [settleF, if_neg (by simp [h]), if_neg (by simp [hq])]
set_option maxHeartbeats 8000000 in
theorem iSettledField_c (g : Fi) (A : Option Addr) (n c B : Nat) (sh limit : Int) (w : World) (hg : GS w B g A n c) :
    Calls Try.prog 20 #[g.val A n c, .int .i64 sh, .int .i64 limit] w fun e w' => e = .returned (.tuple #[.int .i64 (settledV g sh limit).1, .int .i64 (settledV g sh limit).2]) ∧ Below w.heap.size w w' := by
  have hbig := hg.big
  obtain ⟨X, hX⟩ : ∃ X, X = (w.alloc (.cells (g.cells A n c) 26)).alloc (.cells #[.int .i64 limit] 2) := ⟨_, rfl⟩
  have HT0 : Hid (Below w.heap.size w X) := Lib.hid (by rw [hX]; exact ((Below.refl _ _).alloc (Nat.le_refl _) _).alloc (by simp) _)
  have hs : X.heap.size = w.heap.size + 1 + 1 := by rw [hX]; simp
  have KB0 : Hid (Blk X w.heap.size 26 (g.cells A n c)) := Lib.hid (by rw [hX]; exact (Blk.new _ _ _).alloc _)
  have KL0 : Hid (Blk X (w.heap.size + 1) 2 #[.int .i64 limit]) := Lib.hid (by
    have h := Blk.new (w.alloc (.cells (g.cells A n c) 26)) 2 #[.int .i64 limit]
    rw [hX]; simpa using h)
  have HX := Lib.hid hX
  have HG := Lib.hid hg
  have HLG := Lib.hid hg.len
  have HNE : Hid (∀ ad, A = some ad → 0 < n → ad.block < w.heap.size) := Lib.hid (fun ad he hn => by
    obtain ⟨ad', e, hb, _⟩ := hg.rd.2 hn
    rw [he] at e; injection e with e; subst e
    have := hg.hB; omega)
  have HC := Lib.hid (fieldCode_c g A n c B none 0 0 0 [] sh X (hg.below HT0.out) Reads.none_ (by omega) (by omega))
  rw [fieldV_nil] at HC
  have HV := Lib.hid (show settledV g sh limit = if g.ok = false then (0, 1) else if inB sh 0 1000 = false ∨ inB limit 0 1000000 = false then (0, 2) else settleF limit sh 101 0 g from rfl)
  have HOKB := Lib.hid (Fi.ok_bd (g := g))
  clear hg hX
  generalize settledV g sh limit = wv at *
  cases hgok : g.ok
  · have HVV : Hid (wv = (0, 1)) := Lib.hid (by rw [HV.out, if_pos hgok])
    rw [hgok, if_pos rfl] at HC
    clear HV hgok HOKB
    obtain ⟨r, co, hs'⟩ := g
    simp only [Fi.val, Fi.cells] at HX HC ⊢
    go_enter Try.func20, Try.ntmps20
    go_wp2_with fail
    rw [← HX.out]
    refine HC.out.mono ?_
    rintro e w1 ⟨rfl, B1⟩
    have HT1 := Lib.hid (HT0.out.trans (B1.mono HT0.out.size))
    clear B1
    go_wp2
    go_ret2
    exact ⟨ret2 (by rw [HVV.out]) (by rw [HVV.out]), HT1.out⟩
  · have HFO := Lib.hid (HOKB.out hgok)
    rw [hgok, if_neg (by simp)] at HC
    rw [hgok] at HV
    cases hsh : inB sh 0 1000
    · have HVV : Hid (wv = (0, 2)) := Lib.hid (by rw [HV.out, if_neg (by simp), if_pos (.inl hsh)])
      rw [hsh, if_pos rfl] at HC
      clear HV hgok HOKB hsh
      obtain ⟨r, co, hs'⟩ := g
      simp only [Fi.val, Fi.cells] at HX HC ⊢
      go_enter Try.func20, Try.ntmps20
      go_wp2_with fail
      rw [← HX.out]
      refine HC.out.mono ?_
      rintro e w1 ⟨rfl, B1⟩
      have HT1 := Lib.hid (HT0.out.trans (B1.mono HT0.out.size))
      clear B1
      go_wp2
      go_ret2
      exact ⟨ret2 (by rw [HVV.out]) (by rw [HVV.out]), HT1.out⟩
    · rw [hsh, if_neg (by simp)] at HC
      obtain ⟨h4, h5⟩ := inB_bd hsh
      cases hli : inB limit 0 1000000
      · have HVV : Hid (wv = (0, 2)) := Lib.hid (by rw [HV.out, if_neg (by simp), if_pos (.inr hli)])
        have HLI := Lib.hid hli
        clear HV hgok HOKB hsh hli
        obtain ⟨r, co, hs'⟩ := g
        simp only [Fi.val, Fi.cells] at HX HC ⊢
        go_enter Try.func20, Try.ntmps20
        go_wp2_with fail
        rw [← HX.out]
        refine HC.out.mono ?_
        rintro e w1 ⟨rfl, B1⟩
        have HT1 := Lib.hid (HT0.out.trans (B1.mono HT0.out.size))
        have l0 : w1.cell? ⟨w.heap.size + 1, 0, none⟩ = some (.int .i64 limit) := (KL0.out.below B1 (by omega)).cell 0
        clear B1
        go_wp2_with fail
        refine (within_c _ _ _ _).mono ?_
        rintro e w' ⟨rfl, rfl⟩
        rw [HLI.out]
        go_wp2
        go_ret2
        exact ⟨ret2 (by rw [HVV.out]) (by rw [HVV.out]), HT1.out⟩
      · obtain ⟨i0, i1⟩ := inB_bd hli
        have HVV : Hid (wv = settleF limit sh (101 - 0) (0 : Nat) g) := Lib.hid (by rw [HV.out, if_neg (by simp), if_neg (by simp [hsh, hli])]; rfl)
        have HLI := Lib.hid hli
        have hln := HFO.out.len64
        rw [HLG.out] at hln
        clear HV hgok HOKB hsh hli
        obtain ⟨r, co, hs'⟩ := g
        simp only [Fi.val, Fi.cells] at HX HC KB0 HLG ⊢
        go_enter Try.func20, Try.ntmps20
        go_wp2_with fail
        rw [← HX.out]
        refine HC.out.mono ?_
        rintro e w1 ⟨rfl, B1⟩
        have hs1 := B1.size
        have HT1 := Lib.hid (HT0.out.trans (B1.mono HT0.out.size))
        have KB1 := Lib.hid (KB0.out.below B1 (by omega))
        have KL1 := Lib.hid (KL0.out.below B1 (by omega))
        have HG1 := Lib.hid (HG.out.below HT1.out)
        have l0 : w1.cell? ⟨w.heap.size + 1, 0, none⟩ = some (.int .i64 limit) := KL1.out.cell 0
        have HN1 : Hid (∀ ad, A = some ad → ad.block ≠ w.heap.size) := Lib.hid (fun ad he => by have := HNE.out ad he (by omega); omega)
        clear B1 HX HC HT0 KB0 KL0 HG
        go_wp2_with fail
        refine (within_c _ _ _ _).mono ?_
        rintro e w' ⟨rfl, rfl⟩
        rw [HLI.out]
        clear l0
        go_wp2
        go_loopw [23] (fun i wr => ∃ (k : Nat) (l : List Int) (D : Option Addr) (dd B' : Nat), k ≤ 101 ∧ i = .int .i64 k ∧ Hid (wv = settleF limit sh (101 - k) k ⟨r, co, l⟩) ∧ Hid (FiOk ⟨r, co, l⟩) ∧ Hid (Blk wr w.heap.size 26 #[.int .i64 r, .int .i64 co, .slice D n dd]) ∧ Hid (Blk wr (w.heap.size + 1) 2 #[.int .i64 limit]) ∧ Hid (GS wr B' ⟨r, co, l⟩ D n dd) ∧ Hid (∀ ad, D = some ad → ad.block ≠ w.heap.size) ∧ Hid (Below w.heap.size w wr)) (fun i _ => 101 - (intOf i).toNat)
        case atStart => exact ⟨0, hs', A, c, B, Nat.zero_le _, rfl, HVV, HFO, KB1, KL1, HG1, HN1, HT1⟩
        case round =>
          clear HVV HFO KB1 KL1 HG1 HN1 HT1
          obtain ⟨k, l, D, dd, B', hk, rfl, HVV, HFO, KB, KL, HG, HN, HT⟩ := hrel
          by_cases hlt : k < 101
          · have hbl := KB.out.lt
            have hll := KL.out.lt
            have HLl := Lib.hid HG.out.len
            have b0 : wr.cell? ⟨w.heap.size, 0, none⟩ = some (.int .i64 r) := KB.out.cell 0
            have b1 : wr.cell? ⟨w.heap.size, 1, none⟩ = some (.int .i64 co) := KB.out.cell 1
            have b2 : wr.cell? ⟨w.heap.size, 2, none⟩ = some (.slice D n dd) := KB.out.cell 2
            obtain ⟨Z, hZ⟩ : ∃ Z, Z = wr.alloc (.cells #[.int .i64 0] 2) := ⟨_, rfl⟩
            have BZ : Below wr.heap.size wr Z := by rw [hZ]; exact (Below.refl _ _).alloc (Nat.le_refl _) _
            have hsZ : Z.heap.size = wr.heap.size + 1 := by rw [hZ]; simp
            have HRD : Hid (Reads Z (wr.heap.size + 1) 1 (some ⟨wr.heap.size, 0, none⟩) 1 (ints [0])) := Lib.hid (by rw [hZ]; exact reads_lit1 wr 0)
            have HGz := Lib.hid (HG.out.below BZ)
            have HRN := Lib.hid (run_c ⟨r, co, l⟩ D n dd B' _ 1 1 _ [0] sh Z HGz.out HRD.out (by omega) (by omega) HFO.out (by simp [allInB, inB]) h4 h5)
            rw [runV_one] at HRN
            have hlsf := stepF_len ⟨r, co, l⟩ 0 sh
            have HSF := Lib.hid fun h => stepF_fi HFO.out (d := 0) (sh := sh) h
            obtain ⟨f, hf⟩ : ∃ f, 101 - k = f + 1 := ⟨100 - k, by omega⟩
            have hf2 : 101 - (k + 1) = f := by omega
            rw [hf] at HVV
            have HUB := Lib.hid (settleF_bad (limit := limit) (sh := sh) (f := f) (k := (k : Int)) (g := ⟨r, co, l⟩))
            have HUA := Lib.hid (settleF_at (limit := limit) (sh := sh) (f := f) (k := (k : Int)) (g := ⟨r, co, l⟩))
            have HUN := Lib.hid (settleF_next (limit := limit) (sh := sh) (f := f) (k := (k : Int)) (g := ⟨r, co, l⟩))
            rw [show stepF ⟨r, co, l⟩ 0 sh = ⟨r, co, (stepF ⟨r, co, l⟩ 0 sh).hs⟩ from rfl] at HRN HSF HUN
            rw [← HVV.out] at HUB HUA HUN
            rw [← hf2] at HUN
            have HZE := Lib.hid hZ
            have KBz := Lib.hid (KB.out.below BZ hbl)
            have KLz := Lib.hid (KL.out.below BZ hll)
            have HTz := Lib.hid (HT.out.trans (BZ.mono HT.out.size))
            clear hZ BZ HVV hf hf2 KB KL HG HT
            generalize (stepF ⟨r, co, l⟩ 0 sh).hs = L at *
            simp only at hlsf HUA HUN HLl
            rw [HLl.out] at hlsf
            go_wp2_with fail
            rw [← HZE.out]
            refine HRN.out.mono ?_
            rintro e w2 ⟨E, m, ed, rfl, O2, hm, B2⟩
            have hs2 := B2.size
            have KB2 := Lib.hid (KBz.out.below B2 (by omega))
            have KL2 := Lib.hid (KLz.out.below B2 (by omega))
            have HG2 := Lib.hid (HGz.out.below B2)
            have HT2 := Lib.hid (HTz.out.trans (B2.mono HTz.out.size))
            clear b0 b1 b2 B2 HRN HZE HRD KBz KLz HGz HTz
            cases hall : allInB 0 1000000 L
            · rw [hall] at O2
              simp only [Bool.false_eq_true, if_false, Fi.val, Fi.cells, zeroFi] at O2 ⊢
              have HUU := Lib.hid (HUB.out hall)
              clear hall HUB HUA HUN O2
              go_wp2
              go_ret2
              exact ⟨ret2 (by rw [HUU.out]) (by rw [HUU.out]), HT2.out.alloc (by omega) _⟩
            · rw [hall] at O2
              simp only [if_true, Fi.val, Fi.cells] at O2 ⊢
              have HUA' := Lib.hid (HUA.out hall)
              have HUN' := Lib.hid (HUN.out hall)
              have HFL := Lib.hid (HSF.out hall)
              obtain rfl : m = n := by
                have h1 := O2.reads.len
                rw [hlsf] at h1
                exact h1.symm
              obtain ⟨A', c', e1, hnd, _⟩ := O2.slice
              injection e1 with e1 e2 e3
              have HNN : Hid (∀ ad, E = some ad → ad.block ≠ w.heap.size) := Lib.hid (fun ad he => by
                obtain ⟨g', hg1, hg2, _⟩ := O2.at_ (by omega)
                rw [he] at hg1; injection hg1 with hg1; subst hg1
                show g' ≠ w.heap.size
                omega)
              obtain ⟨W2, hW2⟩ : ∃ W2, W2 = w2.alloc (.cells #[.int .i64 r, .int .i64 co, .slice E m ed] 26) := ⟨_, rfl⟩
              have BW : Below w2.heap.size w2 W2 := by rw [hW2]; exact (Below.refl _ _).alloc (Nat.le_refl _) _
              have hsW : W2.heap.size = w2.heap.size + 1 := by rw [hW2]; simp
              have KO : Hid (Blk W2 w2.heap.size 26 #[.int .i64 r, .int .i64 co, .slice E m ed]) := Lib.hid (by rw [hW2]; exact Blk.new _ _ _)
              have HO : Hid (GS W2 w2.heap.size ⟨r, co, L⟩ E m ed) := Lib.hid ⟨(O2.below BW (Nat.le_refl _)).reads, by omega, by omega, hbig⟩
              have KB3 := Lib.hid (KB2.out.below BW (by omega))
              have KL3 := Lib.hid (KL2.out.below BW (by omega))
              have HG3 := Lib.hid (HG2.out.below BW)
              have HT3 := Lib.hid (HT2.out.trans (BW.mono HT2.out.size))
              have HGN := Lib.hid (gain_c ⟨r, co, l⟩ ⟨r, co, L⟩ D m dd B' E ed w2.heap.size W2 HG3.out HO.out HFO.out HFL.out)
              have HAQ := Lib.hid (any_quiet (limit := limit) (subL_mem (o := L) (g := l) (hs_bd HFL.out) (hs_bd HFO.out) (by rw [hlsf, HLl.out])))
              have HWE := Lib.hid hW2
              clear O2 BW e1 e2 e3 hW2 hall HUB HUA HUN HSF KB2 KL2 HG2 HT2
              go_upto_region 10 with (fail)
              rw [← HWE.out]
              have b0 : W2.cell? ⟨w.heap.size, 0, none⟩ = some (.int .i64 r) := KB3.out.cell 0
              have b1 : W2.cell? ⟨w.heap.size, 1, none⟩ = some (.int .i64 co) := KB3.out.cell 1
              have b2 : W2.cell? ⟨w.heap.size, 2, none⟩ = some (.slice D m dd) := KB3.out.cell 2
              have o0 : W2.cell? ⟨w2.heap.size, 0, none⟩ = some (.int .i64 r) := KO.out.cell 0
              have o1 : W2.cell? ⟨w2.heap.size, 1, none⟩ = some (.int .i64 co) := KO.out.cell 1
              have o2 : W2.cell? ⟨w2.heap.size, 2, none⟩ = some (.slice E m ed) := KO.out.cell 2
              go_wp2_with fail
              refine HGN.out.mono ?_
              rintro e w3 ⟨F, fd, rfl, O3, B3⟩
              have hs3 := B3.size
              have KB4 := Lib.hid (KB3.out.below B3 (by omega))
              have KL4 := Lib.hid (KL3.out.below B3 (by omega))
              have KO4 := Lib.hid (KO.out.below B3 (by omega))
              have HO4 := Lib.hid (HO.out.below B3)
              have HT4 := Lib.hid (HT3.out.trans (B3.mono HT3.out.size))
              have HCF := Lib.hid (containsFuncI_c 54 #[.pointer (some ⟨w.heap.size + 1, 0, none⟩)] (fun z => decide (limit < absW z)) F m fd w3.heap.size (subL L l) w3 (O3.reads) (Nat.le_refl _) (by omega) (settled1_c limit ⟨w.heap.size + 1, 0, none⟩ w3 (KL4.out.cell 0) (by show w.heap.size + 1 < w3.heap.size; omega)))
              rw [HAQ.out] at HCF
              clear B3 b0 b1 b2 o0 o1 o2 O3 HGN HAQ KB3 KL3 KO HO HT3 HG3
              go_wp2_with fail
              refine HCF.out.mono ?_
              rintro e w4 ⟨rfl, B4⟩
              have hs4 := B4.size
              have KB5 := Lib.hid (KB4.out.below B4 (by omega))
              have KL5 := Lib.hid (KL4.out.below B4 (by omega))
              have KO5 := Lib.hid (KO4.out.below B4 (by omega))
              have HO5 := Lib.hid (HO4.out.below B4)
              have HT5 := Lib.hid (HT4.out.trans (B4.mono HT4.out.size))
              clear B4 HCF KB4 KL4 KO4 HO4 HT4
              cases hq : quietB limit (subL L l)
              · have HF := Lib.hid (HUN'.out hq)
                have o0 : w4.cell? ⟨w2.heap.size, 0, none⟩ = some (.int .i64 r) := KO5.out.cell 0
                have o1 : w4.cell? ⟨w2.heap.size, 1, none⟩ = some (.int .i64 co) := KO5.out.cell 1
                have o2 : w4.cell? ⟨w2.heap.size, 2, none⟩ = some (.slice E m ed) := KO5.out.cell 2
                have b0 : w4.cell? ⟨w.heap.size, 0, none⟩ = some (.int .i64 r) := KB5.out.cell 0
                have b1 : w4.cell? ⟨w.heap.size, 1, none⟩ = some (.int .i64 co) := KB5.out.cell 1
                have b2 : w4.cell? ⟨w.heap.size, 2, none⟩ = some (.slice D m dd) := KB5.out.cell 2
                have f0 := KB5.out.frozen 0
                have f1 := KB5.out.frozen 1
                have f2 := KB5.out.frozen 2
                clear hq HUA' HUN'
                go_wp2
                go_roundw
                case rel => exact ⟨k + 1, L, E, ed, w2.heap.size, by omega, by go_num, HF, HFL, Lib.hid (set3_blk KB5.out _ _ _), Lib.hid (set3_far KL5.out (by omega) _ _ _), Lib.hid (HO5.out.setb HNN.out _ _ _), HNN, Lib.hid (set3_below HT5.out (Nat.le_refl _) _ _ _)⟩
                case measure => simp [intOf]; omega
              · have HF := Lib.hid (HUA'.out hq)
                clear hq HUA' HUN'
                go_wp2
                go_ret2
                exact ⟨ret2 (by rw [HF.out]) (by rw [HF.out]), HT5.out⟩
          · obtain rfl : k = 101 := by omega
            have HF : Hid (wv = (0, 3)) := HVV
            go_wp2
            go_ret2
            exact ⟨ret2 (by rw [HF.out]) (by rw [HF.out]), HT.out⟩
theorem l04Abs_c (n : Int) (w : World) (h0 : -4611686018427387904 ≤ n) (h1 : n ≤ 4611686018427387904) :
    Calls Try.prog 51 #[.int .i64 n] w fun e w' => e = .returned (.int .i64 (absI n)) ∧ w = w' := by
  go_enter Try.func51, Try.ntmps51
  go_wp2_with (go_at_call 50; refine (l00Max_c _ _ _).mono ?_; rintro e w' ⟨rfl, rfl⟩)
  go_ret
  exact ⟨ret_int (by unfold absI; omega), rfl⟩
end Go.Proofs.Ytndnjabalofcnaa
