/- What cells gain: gain, DriftGain by both. -/
import Derived.Test.YtndnjabalofcnaaFiF
namespace Go.Proofs.Ytndnjabalofcnaa
open Go.ChangeShapes Go.WideShapes Go.ChangeAt Go.RowKit
set_option linter.unusedVariables false

def subL (o g : List Int) : List Int := List.zipWith (· - ·) o g
def gainP (o g : List Int) : Nat → List Int
  | 0 => o
  | k + 1 => (gainP o g k).set k (lAt o k - lAt g k)
theorem gainP_len (o g : List Int) : ∀ k, (gainP o g k).length = o.length
  | 0 => rfl
  | k + 1 => by rw [gainP, List.length_set, gainP_len o g k]
theorem gainP_get (o g : List Int) (i : Nat) : ∀ k, (gainP o g k)[i]? = if i < k ∧ i < o.length then some (lAt o i - lAt g i) else o[i]?
  | 0 => by simp [gainP]
  | k + 1 => by
    rw [gainP, List.getElem?_set, gainP_len, gainP_get o g i k]
    by_cases h : k = i
    · subst h
      by_cases h2 : k < o.length
      · simp [h2]
      · simp [h2] <;> omega
    · rw [if_neg h]
      by_cases h2 : i < k
      · simp [h2, show i < k + 1 by omega]
      · simp [h2, show ¬ i < k + 1 by omega]
theorem gainP_at (o g : List Int) (k : Nat) : lAt (gainP o g k) k = lAt o k := by
  unfold lAt
  rw [gainP_get, if_neg (by omega)]
theorem subL_get {o g : List Int} (hl : o.length = g.length) (i : Nat) : (subL o g)[i]? = if i < o.length then some (lAt o i - lAt g i) else none := by
  unfold subL lAt
  rw [List.getElem?_zipWith]
  by_cases h : i < o.length
  · rw [if_pos h, List.getElem?_eq_getElem h, List.getElem?_eq_getElem (by omega : i < g.length)]; rfl
  · rw [if_neg h, List.getElem?_eq_none (by omega)]
theorem gainP_all {o g : List Int} (hl : o.length = g.length) : gainP o g o.length = subL o g := by
  apply List.ext_getElem?
  intro i
  rw [gainP_get, subL_get hl]
  by_cases h : i < o.length
  · rw [if_pos ⟨h, h⟩, if_pos h]
  · rw [if_neg (by omega), if_neg h, List.getElem?_eq_none (by omega)]
theorem subL_len {o g : List Int} (hl : o.length = g.length) : (subL o g).length = o.length := by simp [subL, hl]
theorem subL_take {o g : List Int} (hl : o.length = g.length) {k : Nat} (hk : k < o.length) : (subL o g).take (k + 1) = (subL o g).take k ++ [lAt o k - lAt g k] := by
  rw [List.take_add_one, subL_get hl, if_pos hk]; rfl
theorem subL_at {o g : List Int} (hl : o.length = g.length) {k : Nat} (hk : k < o.length) : lAt (subL o g) k = lAt o k - lAt g k := by
  rw [lAt, subL_get hl, if_pos hk]; rfl
theorem runV_ok {sh : Int} : ∀ (ds : List Int) (g : Fi), FiOk g → (runV sh ds g).2 = 0 → FiOk (runV sh ds g).1 ∧ (runV sh ds g).1.rows = g.rows ∧ (runV sh ds g).1.cols = g.cols ∧ (runV sh ds g).1.hs.length = g.hs.length
  | [], g, hg, _ => ⟨hg, rfl, rfl, rfl⟩
  | d :: r, g, hg, h => by
    rw [runV] at h ⊢
    by_cases ha : allInB 0 1000000 (stepF g d sh).hs = true
    · rw [if_pos ha] at h ⊢
      have ih := runV_ok r (stepF g d sh) (stepF_fi hg ha) h
      rw [stepF_len] at ih
      exact ih
    · rw [if_neg ha] at h; simp at h
theorem runV_err {sh : Int} : ∀ (ds : List Int) (g : Fi), (runV sh ds g).2 ≠ 0 → runV sh ds g = (zeroFi, 6)
  | [], g, h => by simp [runV] at h
  | d :: r, g, h => by
    rw [runV] at h ⊢
    by_cases ha : allInB 0 1000000 (stepF g d sh).hs = true
    · rw [if_pos ha] at h ⊢
      exact runV_err r _ h
    · rw [if_neg ha]
theorem driftV_zero {g : Fi} {ds : List Int} {sh : Int} (h : (driftV g ds sh).2 = 0) : FiOk g ∧ FiOk (driftV g ds sh).1 ∧ (driftV g ds sh).1.hs.length = g.hs.length := by
  unfold driftV at h ⊢
  by_cases hf : fieldV g ds sh ≠ 0
  · rw [if_pos hf] at h; exact absurd h hf
  · rw [if_neg hf] at h ⊢
    have hok := Fi.ok_bd (fieldV_zero (by simpa using hf)).1
    obtain ⟨h1, _, _, h4⟩ := runV_ok ds g hok h
    exact ⟨hok, h1, h4⟩
def gainV (g : Fi) (ds : List Int) (sh : Int) : List Int × Int := if (driftV g ds sh).2 ≠ 0 then ([], (driftV g ds sh).2) else (subL (driftV g ds sh).1.hs g.hs, 0)
def SlPost (l : List Int) (k : Int) (w : World) (e : Ending) (w' : World) : Prop :=
  ∃ A n c, e = .returned (.tuple #[.slice A n c, .int .i64 k]) ∧ Own w' w.heap.size w'.heap.size 2 1 (.slice A n c) n (ints l) ∧ n ≤ 1048576 ∧ Below w.heap.size w w'
theorem SlPost.err {w w' : World} {e : Ending} {l : List Int} {k k' : Int} (hl : l = []) (hk : k = k') (he : e = .returned (.tuple #[.slice none 0 0, .int .i64 k'])) (hb : Below w.heap.size w w') : SlPost l k w e w' :=
  ⟨none, 0, 0, by rw [hk, he], by rw [hl]; exact Own.nil, by omega, hb⟩
set_option maxHeartbeats 4000000 in
theorem gain_c (g o : Fi) (A : Option Addr) (n c B : Nat) (D : Option Addr) (d BD : Nat) (w : World) (hg : GS w B g A n c) (ho : GS w BD o D n d) (hok : FiOk g) (hoo : FiOk o) :
    Calls Try.prog 48 #[g.val A n c, o.val D n d] w fun e w' => ∃ E dd, e = .returned (.slice E n dd) ∧ Own w' w.heap.size w'.heap.size 2 1 (.slice E n dd) n (ints (subL o.hs g.hs)) ∧ Below w.heap.size w w' := by
  have HLG := Lib.hid hg.len
  have HLO := Lib.hid ho.len
  have hbig := hg.big
  have hln := hok.len64
  have HBG := Lib.hid (hs_bd hok)
  have HBO := Lib.hid (hs_bd hoo)
  obtain ⟨adD, rfl⟩ : ∃ ad, D = some ad := by
    obtain ⟨ad, z, e1, e2, _⟩ := ho.rd.int (k := 0) (by have := hg.len; omega)
    exact ⟨ad, e1⟩
  have HG := Lib.hid hg
  have HO := Lib.hid ho
  obtain ⟨X, hX⟩ : ∃ X, X = (w.alloc (.cells (g.cells A n c) 26)).alloc (.cells (o.cells (some adD) n d) 26) := ⟨_, rfl⟩
  have hs : X.heap.size = w.heap.size + 1 + 1 := by rw [hX]; simp
  have HT : Hid (Below w.heap.size w X) := Lib.hid (by rw [hX]; exact ((Below.refl _ _).alloc (Nat.le_refl _) _).alloc (by simp) _)
  have KB : Hid (Blk X w.heap.size 26 (g.cells A n c)) := Lib.hid (by rw [hX]; exact (Blk.new _ _ _).alloc _)
  have HX := Lib.hid hX
  have HSC := Lib.hid (sclone_c adD n d BD o.hs X (ho.below HT.out).rd (ho.below HT.out).hB hbig)
  rw [HLG.out] at hln
  clear hg ho hok hoo hX
  obtain ⟨r, co, gs⟩ := g
  obtain ⟨r', co', os⟩ := o
  simp only [Fi.val, Fi.cells] at HX KB HSC HLG HLO HBG HBO ⊢
  go_enter Try.func48, Try.ntmps48
  go_wp2_with fail
  rw [← HX.out]
  refine HSC.out.mono ?_
  rintro e w1 ⟨E, dd, rfl, O1, B1⟩
  have hs1 := B1.size
  have HT1 := Lib.hid (HT.out.trans (B1.mono HT.out.size))
  have KB1 := Lib.hid (KB.out.below B1 (by omega))
  obtain ⟨gb, rfl, hg1, hg2, hg3⟩ := O1.at_ (by omega)
  have HO1 : Hid (Own w1 X.heap.size w1.heap.size 2 1 (.slice (some ⟨gb, 0, none⟩) n dd) n (ints (gainP os gs 0))) := Lib.hid O1
  have b2 : w1.cell? ⟨w.heap.size, 2, none⟩ = some (.slice A n c) := KB1.out.cell 2
  clear O1 B1 KB HSC HX HT
  obtain ⟨hi, hhi⟩ : ∃ hi, hi = w1.heap.size := ⟨_, rfl⟩
  rw [← hhi] at HO1
  have hh1 : hi ≤ w1.heap.size := by omega
  go_wp2
  clear b2 KB1
  go_loopw [14] (fun i wr => ∃ k : Nat, k ≤ n ∧ i = .int .i64 k ∧ Hid (Below w.heap.size w wr) ∧ Hid (Own wr X.heap.size hi 2 1 (.slice (some ⟨gb, 0, none⟩) n dd) n (ints (gainP os gs k))) ∧ hi ≤ wr.heap.size) (fun i _ => n - (intOf i).toNat)
  case atStart => exact ⟨0, Nat.zero_le _, rfl, HT1, HO1, hh1⟩
  case round =>
    clear HT1 HO1 hh1
    obtain ⟨k, hk, rfl, HT, HOW, hh⟩ := hrel
    by_cases hlt : k < n
    · obtain ⟨ad, z, rfl, _, hz, hc⟩ := (HG.out.below HT.out).rd.int hlt
      have hzl := lAt_get hz
      have hzb := HBG.out k
      have hob := HBO.out k
      have HP := Lib.hid (show gainP os gs (k + 1) = (gainP os gs k).set k (lAt os k - lAt gs k) from rfl)
      simp only at hzl hzb
      rw [hzl] at hzb HP
      have a0 : wr.cell? ⟨gb, k, none⟩ = some (.int .i64 (lAt os k)) := by have h := HOW.out.cellI hlt; rwa [gainP_at] at h
      have f0 : wr.frozen? ⟨gb, k, none⟩ = false := HOW.out.1.frozenAt k
      have hkn : (k : Int) < (n : Int) := by omega
      clear hz hzl
      generalize lAt os k = p at *
      go_wp2
      go_roundw
      case rel =>
        have hst := (HOW.out.stored (j := k) (.int .i64 (p - z))).1
        rw [show (ints (gainP os gs k)).set k (.int .i64 (p - z)) = ints (gainP os gs (k + 1)) from by rw [HP.out]; simp [ints, List.map_set]] at hst
        exact ⟨k + 1, by omega, by go_num, Lib.hid (HT.out.setCell (p := ⟨gb, k, none⟩) (by show w.heap.size ≤ gb; omega) _), Lib.hid hst, by simpa using hh⟩
      case measure => simp [intOf]; omega
    · obtain rfl : k = n := by omega
      go_wp2
      go_ret
      refine ⟨_, dd, rfl, ?_, HT.out⟩
      have h := HOW.out
      rw [show gainP os gs k = subL os gs from by have e := gainP_all (o := os) (g := gs) (by rw [HLO.out, HLG.out]); rwa [HLO.out] at e] at h
      exact h.widen (by omega) hh
set_option maxHeartbeats 4000000 in
theorem iDriftGain_c (g : Fi) (A : Option Addr) (n c B : Nat) (E : Option Addr) (m ec BE : Nat) (ds : List Int) (sh : Int) (w : World) (hg : GS w B g A n c) (he : Reads w BE 1 E m (ints ds)) (hE : BE ≤ w.heap.size) (hm : m ≤ 1048576) :
    Calls Try.prog 27 #[g.val A n c, .slice E m ec, .int .i64 sh] w (SlPost (gainV g ds sh).1 (gainV g ds sh).2 w) := by
  have hbig := hg.big
  obtain ⟨X, hX⟩ : ∃ X, X = w.alloc (.cells (g.cells A n c) 26) := ⟨_, rfl⟩
  have HT : Hid (Below w.heap.size w X) := Lib.hid (by rw [hX]; exact (Below.refl _ _).alloc (Nat.le_refl _) _)
  have hs : X.heap.size = w.heap.size + 1 := by rw [hX]; simp
  have KB : Hid (Blk X w.heap.size 26 (g.cells A n c)) := Lib.hid (by rw [hX]; exact Blk.new _ _ _)
  have HX := Lib.hid hX
  have HG := Lib.hid hg
  have HLG := Lib.hid hg.len
  have HC := Lib.hid (fieldCode_c g A n c B E m ec BE ds sh X (hg.below HT.out) (he.below (HT.out.mono hE)) (by have := HT.out.size; omega) hm)
  have HR := Lib.hid fun W (hW : Below w.heap.size w W) (h : fieldV g ds sh = 0) => run_c g A n c B E m ec BE ds sh W (hg.below hW) (he.below (hW.mono hE)) (by have := hW.size; omega) hm (Fi.ok_bd (fieldV_zero h).1) (fieldV_zero h).2.2.1 (fieldV_zero h).2.2.2.1 (fieldV_zero h).2.2.2.2
  have HD := Lib.hid (show driftV g ds sh = if fieldV g ds sh ≠ 0 then (zeroFi, fieldV g ds sh) else runV sh ds g from rfl)
  have HV := Lib.hid (show gainV g ds sh = if (driftV g ds sh).2 ≠ 0 then ([], (driftV g ds sh).2) else (subL (driftV g ds sh).1.hs g.hs, 0) from rfl)
  have HZ := Lib.hid (driftV_zero (g := g) (ds := ds) (sh := sh))
  clear hg he hX
  generalize fieldV g ds sh = fc at *
  generalize gainV g ds sh = gv at *
  generalize driftV g ds sh = dv at *
  obtain ⟨r, co, hs'⟩ := g
  simp only [Fi.val, Fi.cells] at HX KB HC HR HLG ⊢
  go_enter Try.func27, Try.ntmps27
  go_wp2_with fail
  rw [← HX.out]
  refine HC.out.mono ?_
  rintro e w1 ⟨rfl, B1⟩
  have hs1 := B1.size
  have HT1 := Lib.hid (HT.out.trans (B1.mono HT.out.size))
  have KB1 := Lib.hid (KB.out.below B1 (by omega))
  have b0 : w1.cell? ⟨w.heap.size, 0, none⟩ = some (.int .i64 r) := KB1.out.cell 0
  have b1 : w1.cell? ⟨w.heap.size, 1, none⟩ = some (.int .i64 co) := KB1.out.cell 1
  have b2 : w1.cell? ⟨w.heap.size, 2, none⟩ = some (.slice A n c) := KB1.out.cell 2
  clear B1 KB HC HX HT
  by_cases hfc : fc = 0
  · subst hfc
    have HDD : Hid (dv = runV sh ds ⟨r, co, hs'⟩) := Lib.hid (by rw [HD.out, if_neg (by simp)])
    go_wp2_with fail
    refine (HR.out w1 HT1.out trivial).mono ?_
    rintro e w2 ⟨D, k, dd, rfl, O2, hk, B2⟩
    rw [← HDD.out] at O2 ⊢
    clear HD HDD HR
    obtain ⟨⟨r', co', os⟩, code⟩ := dv
    simp only [Fi.val, Fi.cells] at O2 HV HZ ⊢
    have hs2 := B2.size
    have HT2 := Lib.hid (HT1.out.trans (B2.mono HT1.out.size))
    have KB2 := Lib.hid (KB1.out.below B2 (by omega))
    clear b0 b1 b2 B2
    by_cases hcode : code = 0
    · subst hcode
      have hz := HZ.out rfl
      have HGV : Hid (gv = (subL os hs', 0)) := Lib.hid (by rw [HV.out, if_neg (by simp)])
      obtain rfl : k = n := by
        have h1 := O2.reads.len
        have h2 := hz.2.2
        rw [HLG.out, h1] at h2
        exact h2
      obtain ⟨A', c', e1, hnd, _⟩ := O2.slice
      injection e1 with e1 e2 e3
      obtain ⟨W2, hW2⟩ : ∃ W2, W2 = w2.alloc (.cells #[.int .i64 r', .int .i64 co', .slice D k dd] 26) := ⟨_, rfl⟩
      have BW : Below w2.heap.size w2 W2 := by rw [hW2]; exact (Below.refl _ _).alloc (Nat.le_refl _) _
      have hsW : W2.heap.size = w2.heap.size + 1 := by rw [hW2]; simp
      have KO : Hid (Blk W2 w2.heap.size 26 #[.int .i64 r', .int .i64 co', .slice D k dd]) := Lib.hid (by rw [hW2]; exact Blk.new _ _ _)
      have HO : Hid (GS W2 w2.heap.size ⟨r', co', os⟩ D k dd) := Lib.hid ⟨(O2.below BW (Nat.le_refl _)).reads, by omega, by omega, hbig⟩
      have HT3 := Lib.hid (HT2.out.trans (BW.mono HT2.out.size))
      have KB3 := Lib.hid (KB2.out.below BW (by omega))
      have HGN := Lib.hid (gain_c ⟨r, co, hs'⟩ ⟨r', co', os⟩ A k c B D dd w2.heap.size W2 (HG.out.below HT3.out) HO.out hz.1 hz.2.1)
      have HWE := Lib.hid hW2
      clear O2 BW e1 e2 e3 hW2 hz KB2 HT2
      go_upto_region 5 with (fail)
      rw [← HWE.out]
      have b0 : W2.cell? ⟨w.heap.size, 0, none⟩ = some (.int .i64 r) := KB3.out.cell 0
      have b1 : W2.cell? ⟨w.heap.size, 1, none⟩ = some (.int .i64 co) := KB3.out.cell 1
      have b2 : W2.cell? ⟨w.heap.size, 2, none⟩ = some (.slice A k c) := KB3.out.cell 2
      have o0 : W2.cell? ⟨w2.heap.size, 0, none⟩ = some (.int .i64 r') := KO.out.cell 0
      have o1 : W2.cell? ⟨w2.heap.size, 1, none⟩ = some (.int .i64 co') := KO.out.cell 1
      have o2 : W2.cell? ⟨w2.heap.size, 2, none⟩ = some (.slice D k dd) := KO.out.cell 2
      go_wp2_with fail
      refine HGN.out.mono ?_
      rintro e w3 ⟨E', ed, rfl, O3, B3⟩
      have HO3 := Lib.hid O3
      have HB3 := Lib.hid B3
      clear O3 B3 b0 b1 b2 o0 o1 o2
      go_wp2
      go_ret2
      exact ⟨E', k, ed, by rw [HGV.out]; rfl, by rw [HGV.out]; exact HO3.out.widen (by omega) (Nat.le_refl _), hbig, HT3.out.trans (HB3.out.mono HT3.out.size)⟩
    · have hne : (code != 0) = true := by simpa using hcode
      have HGV : Hid (gv = ([], code)) := Lib.hid (by rw [HV.out, if_pos hcode])
      clear hcode
      go_wp2
      go_ret2
      exact SlPost.err (by rw [HGV.out]) (by rw [HGV.out]) rfl (HT2.out.alloc (by omega) _)
  · have hne : (fc != 0) = true := by simpa using hfc
    have HGV : Hid (gv = ([], fc)) := Lib.hid (by rw [HV.out, HD.out, if_pos hfc]; exact if_pos hfc)
    clear b0 b1 b2 hfc
    go_wp2
    go_ret2
    exact SlPost.err (by rw [HGV.out]) (by rw [HGV.out]) rfl HT1.out
end Go.Proofs.Ytndnjabalofcnaa
