/- The run of a field by the reference (l06Run); DriftRun and DriftStep by both. -/
import Derived.Test.YtndnjabalofcnaaFiD
namespace Go.Proofs.Ytndnjabalofcnaa
open Go.ChangeShapes Go.WideShapes Go.ChangeAt Go.RowKit
set_option linter.unusedVariables false

def driftV (g : Fi) (ds : List Int) (sh : Int) : Fi × Int := if fieldV g ds sh ≠ 0 then (zeroFi, fieldV g ds sh) else runV sh ds g
theorem driftV_bad {g : Fi} {ds : List Int} {sh : Int} (h : g.ok = false) : driftV g ds sh = (zeroFi, 1) := by
  have e : fieldV g ds sh = 1 := by rw [fieldV, if_pos h]
  rw [driftV, e]; rfl
theorem driftV_range {g : Fi} {ds : List Int} {sh : Int} (h : g.ok = true) (h2 : gustB ds sh = false) : driftV g ds sh = (zeroFi, 2) := by
  have e : fieldV g ds sh = 2 := by rw [fieldV, h, h2]; rfl
  rw [driftV, e]; rfl
theorem driftV_run {g : Fi} {ds : List Int} {sh : Int} (h : g.ok = true) (h2 : gustB ds sh = true) : driftV g ds sh = runV sh ds g := by
  have e : fieldV g ds sh = 0 := by rw [fieldV, h, h2]; rfl
  rw [driftV, e]; rfl
theorem l06Wind_c (z : Int) (w : World) : Calls Try.prog 40 #[.int .i64 z] w fun e w' => e = .returned (.bool (inB z 0 3)) ∧ w = w' := by
  go_enter Try.func40, Try.ntmps40
  go_wp2_with (go_at_call 44; refine (l00In_c _ _ _ _).mono ?_; rintro e w' ⟨rfl, rfl⟩)
  go_ret
  exact ⟨rfl, rfl⟩
theorem l06Share_c (z : Int) (w : World) : Calls Try.prog 41 #[.int .i64 z] w fun e w' => e = .returned (.bool (inB z 0 1000)) ∧ w = w' := by
  go_enter Try.func41, Try.ntmps41
  go_wp2_with (go_at_call 44; refine (l00In_c _ _ _ _).mono ?_; rintro e w' ⟨rfl, rfl⟩)
  go_ret
  exact ⟨rfl, rfl⟩
set_option maxHeartbeats 4000000 in
theorem iDriftRun_c (g : Fi) (A : Option Addr) (n c B : Nat) (E : Option Addr) (m ec BE : Nat) (ds : List Int) (sh : Int) (w : World) (hg : GS w B g A n c) (he : Reads w BE 1 E m (ints ds)) (hE : BE ≤ w.heap.size) (hm : m ≤ 1048576) :
    Calls Try.prog 23 #[g.val A n c, .slice E m ec, .int .i64 sh] w (FiPost (driftV g ds sh) w) := by
  obtain ⟨Y, hY⟩ : ∃ Y, Y = w.alloc (.cells (g.cells A n c) 26) := ⟨_, rfl⟩
  have HWY : Hid (Below w.heap.size w Y) := Lib.hid (by rw [hY]; exact (Below.refl _ _).alloc (Nat.le_refl _) _)
  have hsY : Y.heap.size = w.heap.size + 1 := by rw [hY]; simp
  obtain ⟨X, hX⟩ : ∃ X, X = Y.alloc (.cells #[.int .i64 0, .int .i64 0, .slice none 0 0] 26) := ⟨_, rfl⟩
  have HX := Lib.hid (show X = (w.alloc (.cells (g.cells A n c) 26)).alloc (.cells #[.int .i64 0, .int .i64 0, .slice none 0 0] 26) by rw [hX, hY])
  have HT : Hid (Below w.heap.size w X) := Lib.hid (HWY.out.trans (by rw [hX]; exact (Below.refl _ _).alloc (by omega) _))
  have hs : X.heap.size = w.heap.size + 1 + 1 := by rw [hX]; simp [hsY]
  have KB : Hid (Blk X w.heap.size 26 (g.cells A n c)) := Lib.hid (by rw [hX, hY]; exact (Blk.new _ _ _).alloc _)
  have KZ : Hid (Blk X (w.heap.size + 1) 26 #[.int .i64 0, .int .i64 0, .slice none 0 0]) := Lib.hid (by rw [hX, ← hsY]; exact Blk.new _ _ _)
  have HC := Lib.hid (fieldCode_c g A n c B E m ec BE ds sh X (hg.below HT.out) (he.below (HT.out.mono hE)) (by have := HT.out.size; omega) hm)
  have HR := Lib.hid fun W (hW : Below w.heap.size w W) (h : fieldV g ds sh = 0) => run_c g A n c B E m ec BE ds sh W (hg.below hW) (he.below (hW.mono hE)) (by have := hW.size; omega) hm (Fi.ok_bd (fieldV_zero h).1) (fieldV_zero h).2.2.1 (fieldV_zero h).2.2.2.1 (fieldV_zero h).2.2.2.2
  have HV := Lib.hid (show driftV g ds sh = if fieldV g ds sh ≠ 0 then (zeroFi, fieldV g ds sh) else runV sh ds g from rfl)
  clear hg he hX hY hsY
  generalize fieldV g ds sh = fc at *
  obtain ⟨r, co, hs'⟩ := g
  simp only [Fi.val, Fi.cells] at *
  go_enter Try.func23, Try.ntmps23
  go_wp2_with fail
  rw [← HX.out]
  refine HC.out.mono ?_
  rintro e w1 ⟨rfl, B1⟩
  have hs1 := B1.size
  have HT1 := Lib.hid (HT.out.trans (B1.mono HT.out.size))
  have KB1 := Lib.hid (KB.out.below B1 (by omega))
  have KZ1 := Lib.hid (KZ.out.below B1 (by omega))
  have b0 : w1.cell? ⟨w.heap.size, 0, none⟩ = some (.int .i64 r) := KB1.out.cell 0
  have b1 : w1.cell? ⟨w.heap.size, 1, none⟩ = some (.int .i64 co) := KB1.out.cell 1
  have b2 : w1.cell? ⟨w.heap.size, 2, none⟩ = some (.slice A n c) := KB1.out.cell 2
  clear B1 KB KZ HC HX HT
  by_cases hfc : fc = 0
  · subst hfc
    go_wp2_with fail
    refine (HR.out w1 HT1.out trivial).mono ?_
    rintro e w2 ⟨D, k, dd, rfl, O2, hk, B2⟩
    have KZ2 := Lib.hid (KZ1.out.below B2 (by omega))
    have HT2 := Lib.hid (HT1.out.trans (B2.mono HT1.out.size))
    have z0 : w2.cell? ⟨w.heap.size + 1, 0, none⟩ = some (.int .i64 0) := KZ2.out.cell 0
    have z1 : w2.cell? ⟨w.heap.size + 1, 1, none⟩ = some (.int .i64 0) := KZ2.out.cell 1
    have z2 : w2.cell? ⟨w.heap.size + 1, 2, none⟩ = some (.slice none 0 0) := KZ2.out.cell 2
    have s0 := KZ2.out.frozen 0
    have s1 := KZ2.out.frozen 1
    have s2 := KZ2.out.frozen 2
    have HO := Lib.hid O2
    have HVV : Hid (driftV ⟨r, co, hs'⟩ ds sh = runV sh ds ⟨r, co, hs'⟩) := Lib.hid (by rw [HV.out, if_neg (by simp)])
    clear b0 b1 b2 O2 B2 HV
    generalize runV sh ds ⟨r, co, hs'⟩ = rv at *
    obtain ⟨⟨r', co', l'⟩, code⟩ := rv
    simp only [Fi.val, Fi.cells] at *
    go_wp2
    refine bodyPost_ret (v := .tuple #[.agg #[.int .i64 r', .int .i64 co', .slice D k dd], .int .i64 code]) (by simp [results, Try.results23, go_sem, z0, z1, z2]) rfl ?_
    exact ⟨D, k, dd, by rw [HVV.out]; rfl, by rw [HVV.out]; exact (set3_own HO.out (.inl (by omega)) _ _ _).widen (by omega) (by simp), hk, set3_below HT2.out (by omega) _ _ _⟩
  · have hne : (fc != 0) = true := by simpa using hfc
    have HVV : Hid (driftV ⟨r, co, hs'⟩ ds sh = (zeroFi, fc)) := Lib.hid (by rw [HV.out, if_pos hfc])
    have z0 : w1.cell? ⟨w.heap.size + 1, 0, none⟩ = some (.int .i64 0) := KZ1.out.cell 0
    have z1 : w1.cell? ⟨w.heap.size + 1, 1, none⟩ = some (.int .i64 0) := KZ1.out.cell 1
    have z2 : w1.cell? ⟨w.heap.size + 1, 2, none⟩ = some (.slice none 0 0) := KZ1.out.cell 2
    have s0 := KZ1.out.frozen 0
    have s1 := KZ1.out.frozen 1
    have s2 := KZ1.out.frozen 2
    clear b0 b1 b2 hfc
    go_wp2
    refine bodyPost_ret (v := .tuple #[.agg #[.int .i64 0, .int .i64 0, .slice none 0 0], .int .i64 fc]) (by simp [results, Try.results23, go_sem, z0, z1, z2]) rfl ?_
    exact FiPost.err HVV.out rfl (set3_below HT1.out (by omega) _ _ _)
theorem reads_lit1 (w : World) (v : Int) : Reads (w.alloc (.cells #[.int .i64 v] 2)) (w.heap.size + 1) 1 (some ⟨w.heap.size, 0, none⟩) 1 (ints [v]) := by
  refine ⟨rfl, fun _ => ⟨_, rfl, by simp, fun j u hu => ?_⟩⟩
  match j with
  | 0 =>
    simp [ints] at hu
    subst hu
    exact (Blk.new w 2 #[.int .i64 v]).cell 0
  | j + 1 => simp [ints] at hu
set_option maxHeartbeats 4000000 in
theorem iDriftStep_c (g : Fi) (A : Option Addr) (n c B : Nat) (d sh : Int) (w : World) (hg : GS w B g A n c) :
    Calls Try.prog 13 #[g.val A n c, .int .i64 d, .int .i64 sh] w (FiPost (driftV g [d] sh) w) := by
  obtain ⟨Y, hY⟩ : ∃ Y, Y = w.alloc (.cells (g.cells A n c) 26) := ⟨_, rfl⟩
  have HWY : Hid (Below w.heap.size w Y) := Lib.hid (by rw [hY]; exact (Below.refl _ _).alloc (Nat.le_refl _) _)
  have hsY : Y.heap.size = w.heap.size + 1 := by rw [hY]; simp
  obtain ⟨X, hX⟩ : ∃ X, X = Y.alloc (.cells #[.int .i64 0, .int .i64 0, .slice none 0 0] 26) := ⟨_, rfl⟩
  have hs : X.heap.size = w.heap.size + 1 + 1 := by rw [hX]; simp [hsY]
  obtain ⟨Z, hZ⟩ : ∃ Z, Z = X.alloc (.cells #[.int .i64 d] 2) := ⟨_, rfl⟩
  have hsZ : Z.heap.size = w.heap.size + 1 + 1 + 1 := by rw [hZ]; simp [hs]
  have HX := Lib.hid (show Z = ((w.alloc (.cells (g.cells A n c) 26)).alloc (.cells #[.int .i64 0, .int .i64 0, .slice none 0 0] 26)).alloc (.cells #[.int .i64 d] 2) by rw [hZ, hX, hY])
  have HT : Hid (Below w.heap.size w Z) := Lib.hid (by rw [hZ, hX]; exact ((HWY.out.alloc (by omega) _).alloc (by simp; omega) _))
  have KZ : Hid (Blk Z (w.heap.size + 1) 26 #[.int .i64 0, .int .i64 0, .slice none 0 0]) := Lib.hid (by rw [hZ, hX, ← hsY]; exact (Blk.new _ _ _).alloc _)
  have HRD : Hid (Reads Z (w.heap.size + 1 + 1 + 1) 1 (some ⟨w.heap.size + 1 + 1, 0, none⟩) 1 (ints [d])) := Lib.hid (by have h := reads_lit1 X d; rw [← hZ, hs] at h; exact h)
  have HR := Lib.hid (iDriftRun_c g A n c B _ 1 1 _ [d] sh Z (hg.below HT.out) HRD.out (by omega) (by omega))
  clear hg hX hY hZ hsY
  generalize driftV g [d] sh = rv at *
  obtain ⟨r, co, hs'⟩ := g
  obtain ⟨⟨r', co', l'⟩, code⟩ := rv
  simp only [Fi.val, Fi.cells] at *
  go_enter Try.func13, Try.ntmps13
  go_wp2_with fail
  rw [← HX.out]
  refine HR.out.mono ?_
  rintro e w2 ⟨D, k, dd, rfl, O2, hk, B2⟩
  have KZ2 := Lib.hid (KZ.out.below B2 (by omega))
  have HT2 := Lib.hid (HT.out.trans (B2.mono HT.out.size))
  have z0 : w2.cell? ⟨w.heap.size + 1, 0, none⟩ = some (.int .i64 0) := KZ2.out.cell 0
  have z1 : w2.cell? ⟨w.heap.size + 1, 1, none⟩ = some (.int .i64 0) := KZ2.out.cell 1
  have z2 : w2.cell? ⟨w.heap.size + 1, 2, none⟩ = some (.slice none 0 0) := KZ2.out.cell 2
  have s0 := KZ2.out.frozen 0
  have s1 := KZ2.out.frozen 1
  have s2 := KZ2.out.frozen 2
  have HO := Lib.hid O2
  clear O2 B2
  simp only [Fi.val, Fi.cells] at *
  go_wp2
  refine bodyPost_ret (v := .tuple #[.agg #[.int .i64 r', .int .i64 co', .slice D k dd], .int .i64 code]) (by simp [results, Try.results13, go_sem, z0, z1, z2]) rfl ?_
  exact ⟨D, k, dd, rfl, (set3_own HO.out (.inl (by omega)) _ _ _).widen (by omega) (by simp), hk, set3_below HT2.out (by omega) _ _ _⟩
theorem l06Ok_x (g : Fi) (b : Nat) (A : Option Addr) (n c B : Nat) (w : World) (hg : GP w b B g A n c) :
    Calls Try.prog 39 #[.pointer (some ⟨b, 0, none⟩)] w fun e w' => e = .returned (.bool g.ok) ∧ (Below w.heap.size w w' ∧ w'.heap.size = w.heap.size) :=
  (l06Ok_c g b A n c B w hg).mono fun e w' ⟨h1, q, h2⟩ => ⟨h1, by subst h2; exact ⟨below_drewN (Below.refl _ _) _, rfl⟩⟩
set_option maxHeartbeats 16000000 in
theorem l06Run_c (g : Fi) (b : Nat) (A : Option Addr) (n c B : Nat) (E : Option Addr) (m ec BE : Nat) (ds : List Int) (sh : Int) (w : World) (hg : GP w b B g A n c) (he : Reads w BE 1 E m (ints ds)) (hE : BE ≤ w.heap.size) (hm : m ≤ 1048576) :
    Calls Try.prog 56 #[.pointer (some ⟨b, 0, none⟩), .slice E m ec, .int .i64 sh] w (FiPost (driftV g ds sh) w) := by
  have hbl := hg.blk.lt
  have HG := Lib.hid hg
  have HL := Lib.hid hg.gs.len
  have hbig := hg.gs.big
  have HLE := Lib.hid he.len
  have HE0 := Lib.hid he
  have HV1 := Lib.hid (driftV_bad (g := g) (ds := ds) (sh := sh))
  have HV2 := Lib.hid (driftV_range (g := g) (ds := ds) (sh := sh))
  have HV3 := Lib.hid (driftV_run (g := g) (ds := ds) (sh := sh))
  have HGU := Lib.hid (show gustB ds sh = (!(decide (24 < m)) && allInB 0 3 ds && inB sh 0 1000) by rw [gustB, he.len])
  have HOKB := Lib.hid (Fi.ok_bd (g := g))
  obtain ⟨X, hX⟩ : ∃ X, X = w.alloc (.cells #[.int .i64 0, .int .i64 0, .slice none 0 0] 26) := ⟨_, rfl⟩
  have HX := Lib.hid hX
  have HT0 : Hid (Below w.heap.size w X) := Lib.hid (by rw [hX]; exact (Below.refl _ _).alloc (Nat.le_refl _) _)
  have K0 : Hid (Blk X w.heap.size 26 #[.int .i64 0, .int .i64 0, .slice none 0 0]) := Lib.hid (by rw [hX]; exact Blk.new _ _ _)
  have hs0 := Lib.hid (show X.heap.size = w.heap.size + 1 by rw [hX]; simp)
  have HOK := Lib.hid (l06Ok_x g b A n c B X (hg.below HT0.out))
  clear hg he hX
  cases hgok : g.ok
  · have HV : Hid (driftV g ds sh = (zeroFi, 1)) := Lib.hid (HV1.out hgok)
    rw [hgok] at HOK
    clear hgok HV1 HV2 HV3 HGU HOKB
    go_enter Try.func56, Try.ntmps56
    go_wp2_with fail
    rw [← HX.out]
    refine HOK.out.mono ?_
    rintro e w1 ⟨rfl, B1, hsz1⟩
    have HT := Lib.hid (HT0.out.trans (B1.mono HT0.out.size))
    have KZ := K0.out.below B1 (by rw [hs0.out]; omega)
    have z0 : w1.cell? ⟨w.heap.size, 0, none⟩ = some (.int .i64 0) := KZ.cell 0
    have z1 : w1.cell? ⟨w.heap.size, 1, none⟩ = some (.int .i64 0) := KZ.cell 1
    have z2 : w1.cell? ⟨w.heap.size, 2, none⟩ = some (.slice none 0 0) := KZ.cell 2
    have s0 := KZ.frozen 0
    have s1 := KZ.frozen 1
    have s2 := KZ.frozen 2
    clear B1 KZ hsz1
    go_wp2
    refine bodyPost_ret (v := .tuple #[.agg #[.int .i64 0, .int .i64 0, .slice none 0 0], .int .i64 1]) (by simp [results, Try.results56, go_sem, z0, z1, z2]) rfl ?_
    exact FiPost.err HV.out rfl (set3_below HT.out (Nat.le_refl _) _ _ _)
  · have HV2' := Lib.hid (HV2.out hgok)
    have HV3' := Lib.hid (HV3.out hgok)
    have HFO := Lib.hid (HOKB.out hgok)
    rw [hgok] at HOK
    clear hgok HV1 HV2 HV3 HOKB
    by_cases hm24 : 24 < m
    · have HV : Hid (driftV g ds sh = (zeroFi, 2)) := Lib.hid (HV2'.out (by rw [HGU.out]; simp [hm24]))
      clear HV2' HV3' HGU
      go_enter Try.func56, Try.ntmps56
      go_wp2_with fail
      rw [← HX.out]
      refine HOK.out.mono ?_
      rintro e w1 ⟨rfl, B1, hsz1⟩
      have HT := Lib.hid (HT0.out.trans (B1.mono HT0.out.size))
      have KZ := K0.out.below B1 (by rw [hs0.out]; omega)
      have z0 : w1.cell? ⟨w.heap.size, 0, none⟩ = some (.int .i64 0) := KZ.cell 0
      have z1 : w1.cell? ⟨w.heap.size, 1, none⟩ = some (.int .i64 0) := KZ.cell 1
      have z2 : w1.cell? ⟨w.heap.size, 2, none⟩ = some (.slice none 0 0) := KZ.cell 2
      have s0 := KZ.frozen 0
      have s1 := KZ.frozen 1
      have s2 := KZ.frozen 2
      clear B1 KZ hsz1
      go_wp2
      refine bodyPost_ret (v := .tuple #[.agg #[.int .i64 0, .int .i64 0, .slice none 0 0], .int .i64 2]) (by simp [results, Try.results56, go_sem, z0, z1, z2]) rfl ?_
      exact FiPost.err HV.out rfl (set3_below HT.out (Nat.le_refl _) _ _ _)
    · cases hsh : inB sh 0 1000
      · have HV : Hid (driftV g ds sh = (zeroFi, 2)) := Lib.hid (HV2'.out (by rw [HGU.out, hsh]; simp))
        have HSH := Lib.hid hsh
        clear HV2' HV3' HGU hsh
        go_enter Try.func56, Try.ntmps56
        go_wp2_with fail
        rw [← HX.out]
        refine HOK.out.mono ?_
        rintro e w1 ⟨rfl, B1, hsz1⟩
        have HT := Lib.hid (HT0.out.trans (B1.mono HT0.out.size))
        have KZ := K0.out.below B1 (by rw [hs0.out]; omega)
        have z0 : w1.cell? ⟨w.heap.size, 0, none⟩ = some (.int .i64 0) := KZ.cell 0
        have z1 : w1.cell? ⟨w.heap.size, 1, none⟩ = some (.int .i64 0) := KZ.cell 1
        have z2 : w1.cell? ⟨w.heap.size, 2, none⟩ = some (.slice none 0 0) := KZ.cell 2
        have s0 := KZ.frozen 0
        have s1 := KZ.frozen 1
        have s2 := KZ.frozen 2
        clear B1 KZ hsz1
        go_wp2_with fail
        refine (l06Share_c _ _).mono ?_
        rintro e w' ⟨rfl, rfl⟩
        rw [HSH.out]
        go_wp2
        refine bodyPost_ret (v := .tuple #[.agg #[.int .i64 0, .int .i64 0, .slice none 0 0], .int .i64 2]) (by simp [results, Try.results56, go_sem, z0, z1, z2]) rfl ?_
        exact FiPost.err HV.out rfl (set3_below HT.out (Nat.le_refl _) _ _ _)
      · have hshb := inB_bd hsh
        have HSH := Lib.hid hsh
        obtain ⟨h4, h5⟩ := hshb
        clear hsh
        go_enter Try.func56, Try.ntmps56
        go_wp2_with fail
        rw [← HX.out]
        refine HOK.out.mono ?_
        rintro e w1 ⟨rfl, B1, hsz1⟩
        have HT := Lib.hid (HT0.out.trans (B1.mono HT0.out.size))
        have KZ := Lib.hid (K0.out.below B1 (by rw [hs0.out]; omega))
        have hs := Lib.hid (show w1.heap.size = w.heap.size + 1 by rw [hsz1, hs0.out])
        clear B1 HX HOK HT0 K0 hs0 hsz1 X
        go_wp2_with fail
        refine (l06Share_c _ _).mono ?_
        rintro e w' ⟨rfl, rfl⟩
        rw [HSH.out]
        go_wp2
        go_loop [8] (fun i => ∃ k : Nat, k ≤ m ∧ i = .int .i64 k ∧ Hid (allInB 0 3 (ds.take k) = true)) (fun i => m - (intOf i).toNat)
        case atStart => exact ⟨0, Nat.zero_le _, rfl, Lib.hid rfl⟩
        case round =>
          obtain ⟨k, hk, rfl, HA⟩ := hrel
          by_cases hlt : k < m
          · obtain ⟨adE, z, rfl, hblE, hz, hc⟩ := (HE0.out.below (HT.out.mono hE)).int hlt
            have HZ := Lib.hid hz
            clear hz
            cases hi : inB z 0 3
            · have HI := Lib.hid hi; clear hi
              have HV : Hid (driftV g ds sh = (zeroFi, 2)) := Lib.hid (HV2'.out (by
                have : allInB 0 3 ds = false := List.all_eq_false.2 ⟨z, List.mem_of_getElem? HZ.out, by simp [HI.out]⟩
                rw [HGU.out, this]; simp))
              go_wp2_with fail
              refine (l06Wind_c _ _).mono ?_
              rintro e w' ⟨rfl, rfl⟩
              rw [HI.out]
              have z0 : w1.cell? ⟨w.heap.size, 0, none⟩ = some (.int .i64 0) := KZ.out.cell 0
              have z1 : w1.cell? ⟨w.heap.size, 1, none⟩ = some (.int .i64 0) := KZ.out.cell 1
              have z2 : w1.cell? ⟨w.heap.size, 2, none⟩ = some (.slice none 0 0) := KZ.out.cell 2
              have s0 := KZ.out.frozen 0
              have s1 := KZ.out.frozen 1
              have s2 := KZ.out.frozen 2
              go_wp2
              refine bodyPost_ret (v := .tuple #[.agg #[.int .i64 0, .int .i64 0, .slice none 0 0], .int .i64 2]) (by simp [results, Try.results56, go_sem, z0, z1, z2]) rfl ?_
              exact FiPost.err HV.out rfl (set3_below HT.out (Nat.le_refl _) _ _ _)
            · have HI := Lib.hid hi; clear hi
              go_wp2_with fail
              refine (l06Wind_c _ _).mono ?_
              rintro e w' ⟨rfl, rfl⟩
              rw [HI.out]
              go_wp2
              go_round
              case rel => exact ⟨k + 1, by omega, by go_num, Lib.hid (by have h := HA.out; unfold allInB at h ⊢; rw [List.take_add_one, HZ.out, List.all_append, h]; simp [HI.out])⟩
              case measure => simp [intOf]; omega
          · obtain rfl : k = m := by omega
            have hall : allInB 0 3 ds = true := by
              have h := HA.out
              rwa [List.take_of_length_le (by have := HLE.out; omega)] at h
            have HV : Hid (driftV g ds sh = runV sh ds g) := Lib.hid (HV3'.out (by rw [HGU.out, hall, HSH.out]; simp; omega))
            have HDS := Lib.hid fun x hx => inB_bd (List.all_eq_true.1 hall x hx)
            clear HA hall HV2' HV3' HGU HSH
            have HGP := Lib.hid (HG.out.below HT.out)
            have HS : Hid (∀ W, Below w1.heap.size w1 W → (W.cell? ⟨b, 0, none⟩ = some (.int .i64 g.rows) ∧ W.cell? ⟨b, 1, none⟩ = some (.int .i64 g.cols) ∧ W.cell? ⟨b, 2, none⟩ = some (.slice A n c))) := Lib.hid fun W hW => by
              have hp := HGP.out.below hW
              exact ⟨hp.r, hp.c, hp.h⟩
            have hB := Below.refl w1.heap.size w1
            obtain ⟨r, co, hs'⟩ := g
            simp only at HS HL
            go_upto_region 10 with (fail)
            go_cut [9] (fun o wx => ∃ bo lo hi D dd, o = .pointer (some ⟨bo, 0, none⟩) ∧ Hid (OutS w wx bo lo hi r co D n dd hs'))
            case first =>
              go_region_held3 (fun w' => Below w1.heap.size w1 w' ∧ (w'.cell? ⟨b, 0, none⟩ = some (.int .i64 r) ∧ w'.cell? ⟨b, 1, none⟩ = some (.int .i64 co) ∧ w'.cell? ⟨b, 2, none⟩ = some (.slice A n c))) (first | exact keepB HS.out (by assumption) (by first | assumption | exact And.left (by assumption)) | exact keepD HS.out (by assumption) | exact keepA HS.out (by first | assumption | exact And.left (by assumption)) | exact keepAD HS.out hB | exact keepS HS.out (by assumption) | (go_keep; done)) (first
                | (go_at_call 65; refine (l00Own_c A n c B hs' _ (HGP.out.gs.below (by first | assumption | exact And.left (by assumption))).rd (Nat.le_trans HGP.out.gs.hB (Below.size (by first | assumption | exact And.left (by assumption)))) hbig).mono ?_; rintro e w2 ⟨D, dd, rfl, O1, B1⟩
                   have KK : Blk w2 w1.heap.size 26 #[.int .i64 0, .int .i64 0, .slice none 0 0] := ((Blk.new w1 26 #[.int .i64 0, .int .i64 0, .slice none 0 0]).drew).below B1 (by simp)
                   have B0 : Below w1.heap.size w1 w2 := ((hB.alloc (Nat.le_refl _) (.cells #[.int .i64 0, .int .i64 0, .slice none 0 0] 26)).drew).trans (B1.mono (by simp))
                   have c0 := KK.cell 0; have c1 := KK.cell 1; have c2 := KK.cell 2; have f0 := KK.frozen 0; have f1 := KK.frozen 1; have f2 := KK.frozen 2
                   have HR : Hid (Own w2 (w1.heap.size + 1) w2.heap.size 2 1 (.slice D n dd) n (ints hs') ∧ Blk w2 w1.heap.size 26 #[.int .i64 0, .int .i64 0, .slice none 0 0] ∧ Below w1.heap.size w1 w2) := Lib.hid ⟨O1.widen (by simp) (Nat.le_refl _), KK, B0⟩)
                | (go_at_call 65; refine (l00Own_c A n c B hs' _ (HGP.out.gs.below (by first | assumption | exact And.left (by assumption))).rd (Nat.le_trans HGP.out.gs.hB (Below.size (by first | assumption | exact And.left (by assumption)))) hbig).mono ?_; rintro e w2 ⟨D, dd, rfl, O1, B1⟩
                   have B0 : Below w1.heap.size w1 w2 := ⟨B1.os, B1.tape, B1.output, B1.size, B1.block⟩
                   have HR : Hid (Own w2 w1.heap.size w2.heap.size 2 1 (.slice D n dd) n (ints hs') ∧ Below w1.heap.size w1 w2) := Lib.hid ⟨O1, B0⟩))
              all_goals go_wp2_with fail
              all_goals go_meet
              all_goals
                first
                  | exact ⟨w2.heap.size, w1.heap.size, w2.heap.size, D, dd, rfl, Lib.hid ⟨Blk.new _ _ _, HR.out.1.below ((Below.refl _ _).alloc (Nat.le_refl _) _) (Nat.le_refl _), HT.out.trans ((HR.out.2.mono HT.out.size).alloc (by have := HR.out.2.size; have := hs.out; omega) _), (KZ.out.below (HR.out.2) (by rw [hs.out]; omega)).alloc _, by have := hs.out; omega, by simp, .inr (Nat.le_refl _), by have := HR.out.2.size; have := hs.out; omega⟩⟩
                  | exact ⟨w1.heap.size, w1.heap.size + 1, w2.heap.size, D, dd, rfl, Lib.hid ⟨set3_blk HR.out.2.1 _ _ _, set3_own HR.out.1 (.inl (by omega)) _ _ _, set3_below (HT.out.trans (HR.out.2.2.mono HT.out.size)) (by have := hs.out; omega) _ _ _, set3_far (KZ.out.below HR.out.2.2 (by rw [hs.out]; omega)) (by rw [hs.out]; omega) _ _ _, by have := hs.out; omega, by simp, .inl (by omega), by have := hs.out; omega⟩⟩
            case rest =>
              obtain ⟨bo, lo, hi, D, dd, rfl, HO⟩ := hcut
              clear HS hB hs HGP HT KZ
              go_wp2
              go_loopw [10] (fun i wr => ∃ (j : Nat) (l : List Int) (lo hi : Nat) (D : Option Addr) (dd : Nat), j ≤ k ∧ i = .int .i64 j ∧ Hid (FiOk ⟨r, co, l⟩) ∧ Hid (runV sh ds ⟨r, co, hs'⟩ = runV sh (ds.drop j) ⟨r, co, l⟩) ∧ Hid (OutS w wr bo lo hi r co D n dd l)) (fun i _ => k - (intOf i).toNat)
              case atStart => exact ⟨0, hs', lo, hi, D, dd, Nat.zero_le _, rfl, HFO, Lib.hid rfl, HO⟩
              case round =>
                clear HO HFO
                clear lo hi D dd
                obtain ⟨j, l, lo, hi, D, dd, hj, rfl, HFO, HRV, HO⟩ := hrel
                by_cases hjm : j < k
                · obtain ⟨adE, d, rfl, hbE, hzd, hcd⟩ := (HE0.out.below (HO.out.bel.mono hE)).int hjm
                  have hdb := HDS.out d (List.mem_of_getElem? hzd)
                  have HDR : Hid (ds.drop j = d :: ds.drop (j + 1)) := Lib.hid (by
                    obtain ⟨hk, rfl⟩ := List.getElem?_eq_some_iff.1 hzd
                    exact List.drop_eq_getElem_cons hk)
                  rw [HDR.out, runV] at HRV
                  have HLn := Lib.hid HO.out.own.reads.len
                  have HSE := Lib.hid (show stepF ⟨r, co, l⟩ d sh = ⟨r, co, (stepF ⟨r, co, l⟩ d sh).hs⟩ from rfl)
                  have HFI := Lib.hid fun h => stepF_fi HFO.out (d := d) (sh := sh) h
                  have HGP : Hid (GP wr bo hi ⟨r, co, l⟩ D n dd) := Lib.hid ⟨HO.out.blk, HO.out.gs hbig⟩
                  clear hzd
                  go_wp2_with fail
                  refine (l06Step_c ⟨r, co, l⟩ bo D n dd hi d sh wr HGP.out HFO.out hdb.1 hdb.2 h4 h5).mono ?_
                  rintro e w2 ⟨D2, d2, rfl, O2, B2⟩
                  rw [HSE.out] at O2 HRV HFI ⊢
                  generalize (stepF ⟨r, co, l⟩ d sh).hs = L at *
                  have HO2 := Lib.hid (HO.out.below B2)
                  have HP2 := Lib.hid O2
                  have hs2 := B2.size
                  have hbo := HO.out.blk.lt
                  have hlw := HO.out.bel.size
                  have y0 : w2.cell? ⟨bo, 0, none⟩ = some (.int .i64 r) := HO2.out.blk.cell 0
                  have y1 : w2.cell? ⟨bo, 1, none⟩ = some (.int .i64 co) := HO2.out.blk.cell 1
                  have y2 : w2.cell? ⟨bo, 2, none⟩ = some (.slice D n dd) := HO2.out.blk.cell 2
                  have g0 := HO2.out.blk.frozen 0
                  have g1 := HO2.out.blk.frozen 1
                  have g2 := HO2.out.blk.frozen 2
                  clear O2 B2 hcd HSE HGP
                  simp only [Fi.val, Fi.cells]
                  go_upto_region 15 with (fail)
                  obtain ⟨W2, hW2⟩ : ∃ W2, W2 = ((w2.setCell ⟨bo, 0, none⟩ (.int .i64 r)).setCell ⟨bo, 1, none⟩ (.int .i64 co)).setCell ⟨bo, 2, none⟩ (.slice D2 n d2) := ⟨_, rfl⟩
                  rw [← hW2]
                  have HO3 : Hid (OutS w W2 bo wr.heap.size w2.heap.size r co D2 n d2 L) := Lib.hid (by
                    rw [hW2]
                    exact ⟨set3_blk HO2.out.blk _ _ _, set3_own HP2.out (.inl hbo) _ _ _, set3_below HO2.out.bel (by have := HO.out.hbw; omega) _ _ _, set3_far HO2.out.zero (by have := HO.out.hbw; omega) _ _ _, by have := HO.out.hbw; omega, by simp, .inl hbo, HO.out.hbw⟩)
                  clear y0 y1 y2 g0 g1 g2 hW2 HO2 HP2 HO
                  have HGP : Hid (GP W2 bo w2.heap.size ⟨r, co, L⟩ D2 n d2) := Lib.hid ⟨HO3.out.blk, HO3.out.gs hbig⟩
                  go_wp2_with fail
                  refine (l06Masses_c ⟨r, co, L⟩ bo D2 n d2 w2.heap.size W2 HGP.out).mono ?_
                  rintro e w' ⟨rfl, rfl⟩
                  simp only
                  cases hall : allInB 0 1000000 L
                  · have HVV : Hid (runV sh ds ⟨r, co, hs'⟩ = (zeroFi, 6)) := Lib.hid (by rw [HRV.out, hall]; rfl)
                    have KZ := HO3.out.zero
                    have z0 : W2.cell? ⟨w.heap.size, 0, none⟩ = some (.int .i64 0) := KZ.cell 0
                    have z1 : W2.cell? ⟨w.heap.size, 1, none⟩ = some (.int .i64 0) := KZ.cell 1
                    have z2 : W2.cell? ⟨w.heap.size, 2, none⟩ = some (.slice none 0 0) := KZ.cell 2
                    have s0 := KZ.frozen 0
                    have s1 := KZ.frozen 1
                    have s2 := KZ.frozen 2
                    clear KZ hall
                    go_wp2
                    refine bodyPost_ret (v := .tuple #[.agg #[.int .i64 0, .int .i64 0, .slice none 0 0], .int .i64 6]) (by simp [results, Try.results56, go_sem, z0, z1, z2]) rfl ?_
                    exact FiPost.err (HV.out.trans HVV.out) rfl (set3_below HO3.out.bel (Nat.le_refl _) _ _ _)
                  · have HVV : Hid (runV sh ds ⟨r, co, hs'⟩ = runV sh (ds.drop (j + 1)) ⟨r, co, L⟩) := Lib.hid (by rw [HRV.out, hall]; rfl)
                    have HFO2 := Lib.hid (HFI.out hall)
                    clear hall
                    go_wp2
                    go_roundw
                    case rel => exact ⟨j + 1, L, _, _, D2, d2, by omega, by go_num, HFO2, HVV, HO3⟩
                    case measure => simp [intOf]; omega
                · obtain rfl : j = k := by omega
                  have HVV : Hid (runV sh ds ⟨r, co, hs'⟩ = (⟨r, co, l⟩, 0)) := Lib.hid (by rw [HRV.out, List.drop_of_length_le (by have := HLE.out; omega)]; rfl)
                  have r0 : wr.cell? ⟨bo, 0, none⟩ = some (.int .i64 r) := HO.out.blk.cell 0
                  have r1 : wr.cell? ⟨bo, 1, none⟩ = some (.int .i64 co) := HO.out.blk.cell 1
                  have r2 : wr.cell? ⟨bo, 2, none⟩ = some (.slice D n dd) := HO.out.blk.cell 2
                  have KZ := HO.out.zero
                  have z0 : wr.cell? ⟨w.heap.size, 0, none⟩ = some (.int .i64 0) := KZ.cell 0
                  have z1 : wr.cell? ⟨w.heap.size, 1, none⟩ = some (.int .i64 0) := KZ.cell 1
                  have z2 : wr.cell? ⟨w.heap.size, 2, none⟩ = some (.slice none 0 0) := KZ.cell 2
                  have s0 := KZ.frozen 0
                  have s1 := KZ.frozen 1
                  have s2 := KZ.frozen 2
                  clear KZ
                  go_wp2
                  refine bodyPost_ret (v := .tuple #[.agg #[.int .i64 r, .int .i64 co, .slice D n dd], .int .i64 0]) (by simp [results, Try.results56, go_sem, z0, z1, z2]) rfl ?_
                  have hlo := HO.out.hlo
                  have hhi := HO.out.hhi
                  exact ⟨D, n, dd, by rw [HV.out, HVV.out]; rfl, by rw [HV.out, HVV.out]; exact (set3_own HO.out.own (.inl (by omega)) _ _ _).widen (by omega) (by simp; omega), hbig, set3_below HO.out.bel (Nat.le_refl _) _ _ _⟩
end Go.Proofs.Ytndnjabalofcnaa
