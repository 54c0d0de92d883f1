/- DriftGain by the reference; LoadedCells by both. -/
import Derived.Test.YtndnjabalofcnaaFiG
namespace Go.Proofs.Ytndnjabalofcnaa
open Go.ChangeShapes Go.WideShapes Go.ChangeAt Go.RowKit
set_option linter.unusedVariables false

theorem owns_al {w : World} {lo s n : Nat} {T : TypeId} {v : Value} {xs : List Value} (h : w.ownsRow lo T s v n xs) (o : Obj) : (w.alloc o).ownsRow lo T s v n xs := by
  have h2 : Own w lo w.heap.size T s v n xs := Own.of_owns h (Nat.le_refl _)
  exact (h2.below ((Below.refl w.heap.size w).alloc (Nat.le_refl _) o) (Nat.le_refl _)).1
/-- append of one integer at a step of a drawn region -/
theorem step_app_i64 {ops : Array Oper} {o : Oper} {a : Act} {K : Act → World → Prop} {Q : Exit → Act → World → Prop} {E : Prop} {w : World} (hgd : o.guard = none) (s x : Operand)
    (ho : o.op = .call { callee := .builtin .append, args := #[s, x], argTypes := #[22, 22] })
    (lo : Nat) (v : Value) (n : Nat) (zs : List Int) (z : Int) (g : Nat) (hs : a.eval s = v) (hown : w.ownsRow lo 2 1 v n (ints zs))
    (hx : a.eval x = .slice (some ⟨g, 0, none⟩) 1 1) (hc : w.cell? ⟨g, 0, none⟩ = some (.int .i64 z)) (hn : n ≤ 100000000000) (hlo : lo ≤ w.heap.size)
    (h : ∀ v' w', w'.ownsRow lo 2 1 v' (n + 1) (ints (zs ++ [z])) → Below lo w w' → K (a.put o.dst v') w') :
    if Region.wanted o (yielded ops a.tmps) = true then Oper.wp Try.prog o a w K Q else E := by
  obtain ⟨i, hi, hz, hs', hb⟩ := info_parts info_i64
  have hg : g < w.heap.size := World.block_lt_of_cell? w ⟨g, 0, none⟩ hc
  refine step_append_any w hgd s x _ ho lo _ i _ 1 8 Try.underlying22 hi hz hs' hb rfl (by omega) v n (ints zs) hs hown w.heap.size (some ⟨g, 0, none⟩) 1 1 (ints [z]) hx
    ⟨rfl, fun _ => ⟨_, rfl, hg, fun j u hu => ?_⟩⟩ (ints_one [z]) (by simp only [maxLen]; omega) (by omega) hlo ?_
  · match j with
    | 0 => simp [ints] at hu; subst hu; exact hc
    | j + 1 => simp [ints] at hu
  · intro v' w' h2 h3 _
    exact h v' w' (by rw [ints_app]; exact h2) ((Below.refl _ _).grown h3 hlo (fun k hk => (hown.lt k hk).1))
theorem keepLB {lo : Nat} {wr W W1 : World} {S : World → Prop} (hS : ∀ W', Below lo wr W' → S W') (hb : Below lo W W1) (h : Below lo wr W) : Below lo wr W1 ∧ S W1 :=
  ⟨h.trans hb, hS _ (h.trans hb)⟩
theorem keepLD {lo : Nat} {wr W : World} {S : World → Prop} (hS : ∀ W', Below lo wr W' → S W') (h : Below lo wr W) : Below lo wr W.drew ∧ S W.drew := ⟨h.drew, hS _ h.drew⟩
theorem keepLA {lo : Nat} {wr W : World} {S : World → Prop} {o : Obj} (hS : ∀ W', Below lo wr W' → S W') (hl : lo ≤ wr.heap.size) (h : Below lo wr W) : Below lo wr (W.alloc o) ∧ S (W.alloc o) :=
  ⟨h.alloc (Nat.le_trans hl h.size) o, hS _ (h.alloc (Nat.le_trans hl h.size) o)⟩
theorem keepLAD {lo : Nat} {wr W : World} {S : World → Prop} {o : Obj} (hS : ∀ W', Below lo wr W' → S W') (hl : lo ≤ wr.heap.size) (h : Below lo wr W) : Below lo wr (W.alloc o).drew ∧ S (W.alloc o).drew :=
  ⟨(h.alloc (Nat.le_trans hl h.size) o).drew, hS _ (h.alloc (Nat.le_trans hl h.size) o).drew⟩
set_option maxHeartbeats 8000000 in
theorem sDriftGain_c (g : Fi) (A : Option Addr) (n c B : Nat) (E : Option Addr) (m ec BE : Nat) (ds : List Int) (sh : Int) (w : World) (hg : GS w B g A n c) (he : Reads w BE 1 E m (ints ds)) (hE : BE ≤ w.heap.size) (hm : m ≤ 1048576) :
    Calls Try.prog 26 #[g.val A n c, .slice E m ec, .int .i64 sh] w (SlPost (gainV g ds sh).1 (gainV g ds sh).2 w) := by
  have hbig := hg.big
  obtain ⟨X, hX⟩ : ∃ X, X = w.alloc (.cells (g.cells A n c) 26) := ⟨_, rfl⟩
  have HT : Hid (Below w.heap.size w X) := Lib.hid (by rw [hX]; exact (Below.refl _ _).alloc (Nat.le_refl _) _)
  have hs : X.heap.size = w.heap.size + 1 := by rw [hX]; simp
  have KB : Hid (Blk X w.heap.size 26 (g.cells A n c)) := Lib.hid (by rw [hX]; exact Blk.new _ _ _)
  have HX := Lib.hid hX
  have HG := Lib.hid hg
  have HLG := Lib.hid hg.len
  have HR := Lib.hid (l06Run_c g w.heap.size A n c B E m ec BE ds sh X ⟨KB.out, hg.below HT.out⟩ (he.below (HT.out.mono hE)) (by have := HT.out.size; omega) hm)
  have HV := Lib.hid (show gainV g ds sh = if (driftV g ds sh).2 ≠ 0 then ([], (driftV g ds sh).2) else (subL (driftV g ds sh).1.hs g.hs, 0) from rfl)
  have HZ := Lib.hid (driftV_zero (g := g) (ds := ds) (sh := sh))
  clear hg he hX
  generalize gainV g ds sh = gv at *
  generalize driftV g ds sh = dv at *
  obtain ⟨r, co, hs'⟩ := g
  obtain ⟨⟨r', co', os⟩, code⟩ := dv
  simp only [Fi.val, Fi.cells] at HX KB HLG HV HZ ⊢
  go_enter Try.func26, Try.ntmps26
  go_wp2_with fail
  rw [← HX.out]
  refine HR.out.mono ?_
  rintro e w2 ⟨D, k, dd, rfl, O2, hk, B2⟩
  simp only [Fi.val, Fi.cells] at O2 ⊢
  have hs2 := B2.size
  have HT2 := Lib.hid (HT.out.trans (B2.mono HT.out.size))
  have KB2 := Lib.hid (KB.out.below B2 (by omega))
  clear B2 KB HT HX HR
  by_cases hcode : code = 0
  · subst hcode
    have hz := HZ.out rfl
    have HGV : Hid (gv = (subL os hs', 0)) := Lib.hid (by rw [HV.out, if_neg (by simp)])
    have HLO : Hid (os.length = n) := Lib.hid (by rw [← HLG.out]; exact hz.2.2)
    obtain rfl : k = n := by
      have h1 := O2.reads.len
      have h2 := HLO.out
      rw [h1] at h2
      exact h2
    have HBG := Lib.hid (hs_bd hz.1)
    have HBO := Lib.hid (hs_bd hz.2.1)
    have hln := hz.1.len64
    rw [HLG.out] at hln
    obtain ⟨W2, hW2⟩ : ∃ W2, W2 = w2.alloc (.cells #[.int .i64 r', .int .i64 co', .slice D k dd] 26) := ⟨_, rfl⟩
    have BW : Below w2.heap.size w2 W2 := by rw [hW2]; exact (Below.refl _ _).alloc (Nat.le_refl _) _
    have hsW : W2.heap.size = w2.heap.size + 1 := by rw [hW2]; simp
    have KO : Hid (Blk W2 w2.heap.size 26 #[.int .i64 r', .int .i64 co', .slice D k dd]) := Lib.hid (by rw [hW2]; exact Blk.new _ _ _)
    have HO : Hid (Own W2 X.heap.size w2.heap.size 2 1 (.slice D k dd) k (ints os)) := Lib.hid (O2.below BW (Nat.le_refl _))
    have HT3 := Lib.hid (HT2.out.trans (BW.mono HT2.out.size))
    have KB3 := Lib.hid (KB2.out.below BW (by omega))
    have HWE := Lib.hid hW2
    clear O2 BW hW2 hz KB2 HV HZ
    go_upto_region 2 with (fail)
    rw [← HWE.out]
    have O1 : Hid ((W2.alloc (.cells #[] 2)).ownsRow W2.heap.size 2 1 (.slice (some ⟨W2.heap.size, 0, none⟩) 0 0) 0 (ints [])) := Lib.hid (World.ownsRow_lit (w := W2) (base := W2.heap.size) (e := 2) (size := 1) #[] 0 (Nat.le_refl _) (by simp [maxLen]) (by simp))
    have HB1 : Hid (Below W2.heap.size W2 (W2.alloc (.cells #[] 2))) := Lib.hid ((Below.refl _ _).alloc (Nat.le_refl _) _)
    obtain ⟨lo, hlo⟩ : ∃ lo, lo = w2.heap.size + 1 := ⟨_, rfl⟩
    rw [hsW, ← hlo] at O1 HB1
    have HLW := Lib.hid hlo
    have hlw : lo ≤ W2.heap.size := by omega
    have hlw2 : w2.heap.size < lo := by omega
    have hlw3 : X.heap.size ≤ lo := by omega
    clear hlo
    have b2 : W2.cell? ⟨w.heap.size, 2, none⟩ = some (.slice A k c) := KB3.out.cell 2
    go_upto_region 5 with (fail)
    rw [← HLW.out]
    generalize hW3 : W2.alloc (.cells #[] 2) = W3 at *
    clear hW3 b2
    go_wp2
    go_loopw [10, 11] (fun v i wr => ∃ j : Nat, j ≤ k ∧ i = .int .i64 j ∧ Hid (wr.ownsRow lo 2 1 v j (ints ((subL os hs').take j))) ∧ Hid (Below lo W2 wr)) (fun _ i _ => k - (intOf i).toNat)
    case atStart => exact ⟨0, Nat.zero_le _, rfl, by simpa using O1, HB1⟩
    case round =>
      clear O1 HB1
      obtain ⟨j, hj, rfl, HOW, HB⟩ := hrel
      have KBr := Lib.hid (KB3.out.below HB.out (by omega))
      have KOr := Lib.hid (KO.out.below HB.out (by omega))
      have b2 : wr.cell? ⟨w.heap.size, 2, none⟩ = some (.slice A k c) := KBr.out.cell 2
      have hwz := HB.out.size
      by_cases hlt : j < k
      · obtain ⟨ad, z, rfl, _, hz, hc⟩ := ((HG.out.below HT3.out).rd.more (show B ≤ lo by have := HG.out.hB; have := HT2.out.size; omega)).below HB.out |>.int hlt
        obtain ⟨ad2, z2, rfl, _, hz2, hc2⟩ := (HO.out.reads.more (show w2.heap.size ≤ lo by omega)).below HB.out |>.int hlt
        have hzl := lAt_get hz
        have hzl2 := lAt_get hz2
        have hzb := HBG.out j
        have hzb2 := HBO.out j
        simp only at hzl hzb hzb2
        rw [hzl] at hzb
        rw [hzl2] at hzb2
        have HTK : Hid ((subL os hs').take (j + 1) = (subL os hs').take j ++ [z2 - z]) := Lib.hid (by rw [subL_take (by rw [HLO.out, HLG.out]) (by rw [HLO.out]; exact hlt), hzl, hzl2])
        have hjk : (j : Int) < (k : Int) := by omega
        have HS : Hid (∀ W, Below lo wr W → (W.cell? ⟨w.heap.size, 2, none⟩ = some (.slice (some ad) k c) ∧ W.cell? ⟨w2.heap.size, 2, none⟩ = some (.slice (some ad2) k dd) ∧ W.cell? (ad.add j) = some (.int .i64 z) ∧ W.cell? (ad2.add j) = some (.int .i64 z2))) := Lib.hid fun W hW => by
          have h1 := KBr.out.below hW (by omega)
          have h2 := KOr.out.below hW (by omega)
          exact ⟨h1.cell 2, h2.cell 2, (hW.cell (p := ad.add j) (by rw [block_of_add]; omega)).trans hc, (hW.cell (p := ad2.add j) (by rw [block_of_add]; omega)).trans hc2⟩
        have e1 : IntKind.i64.wrap (z2 - z) = z2 - z := IntWalk.i64_in _ (by omega)
        have hB0 := Below.refl lo wr
        have hwz' : lo ≤ wr.heap.size := by omega
        clear hz hz2 hzl hzl2 hc hc2
        go_upto_region 8 with (fail)
        clear b2
        go_region_held3 (fun w' => Below lo wr w' ∧ (w'.cell? ⟨w.heap.size, 2, none⟩ = some (.slice (some ad) k c) ∧ w'.cell? ⟨w2.heap.size, 2, none⟩ = some (.slice (some ad2) k dd) ∧ w'.cell? (ad.add j) = some (.int .i64 z) ∧ w'.cell? (ad2.add j) = some (.int .i64 z2))) (first | exact keepLB HS.out (by assumption) (by first | assumption | exact And.left (by assumption)) | exact keepLD HS.out hB0 | exact keepLA HS.out hwz' (by first | assumption | exact And.left (by assumption)) | exact keepLAD HS.out hwz' hB0 | (go_keep; done)) ((refine step_app_i64 (by rfl) (.tmp 29) (.tmp 41) (by rfl) lo _ j ((subL os hs').take j) (z2 - z) _ (by rfl) (owns_al HOW.out _) (by rfl) ((Blk.new wr _ _).cell 0) (by omega) (by simp; omega) ?_; intro v' w' O4 B4))
        clear e1
        go_wp2
        go_roundw
        case rel => exact ⟨j + 1, by omega, by go_num, Lib.hid (by rw [HTK.out]; exact O4), Lib.hid (HB.out.trans ((hB0.alloc hwz' _).drew.trans B4))⟩
        case measure => simp [intOf]; omega
      · obtain rfl : j = k := by omega
        obtain ⟨A', c', hv', _, _⟩ := (Own.of_owns HOW.out (Nat.le_refl _)).slice
        subst hv'
        go_wp2
        go_ret2
        have hx := HOW.out
        rw [List.take_of_length_le (by rw [subL_len (by rw [HLO.out, HLG.out]), HLO.out]; omega)] at hx
        exact ⟨A', j, c', by rw [HGV.out]; rfl, by rw [HGV.out]; exact (Own.of_owns hx (Nat.le_refl _)).widen (by have := HT2.out.size; omega) (Nat.le_refl _), hbig, HT3.out.trans (HB.out.mono (by have := HT2.out.size; omega))⟩
  · have hne : (code != 0) = true := by simpa using hcode
    have HGV : Hid (gv = ([], code)) := Lib.hid (by rw [HV.out, if_pos hcode])
    clear hcode
    go_wp2
    go_ret2
    exact SlPost.err (by rw [HGV.out]) (by rw [HGV.out]) rfl (HT2.out.alloc (by omega) _)
def loadL (least : Int) (l : List Int) : Nat → List Int
  | 0 => []
  | k + 1 => if least ≤ lAt l k then loadL least l k ++ [(k : Int)] else loadL least l k
theorem loadL_len (least : Int) (l : List Int) : ∀ k, (loadL least l k).length ≤ k
  | 0 => by simp [loadL]
  | k + 1 => by
    have := loadL_len least l k
    rw [loadL]; split
    · simp; omega
    · omega
def loadedV (g : Fi) (ds : List Int) (sh least : Int) : List Int × Int :=
  if g.ok = true ∧ inB least 0 1000000 = false then ([], 2) else if (driftV g ds sh).2 ≠ 0 then ([], (driftV g ds sh).2) else (loadL least (subL (driftV g ds sh).1.hs g.hs) g.hs.length, 0)
theorem loadedV_bad {g : Fi} {ds : List Int} {sh least : Int} (h : g.ok = false) : loadedV g ds sh least = ([], 1) := by
  rw [loadedV, if_neg (by simp [h]), driftV_bad h]; simp
set_option maxHeartbeats 8000000 in
theorem iLoadedCells_c (g : Fi) (A : Option Addr) (n c B : Nat) (E : Option Addr) (m ec BE : Nat) (ds : List Int) (sh least : Int) (w : World) (hg : GS w B g A n c) (he : Reads w BE 1 E m (ints ds)) (hE : BE ≤ w.heap.size) (hm : m ≤ 1048576) :
    Calls Try.prog 30 #[g.val A n c, .slice E m ec, .int .i64 sh, .int .i64 least] w (SlPost (loadedV g ds sh least).1 (loadedV g ds sh least).2 w) := by
  have hbig := hg.big
  obtain ⟨X, hX⟩ : ∃ X, X = w.alloc (.cells (g.cells A n c) 26) := ⟨_, rfl⟩
  have HT : Hid (Below w.heap.size w X) := Lib.hid (by rw [hX]; exact (Below.refl _ _).alloc (Nat.le_refl _) _)
  have hs : X.heap.size = w.heap.size + 1 := by rw [hX]; simp
  have KB : Hid (Blk X w.heap.size 26 (g.cells A n c)) := Lib.hid (by rw [hX]; exact Blk.new _ _ _)
  have HX := Lib.hid hX
  have HLG := Lib.hid hg.len
  have HOK := Lib.hid (iValidField_c g A n c B X (hg.below HT.out))
  have HR := Lib.hid fun W (hW : Below w.heap.size w W) => iDriftGain_c g A n c B E m ec BE ds sh W (hg.below hW) (he.below (hW.mono hE)) (by have := hW.size; omega) hm
  have HV := Lib.hid (show loadedV g ds sh least = if g.ok = true ∧ inB least 0 1000000 = false then ([], 2) else if (driftV g ds sh).2 ≠ 0 then ([], (driftV g ds sh).2) else (loadL least (subL (driftV g ds sh).1.hs g.hs) g.hs.length, 0) from rfl)
  have HV1 := Lib.hid (loadedV_bad (g := g) (ds := ds) (sh := sh) (least := least))
  have HG2 := Lib.hid (show gainV g ds sh = if (driftV g ds sh).2 ≠ 0 then ([], (driftV g ds sh).2) else (subL (driftV g ds sh).1.hs g.hs, 0) from rfl)
  have HZ := Lib.hid (driftV_zero (g := g) (ds := ds) (sh := sh))
  clear hg he hX
  generalize loadedV g ds sh least = lv at *
  generalize gainV g ds sh = gv at *
  generalize driftV g ds sh = dv at *
  generalize hgo : g.ok = ok at *
  clear hgo
  obtain ⟨r, co, hs'⟩ := g
  obtain ⟨⟨r', co', os⟩, code⟩ := dv
  simp only [Fi.val, Fi.cells] at HX KB HR HLG HV HG2 HZ ⊢
  cases ok
  · have HVV := Lib.hid (HV1.out rfl)
    clear HR HV HV1 HG2 HZ
    go_enter Try.func30, Try.ntmps30
    go_wp2_with fail
    rw [← HX.out]
    refine HOK.out.mono ?_
    rintro e w1 ⟨rfl, B1⟩
    have HT1 := Lib.hid (HT.out.trans (B1.mono HT.out.size))
    clear B1
    go_wp2
    go_ret2
    exact SlPost.err (by rw [HVV.out]) (by rw [HVV.out]) rfl HT1.out
  · cases hle : inB least 0 1000000
    · have HVV : Hid (lv = ([], 2)) := Lib.hid (by rw [HV.out, if_pos ⟨rfl, hle⟩])
      have HLE := Lib.hid hle
      clear HR HV HV1 HG2 HZ hle
      go_enter Try.func30, Try.ntmps30
      go_wp2_with fail
      rw [← HX.out]
      refine HOK.out.mono ?_
      rintro e w1 ⟨rfl, B1⟩
      have HT1 := Lib.hid (HT.out.trans (B1.mono HT.out.size))
      clear B1
      go_wp2_with fail
      refine (within_c _ _ _ _).mono ?_
      rintro e w' ⟨rfl, rfl⟩
      rw [HLE.out]
      go_wp2
      go_ret2
      exact SlPost.err (by rw [HVV.out]) (by rw [HVV.out]) rfl HT1.out
    · have HVV : Hid (lv = if code ≠ 0 then ([], code) else (loadL least (subL os hs') hs'.length, 0)) := Lib.hid (by rw [HV.out, if_neg (by simp [hle])])
      have HLE := Lib.hid hle
      clear HV HV1 hle
      go_enter Try.func30, Try.ntmps30
      go_wp2_with fail
      rw [← HX.out]
      refine HOK.out.mono ?_
      rintro e w1 ⟨rfl, B1⟩
      have hs1 := B1.size
      have HT1 := Lib.hid (HT.out.trans (B1.mono HT.out.size))
      have KB1 := Lib.hid (KB.out.below B1 (by omega))
      clear B1 KB HT HX HOK
      go_wp2_with fail
      refine (within_c _ _ _ _).mono ?_
      rintro e w' ⟨rfl, rfl⟩
      rw [HLE.out]
      have b0 : w1.cell? ⟨w.heap.size, 0, none⟩ = some (.int .i64 r) := KB1.out.cell 0
      have b1 : w1.cell? ⟨w.heap.size, 1, none⟩ = some (.int .i64 co) := KB1.out.cell 1
      have b2 : w1.cell? ⟨w.heap.size, 2, none⟩ = some (.slice A n c) := KB1.out.cell 2
      go_wp2_with fail
      refine (HR.out w1 HT1.out).mono ?_
      rintro e w2 ⟨D, k, dd, rfl, O2, hk, B2⟩
      have hs2 := B2.size
      have HT2 := Lib.hid (HT1.out.trans (B2.mono HT1.out.size))
      clear b0 b1 b2 B2 HR KB1
      by_cases hcode : code = 0
      · subst hcode
        have hz := HZ.out rfl
        have hgv : gv = (subL os hs', 0) := by rw [HG2.out, if_neg (by simp)]
        subst hgv
        simp only at O2 ⊢
        have HLV : Hid (lv = (loadL least (subL os hs') hs'.length, 0)) := Lib.hid (by rw [HVV.out, if_neg (by simp)])
        have hlen : os.length = hs'.length := hz.2.2
        obtain rfl : k = n := by
          have h1 := O2.reads.len
          rw [subL_len hlen, hlen, HLG.out] at h1
          exact h1.symm
        rw [HLG.out] at HLV
        have HO := Lib.hid O2
        have HSB := Lib.hid fun j (hj : j < k) => subL_at hlen (k := j) (by have := HLG.out; omega)
        have O1 : Hid (w2.ownsRow w2.heap.size 2 1 (.slice none 0 0) 0 (ints [])) := Lib.hid (World.ownsRow_nil _ _ _ _)
        have HB1 := Lib.hid (Below.refl w2.heap.size w2)
        clear O2 hz HVV HG2 HZ hlen
        generalize subL os hs' = L at *
        go_wp2
        go_loopw [12, 35] (fun v i wr => ∃ j n' : Nat, j ≤ k ∧ n' ≤ j ∧ i = .int .i64 j ∧ Hid (wr.ownsRow w2.heap.size 2 1 v n' (ints (loadL least L j))) ∧ Hid (Below w2.heap.size w2 wr)) (fun _ i _ => k - (intOf i).toNat)
        case atStart => exact ⟨0, 0, Nat.zero_le _, Nat.zero_le _, rfl, O1, HB1⟩
        case round =>
          clear O1 HB1
          obtain ⟨j, n', hj, hn', rfl, HOW, HB⟩ := hrel
          have hwz := HB.out.size
          by_cases hlt : j < k
          · obtain ⟨ad, z, rfl, _, hz, hc⟩ := (HO.out.reads.below HB.out).int hlt
            have HU := Lib.hid (show loadL least L (j + 1) = if least ≤ lAt L j then loadL least L j ++ [(j : Int)] else loadL least L j from rfl)
            rw [lAt_get hz] at HU
            clear hz
            by_cases hge : least ≤ z
            · have HUU : Hid (loadL least L (j + 1) = loadL least L j ++ [(j : Int)]) := Lib.hid (by rw [HU.out, if_pos hge])
              clear HU
              go_wp2_with (at_builtin; refine app_i64 rfl (.tmp 43) (.tmp 45) rfl w2.heap.size _ n' (loadL least L j) (j : Int) _ rfl (owns_al HOW.out _) rfl ?_ (by omega) ?_ ?_)
              rotate_left 2
              · intro v4 w4 O4 B4 hs4
                have O4' := Lib.hid O4
                have B4' := Lib.hid (HB.out.trans (((Below.refl wr.heap.size wr).alloc (Nat.le_refl _) _ |>.mono hwz).trans B4))
                clear O4 B4 hs4
                go_wp2
                go_roundw
                case rel => exact ⟨j + 1, n' + 1, by omega, by omega, by go_num, Lib.hid (by rw [HUU.out]; exact O4'.out), B4'⟩
                case measure => simp [intOf]; omega
              · exact (Blk.new _ _ _).cell 0
              · simp; omega
            · have HUU : Hid (loadL least L (j + 1) = loadL least L j) := Lib.hid (by rw [HU.out, if_neg hge])
              clear HU
              go_wp2
              go_roundw
              case rel => exact ⟨j + 1, n', by omega, by omega, by go_num, Lib.hid (by rw [HUU.out]; exact HOW.out), HB⟩
              case measure => simp [intOf]; omega
          · obtain rfl : j = k := by omega
            obtain ⟨A', c', hv', _, _⟩ := (Own.of_owns HOW.out (Nat.le_refl _)).slice
            subst hv'
            go_wp2
            go_ret2
            exact ⟨A', n', c', by rw [HLV.out]; rfl, by rw [HLV.out]; exact (Own.of_owns HOW.out (Nat.le_refl _)).widen (by have := HT2.out.size; omega) (Nat.le_refl _), by omega, HT2.out.trans (HB.out.mono HT2.out.size)⟩
      · have hgv : gv = ([], code) := by rw [HG2.out, if_pos hcode]
        subst hgv
        simp only at O2 ⊢
        have hne : (code != 0) = true := by simpa using hcode
        have HLV : Hid (lv = ([], code)) := Lib.hid (by rw [HVV.out, if_pos hcode])
        clear hcode O2 HVV HG2 HZ
        go_wp2
        go_ret2
        exact SlPost.err (by rw [HLV.out]) (by rw [HLV.out]) rfl HT2.out
set_option maxHeartbeats 8000000 in
theorem sLoadedCells_c (g : Fi) (A : Option Addr) (n c B : Nat) (E : Option Addr) (m ec BE : Nat) (ds : List Int) (sh least : Int) (w : World) (hg : GS w B g A n c) (he : Reads w BE 1 E m (ints ds)) (hE : BE ≤ w.heap.size) (hm : m ≤ 1048576) :
    Calls Try.prog 29 #[g.val A n c, .slice E m ec, .int .i64 sh, .int .i64 least] w (SlPost (loadedV g ds sh least).1 (loadedV g ds sh least).2 w) := by
  have hbig := hg.big
  obtain ⟨X, hX⟩ : ∃ X, X = w.alloc (.cells (g.cells A n c) 26) := ⟨_, rfl⟩
  have HT0 : Hid (Below w.heap.size w X) := Lib.hid (by rw [hX]; exact (Below.refl _ _).alloc (Nat.le_refl _) _)
  have hs : X.heap.size = w.heap.size + 1 := by rw [hX]; simp
  have KB0 : Hid (Blk X w.heap.size 26 (g.cells A n c)) := Lib.hid (by rw [hX]; exact Blk.new _ _ _)
  have HX := Lib.hid hX
  have HG := Lib.hid hg
  have HLG := Lib.hid hg.len
  have HOK := Lib.hid (l06Ok_c g w.heap.size A n c B X ⟨KB0.out, hg.below HT0.out⟩)
  have HR := Lib.hid fun q => l06Run_c g w.heap.size A n c B E m ec BE ds sh (X.drewN q) ⟨KB0.out.drewN q, hg.below (below_drewN HT0.out q)⟩ (he.below ((below_drewN HT0.out q).mono hE)) (by have := HT0.out.size; show BE ≤ X.heap.size; omega) hm
  have HV := Lib.hid (show loadedV g ds sh least = if g.ok = true ∧ inB least 0 1000000 = false then ([], 2) else if (driftV g ds sh).2 ≠ 0 then ([], (driftV g ds sh).2) else (loadL least (subL (driftV g ds sh).1.hs g.hs) g.hs.length, 0) from rfl)
  have HZ := Lib.hid (driftV_zero (g := g) (ds := ds) (sh := sh))
  clear hg he hX
  generalize loadedV g ds sh least = lv at *
  generalize driftV g ds sh = dv at *
  generalize hgo : g.ok = ok at *
  clear hgo
  obtain ⟨r, co, hs'⟩ := g
  obtain ⟨⟨r', co', os⟩, code⟩ := dv
  simp only [Fi.val, Fi.cells] at HX KB0 HLG HV HZ ⊢
  by_cases hc2 : ok = true ∧ inB least 0 1000000 = false
  · obtain ⟨rfl, hle⟩ := hc2
    have HVV : Hid (lv = ([], 2)) := Lib.hid (by rw [HV.out, if_pos ⟨rfl, hle⟩])
    have HLE := Lib.hid hle
    clear HR HV HZ hle
    go_enter Try.func29, Try.ntmps29
    go_wp2_with fail
    rw [← HX.out]
    refine HOK.out.mono ?_
    rintro e w1 ⟨rfl, q, rfl⟩
    go_wp2_with fail
    refine (l06Mass_c _ _).mono ?_
    rintro e w' ⟨rfl, rfl⟩
    rw [HLE.out]
    go_wp2
    go_ret2
    exact SlPost.err (by rw [HVV.out]) (by rw [HVV.out]) rfl (below_drewN HT0.out q)
  · have HVV : Hid (lv = if code ≠ 0 then ([], code) else (loadL least (subL os hs') hs'.length, 0)) := Lib.hid (by rw [HV.out, if_neg hc2])
    have HC2 := Lib.hid hc2
    clear HV hc2
    go_enter Try.func29, Try.ntmps29
    go_wp2_with fail
    rw [← HX.out]
    refine HOK.out.mono ?_
    rintro e w1 ⟨rfl, q, rfl⟩
    have HRq := Lib.hid (HR.out q)
    have HT := Lib.hid (below_drewN HT0.out q)
    have KB := Lib.hid (KB0.out.drewN q)
    have hsq : (X.drewN q).heap.size = w.heap.size + 1 := hs
    clear HR HT0 KB0 HX HOK
    generalize X.drewN q = Y at *
    obtain ⟨b0, hb0⟩ : ∃ b0, b0 = inB least 0 1000000 := ⟨_, rfl⟩
    have HOKL : Hid (ok = true → b0 = true) := Lib.hid (by rw [hb0]; intro h; have := HC2.out; cases h2 : inB least 0 1000000 <;> simp_all)
    have HB0 := Lib.hid hb0
    clear HC2 hb0
    cases ok
    all_goals
      first
        | (have hb1 := HOKL.out rfl; subst hb1
           go_wp2_with fail
           refine (l06Mass_c _ _).mono ?_
           rintro e w' ⟨rfl, rfl⟩
           rw [← HB0.out]
           go_wp2_with fail)
        | go_wp2_with fail
    all_goals
      refine HRq.out.mono ?_
      rintro e w2 ⟨D, k, dd, rfl, O2, hk, B2⟩
      simp only [Fi.val, Fi.cells] at O2 ⊢
      have hs2 := B2.size
      have HT2 := Lib.hid (HT.out.trans (B2.mono HT.out.size))
      have KB2 := Lib.hid (KB.out.below B2 (by omega))
      clear B2 KB HT HRq
      by_cases hcode : code = 0
      · subst hcode
        have hz := HZ.out rfl
        have HGV : Hid (lv = (loadL least (subL os hs') n, 0)) := Lib.hid (by rw [HVV.out, if_neg (by simp), HLG.out])
        have HLO : Hid (os.length = n) := Lib.hid (by rw [← HLG.out]; exact hz.2.2)
        obtain rfl : k = n := by
          have h1 := O2.reads.len
          have h2 := HLO.out
          rw [h1] at h2
          exact h2
        have HBG := Lib.hid (hs_bd hz.1)
        have HBO := Lib.hid (hs_bd hz.2.1)
        have hln := hz.1.len64
        rw [HLG.out] at hln
        obtain ⟨W2, hW2⟩ : ∃ W2, W2 = w2.alloc (.cells #[.int .i64 r', .int .i64 co', .slice D k dd] 26) := ⟨_, rfl⟩
        have BW : Below w2.heap.size w2 W2 := by rw [hW2]; exact (Below.refl _ _).alloc (Nat.le_refl _) _
        have hsW : W2.heap.size = w2.heap.size + 1 := by rw [hW2]; simp
        have KO : Hid (Blk W2 w2.heap.size 26 #[.int .i64 r', .int .i64 co', .slice D k dd]) := Lib.hid (by rw [hW2]; exact Blk.new _ _ _)
        have HO : Hid (Own W2 Y.heap.size w2.heap.size 2 1 (.slice D k dd) k (ints os)) := Lib.hid (O2.below BW (Nat.le_refl _))
        have HT3 := Lib.hid (HT2.out.trans (BW.mono HT2.out.size))
        have KB3 := Lib.hid (KB2.out.below BW (by omega))
        have HWE := Lib.hid hW2
        clear O2 BW hW2 hz KB2 HVV HZ
        go_upto_region 4 with (fail)
        rw [← HWE.out]
        have O1 : Hid ((W2.alloc (.cells #[] 2)).ownsRow W2.heap.size 2 1 (.slice (some ⟨W2.heap.size, 0, none⟩) 0 0) 0 (ints [])) := Lib.hid (World.ownsRow_lit (w := W2) (base := W2.heap.size) (e := 2) (size := 1) #[] 0 (Nat.le_refl _) (by simp [maxLen]) (by simp))
        have HB1 : Hid (Below W2.heap.size W2 (W2.alloc (.cells #[] 2))) := Lib.hid ((Below.refl _ _).alloc (Nat.le_refl _) _)
        obtain ⟨lo, hlo⟩ : ∃ lo, lo = w2.heap.size + 1 := ⟨_, rfl⟩
        rw [hsW, ← hlo] at O1 HB1
        have HLW := Lib.hid hlo
        have hlw : lo ≤ W2.heap.size := by omega
        have hlw2 : w2.heap.size < lo := by omega
        have hlw3 : Y.heap.size ≤ lo := by omega
        clear hlo
        go_upto_region 7 with (fail)
        rw [← HLW.out]
        generalize hW3 : W2.alloc (.cells #[] 2) = W3 at *
        clear hW3
        go_wp2
        go_loopw [12, 13] (fun v i wr => ∃ j n' : Nat, j ≤ k ∧ n' ≤ j ∧ i = .int .i64 j ∧ Hid (wr.ownsRow lo 2 1 v n' (ints (loadL least (subL os hs') j))) ∧ Hid (Below lo W2 wr)) (fun _ i _ => k - (intOf i).toNat)
        case atStart => exact ⟨0, 0, Nat.zero_le _, Nat.zero_le _, rfl, O1, HB1⟩
        case round =>
          clear O1 HB1
          obtain ⟨j, n', hj, hn', rfl, HOW, HB⟩ := hrel
          have KBr := Lib.hid (KB3.out.below HB.out (by omega))
          have KOr := Lib.hid (KO.out.below HB.out (by omega))
          have b2 : wr.cell? ⟨w.heap.size, 2, none⟩ = some (.slice A k c) := KBr.out.cell 2
          have o2 : wr.cell? ⟨w2.heap.size, 2, none⟩ = some (.slice D k dd) := KOr.out.cell 2
          have hwz := HB.out.size
          by_cases hlt : j < k
          · obtain ⟨ad, z, rfl, _, hz, hc⟩ := ((HG.out.below HT3.out).rd.more (show B ≤ lo by have := HG.out.hB; have := HT2.out.size; omega)).below HB.out |>.int hlt
            obtain ⟨ad2, z2, rfl, _, hz2, hc2⟩ := (HO.out.reads.more (show w2.heap.size ≤ lo by omega)).below HB.out |>.int hlt
            have hzl := lAt_get hz
            have hzl2 := lAt_get hz2
            have hzb := HBG.out j
            have hzb2 := HBO.out j
            have HU := Lib.hid (show loadL least (subL os hs') (j + 1) = if least ≤ lAt (subL os hs') j then loadL least (subL os hs') j ++ [(j : Int)] else loadL least (subL os hs') j from rfl)
            rw [subL_at (by rw [HLO.out, HLG.out]) (by rw [HLO.out]; exact hlt)] at HU
            simp only at hzl hzb hzb2
            rw [hzl] at hzb HU
            rw [hzl2] at hzb2 HU
            have hjk : (j : Int) < (k : Int) := by omega
            have e1 : IntKind.i64.wrap (z2 - z) = z2 - z := IntWalk.i64_in _ (by omega)
            clear hz hz2 hzl hzl2
            by_cases hge : least ≤ z2 - z
            · have HUU : Hid (loadL least (subL os hs') (j + 1) = loadL least (subL os hs') j ++ [(j : Int)]) := Lib.hid (by rw [HU.out, if_pos hge])
              clear HU
              go_upto_region 10 with (fail)
              go_quiet (fail)
              clear e1 b2 o2 hc hc2
              go_wp2_with (at_builtin; refine app_i64 rfl (.tmp 50) (.tmp 52) rfl lo _ n' (loadL least (subL os hs') j) (j : Int) _ rfl (owns_al HOW.out _) rfl ?_ (by omega) ?_ ?_)
              rotate_left 2
              · intro v4 w4 O4 B4 hs4
                have O4' := Lib.hid O4
                have B4' : Hid (Below lo W2 w4) := Lib.hid (HB.out.trans ((below_drewN ((Below.refl wr.heap.size wr).alloc (Nat.le_refl _) _) _ |>.mono (by omega)).trans B4))
                clear O4 B4 hs4
                go_wp2
                go_roundw
                case rel => exact ⟨j + 1, n' + 1, by omega, by omega, by go_num, Lib.hid (by rw [HUU.out]; exact O4'.out), B4'⟩
                case measure => simp [intOf]; omega
              · exact (Blk.new _ _ _).cell 0
              · simp; omega
            · have HUU : Hid (loadL least (subL os hs') (j + 1) = loadL least (subL os hs') j) := Lib.hid (by rw [HU.out, if_neg hge])
              clear HU
              go_upto_region 10 with (fail)
              go_quiet (fail)
              clear e1 b2 o2 hc hc2
              go_wp2
              go_roundw
              case rel => exact ⟨j + 1, n', by omega, by omega, by go_num, Lib.hid (by rw [HUU.out]; exact HOW.out), Lib.hid (below_drewN HB.out _)⟩
              case measure => simp [intOf]; omega
          · obtain rfl : j = k := by omega
            obtain ⟨A', c', hv', _, _⟩ := (Own.of_owns HOW.out (Nat.le_refl _)).slice
            subst hv'
            go_wp2
            go_ret2
            exact ⟨A', n', c', by rw [HGV.out]; rfl, by rw [HGV.out]; exact (Own.of_owns HOW.out (Nat.le_refl _)).widen (by have := HT2.out.size; omega) (Nat.le_refl _), by omega, HT3.out.trans (HB.out.mono (by have := HT2.out.size; omega))⟩
      · have hne : (code != 0) = true := by simpa using hcode
        have HGV : Hid (lv = ([], code)) := Lib.hid (by rw [HVV.out, if_pos hcode])
        clear hcode
        go_wp2
        go_ret2
        exact SlPost.err (by rw [HGV.out]) (by rw [HGV.out]) rfl (HT2.out.alloc (by omega) _)
end Go.Proofs.Ytndnjabalofcnaa
