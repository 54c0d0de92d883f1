/- The run of a field through steps of drifting snow, by the program. -/
import Derived.Test.YtndnjabalofcnaaFiC
namespace Go.Proofs.Ytndnjabalofcnaa
open Go.ChangeShapes Go.WideShapes Go.ChangeAt Go.RowKit
set_option linter.unusedVariables false

def zeroFi : Fi := ⟨0, 0, []⟩
def runV (sh : Int) : List Int → Fi → Fi × Int
  | [], g => (g, 0)
  | d :: r, g => if allInB 0 1000000 (stepF g d sh).hs then runV sh r (stepF g d sh) else (zeroFi, 6)
theorem stepF_len (g : Fi) (d sh : Int) : (stepF g d sh).hs.length = g.hs.length := stepL_len g d sh _
theorem stepF_ok {g : Fi} (hg : FiOk g) (d sh : Int) : (stepF g d sh).ok = allInB 0 1000000 (stepF g d sh).hs := by
  have h1 : (stepF g d sh).dims = true := by simp only [stepF, Fi.dims, Bool.and_eq_true]; exact ⟨inB_t hg.r0 hg.r1, inB_t hg.c0 hg.c1⟩
  have h2 : decide (((stepF g d sh).hs.length : Int) = (stepF g d sh).rows * (stepF g d sh).cols) = true := decide_eq_true (by rw [stepF_len]; simpa [stepF] using hg.len)
  rw [Fi.ok, h1, h2]
  simp
theorem stepF_fi {g : Fi} (hg : FiOk g) {d sh : Int} (h : allInB 0 1000000 (stepF g d sh).hs = true) : FiOk (stepF g d sh) := Fi.ok_bd (by rw [stepF_ok hg, h])
def FiPost (gr : Fi × Int) (w : World) (e : Ending) (w' : World) : Prop :=
  ∃ A n c, e = .returned (.tuple #[gr.1.val A n c, .int .i64 gr.2]) ∧ Own w' w.heap.size w'.heap.size 2 1 (.slice A n c) n (ints gr.1.hs) ∧ n ≤ 1048576 ∧ Below w.heap.size w w'
theorem FiPost.err {w w' : World} {e : Ending} {gr : Fi × Int} {k : Int} (h : gr = (zeroFi, k)) (he : e = .returned (.tuple #[.agg #[.int .i64 0, .int .i64 0, .slice none 0 0], .int .i64 k])) (hb : Below w.heap.size w w') : FiPost gr w e w' :=
  ⟨none, 0, 0, by rw [h, he]; rfl, by rw [h]; exact Own.nil, by omega, hb⟩
theorem leeV_dims (r co : Int) (l l' : List Int) (k d : Int) : leeV ⟨r, co, l⟩ k d = leeV ⟨r, co, l'⟩ k d := rfl
theorem OutS.gs {w wx : World} {bo lo hi : Nat} {r co : Int} {D : Option Addr} {n dd : Nat} {l : List Int} (h : OutS w wx bo lo hi r co D n dd l) (hn : n ≤ 1048576) : GS wx hi ⟨r, co, l⟩ D n dd := by
  obtain ⟨A', c', e, h1, _⟩ := h.own.slice
  injection e with e1 e2 e3
  exact ⟨h.own.reads, h.hhi, by omega, hn⟩
theorem OutS.cast {w wx : World} {bo lo hi : Nat} {r co : Int} {D : Option Addr} {n dd : Nat} {l l' : List Int} (h : OutS w wx bo lo hi r co D n dd l) (e : l = l') : OutS w wx bo lo hi r co D n dd l' := e ▸ h
set_option maxHeartbeats 16000000 in
theorem run_c (g : Fi) (A : Option Addr) (n c B : Nat) (E : Option Addr) (m ec BE : Nat) (ds : List Int) (sh : Int) (w : World) (hg : GS w B g A n c) (he : Reads w BE 1 E m (ints ds)) (hE : BE ≤ w.heap.size) (hm : m ≤ 1048576)
    (hok : FiOk g) (hds : allInB 0 3 ds = true) (h4 : 0 ≤ sh) (h5 : sh ≤ 1000) :
    Calls Try.prog 47 #[g.val A n c, .slice E m ec, .int .i64 sh] w (FiPost (runV sh ds g) w) := by
  have HL := Lib.hid hg.len
  have hbig := hg.big
  have hln := hok.len64
  have HLE := Lib.hid he.len
  have HE0 := Lib.hid he
  have HDS := Lib.hid fun x hx => inB_bd (List.all_eq_true.1 hds x hx)
  have HOK := Lib.hid hok
  obtain ⟨adA, rfl, _, _⟩ : ∃ ad, A = some ad ∧ ad.block < B ∧ True := by
    obtain ⟨ad, z, e1, e2, _⟩ := hg.rd.int (k := 0) (by have := hg.len; omega)
    exact ⟨ad, e1, e2, trivial⟩
  have HG := Lib.hid hg
  obtain ⟨Y, hY⟩ : ∃ Y, Y = w.alloc (.cells (g.cells (some adA) n c) 26) := ⟨_, rfl⟩
  have HWY : Hid (Below w.heap.size w Y) := Lib.hid (by rw [hY]; exact (Below.refl _ _).alloc (Nat.le_refl _) _)
  have KY : Hid (Blk Y w.heap.size 26 (g.cells (some adA) n c)) := Lib.hid (by rw [hY]; exact Blk.new _ _ _)
  have hsY := Lib.hid (show Y.heap.size = w.heap.size + 1 by rw [hY]; simp)
  obtain ⟨X, hX⟩ : ∃ X, X = Y.alloc (.cells #[.int .i64 0, .int .i64 0, .slice none 0 0] 26) := ⟨_, rfl⟩
  have HX := Lib.hid (show X = (w.alloc (.cells (g.cells (some adA) n c) 26)).alloc (.cells #[.int .i64 0, .int .i64 0, .slice none 0 0] 26) by rw [hX, hY])
  have HT : Hid (Below Y.heap.size Y X) := Lib.hid (by rw [hX]; exact (Below.refl _ _).alloc (Nat.le_refl _) _)
  have K1 : Hid (Blk X Y.heap.size 26 #[.int .i64 0, .int .i64 0, .slice none 0 0]) := Lib.hid (by rw [hX]; exact Blk.new _ _ _)
  have hs := Lib.hid (show X.heap.size = Y.heap.size + 1 by rw [hX]; simp)
  have HGX := Lib.hid ((hg.below HWY.out).below HT.out)
  have HS : Hid (∀ W, Below X.heap.size X W → (W.cell? ⟨w.heap.size, 0, none⟩ = some (.int .i64 g.rows) ∧ W.cell? ⟨w.heap.size, 1, none⟩ = some (.int .i64 g.cols) ∧ W.cell? ⟨w.heap.size, 2, none⟩ = some (.slice (some adA) n c))) := Lib.hid fun W hW => by
    have hp := (KY.out.below HT.out (by rw [hsY.out]; omega)).below hW (by rw [hs.out, hsY.out]; omega)
    exact ⟨hp.cell 0, hp.cell 1, hp.cell 2⟩
  rw [HL.out] at hln
  clear hg he hok hX hY hds
  obtain ⟨r, co, hs'⟩ := g
  simp only [Fi.val, Fi.cells] at HS HL HOK HG HGX KY HX ⊢
  have HOK0 := HOK
  have hB := Below.refl X.heap.size X
  go_enter Try.func47, Try.ntmps47
  go_upto_region 1 with (fail)
  rw [← HX.out]
  go_cut [8] (fun o wx => ∃ bo lo hi D dd, o = .pointer (some ⟨bo, 0, none⟩) ∧ Hid (OutS Y wx bo lo hi r co D n dd hs'))
  case first =>
    go_region_held3 (fun w' => Below X.heap.size X w' ∧ (w'.cell? ⟨w.heap.size, 0, none⟩ = some (.int .i64 r) ∧ w'.cell? ⟨w.heap.size, 1, none⟩ = some (.int .i64 co) ∧ w'.cell? ⟨w.heap.size, 2, none⟩ = some (.slice (some adA) n c))) (first | exact keepB HS.out (by assumption) (by first | assumption | exact And.left (by assumption)) | exact keepD HS.out (by assumption) | exact keepA HS.out (by first | assumption | exact And.left (by assumption)) | exact keepAD HS.out hB | exact keepS HS.out (by assumption) | (go_keep; done)) (first
      | (go_at_call 69; refine (sclone_c adA n c B hs' _ (HGX.out.below (by first | assumption | exact And.left (by assumption))).rd (Nat.le_trans HGX.out.hB (Below.size (by first | assumption | exact And.left (by assumption)))) hbig).mono ?_; rintro e w1 ⟨D, dd, rfl, O1, B1⟩
         have KK : Blk w1 X.heap.size 26 #[.int .i64 0, .int .i64 0, .slice none 0 0] := ((Blk.new X 26 #[.int .i64 0, .int .i64 0, .slice none 0 0]).drew).below B1 (by simp)
         have B0 : Below X.heap.size X w1 := ((hB.alloc (Nat.le_refl _) (.cells #[.int .i64 0, .int .i64 0, .slice none 0 0] 26)).drew).trans (B1.mono (by simp))
         have c0 := KK.cell 0; have c1 := KK.cell 1; have c2 := KK.cell 2; have f0 := KK.frozen 0; have f1 := KK.frozen 1; have f2 := KK.frozen 2
         have HR : Hid (Own w1 (X.heap.size + 1) w1.heap.size 2 1 (.slice D n dd) n (ints hs') ∧ Blk w1 X.heap.size 26 #[.int .i64 0, .int .i64 0, .slice none 0 0] ∧ Below X.heap.size X w1) := Lib.hid ⟨O1.widen (by simp) (Nat.le_refl _), KK, B0⟩)
      | (go_at_call 69; refine (sclone_c adA n c B hs' _ (HGX.out.below (by first | assumption | exact And.left (by assumption))).rd (Nat.le_trans HGX.out.hB (Below.size (by first | assumption | exact And.left (by assumption)))) hbig).mono ?_; rintro e w1 ⟨D, dd, rfl, O1, B1⟩
         have B0 : Below X.heap.size X w1 := ⟨B1.os, B1.tape, B1.output, B1.size, B1.block⟩
         have HR : Hid (Own w1 X.heap.size w1.heap.size 2 1 (.slice D n dd) n (ints hs') ∧ Below X.heap.size X w1) := Lib.hid ⟨O1, B0⟩))
    all_goals go_wp2_with fail
    all_goals go_meet
    all_goals
      first
        | exact ⟨w1.heap.size, X.heap.size, w1.heap.size, D, dd, rfl, Lib.hid ⟨Blk.new _ _ _, HR.out.1.below ((Below.refl _ _).alloc (Nat.le_refl _) _) (Nat.le_refl _), HT.out.trans ((HR.out.2.mono HT.out.size).alloc (by have := HR.out.2.size; have := hs.out; omega) _), (K1.out.below (HR.out.2) (by rw [hs.out]; omega)).alloc _, by have := hs.out; omega, by simp, .inr (Nat.le_refl _), by have := HR.out.2.size; have := hs.out; omega⟩⟩
        | exact ⟨X.heap.size, X.heap.size + 1, w1.heap.size, D, dd, rfl, Lib.hid ⟨set3_blk HR.out.2.1 _ _ _, set3_own HR.out.1 (.inl (by omega)) _ _ _, set3_below (HT.out.trans (HR.out.2.2.mono HT.out.size)) (by have := hs.out; omega) _ _ _, set3_far (K1.out.below HR.out.2.2 (by rw [hs.out]; omega)) (by rw [hs.out]; omega) _ _ _, by have := hs.out; omega, by simp, .inl (by omega), by have := hs.out; omega⟩⟩
  case rest =>
    obtain ⟨bo, lo, hi, D, dd, rfl, HO⟩ := hcut
    have hwY : w.heap.size < Y.heap.size := by have := hsY.out; omega
    clear HS hB HX HT K1 hs HGX
    go_wp2
    go_loopw [26] (fun i wr => ∃ (j : Nat) (l : List Int), j ≤ m ∧ i = .int .i64 j ∧ Hid (FiOk ⟨r, co, l⟩) ∧ Hid (runV sh ds ⟨r, co, hs'⟩ = runV sh (ds.drop j) ⟨r, co, l⟩) ∧ Hid (OutS Y wr bo lo hi r co D n dd l)) (fun i _ => m - (intOf i).toNat)
    case atStart => exact ⟨0, hs', Nat.zero_le _, rfl, HOK, Lib.hid rfl, HO⟩
    case round =>
      clear HO HOK
      obtain ⟨j, l, hj, rfl, HOK, HRV, HO⟩ := hrel
      have HWW := Lib.hid (HWY.out.trans (HO.out.bel.mono (by omega)))
      by_cases hjm : j < m
      · obtain ⟨adE, d, rfl, hbE, hzd, hcd⟩ := (HE0.out.below (HWW.out.mono hE)).int hjm
        have hdb := HDS.out d (List.mem_of_getElem? hzd)
        have HDR : Hid (ds.drop j = d :: ds.drop (j + 1)) := Lib.hid (by
          obtain ⟨hk, rfl⟩ := List.getElem?_eq_some_iff.1 hzd
          exact List.drop_eq_getElem_cons hk)
        rw [HDR.out, runV] at HRV
        have HLn := Lib.hid HO.out.own.reads.len
        obtain ⟨gb, rfl, hg1, hg2, hg3⟩ := HO.out.own.at_ (by omega)
        have y7 : wr.cell? ⟨bo, 2, none⟩ = some (.slice (some ⟨gb, 0, none⟩) n dd) := HO.out.blk.cell 2
        clear hzd
        go_wp2_with fail
        refine (sclone_c ⟨gb, 0, none⟩ n dd hi l wr HO.out.own.reads HO.out.hhi hbig).mono ?_
        rintro e w1 ⟨D2, d2, rfl, O1, B1⟩
        have HO1 := Lib.hid (HO.out.below B1)
        have hhi := HO.out.hhi
        obtain ⟨lo2, hlo2⟩ : ∃ lo2, lo2 = wr.heap.size := ⟨_, rfl⟩
        obtain ⟨hi2, hhi2⟩ : ∃ hi2, hi2 = w1.heap.size := ⟨_, rfl⟩
        have HP1 : Hid (Own w1 lo2 hi2 2 1 (.slice D2 n d2) n (ints l)) := Lib.hid (by rw [hlo2, hhi2]; exact O1)
        have hh2 : hi2 ≤ w1.heap.size := by omega
        have hll : hi ≤ lo2 := by omega
        clear O1 B1 y7 hcd HO hlo2 hhi2 HWW
        go_wp2
        go_loopw [35] (fun i wq => ∃ k : Nat, k ≤ n ∧ i = .int .i64 k ∧ Hid (OutS Y wq bo lo hi r co (some ⟨gb, 0, none⟩) n dd (stepL ⟨r, co, l⟩ d sh k)) ∧ Hid (Own wq lo2 hi2 2 1 (.slice D2 n d2) n (ints l)) ∧ hi2 ≤ wq.heap.size) (fun i _ => n - (intOf i).toNat)
        case atStart => exact ⟨0, Nat.zero_le _, rfl, HO1, HP1, hh2⟩
        case round =>
          clear HO1 HP1 hh2
          obtain ⟨k, hk, rfl, HO, HP, hh2⟩ := hrel
          have HWW := Lib.hid (HWY.out.trans (HO.out.bel.mono (by omega)))
          have KB := Lib.hid (KY.out.below HO.out.bel hwY)
          by_cases hlt : k < n
          · obtain ⟨ad2, z, rfl, hbl2, hz, hc⟩ := HP.out.reads.int hlt
            have hzl := lAt_get hz
            have b0 : wr.cell? ⟨w.heap.size, 0, none⟩ = some (.int .i64 r) := KB.out.cell 0
            have b1 : wr.cell? ⟨w.heap.size, 1, none⟩ = some (.int .i64 co) := KB.out.cell 1
            have b2 : wr.cell? ⟨w.heap.size, 2, none⟩ = some (.slice (some adA) n c) := KB.out.cell 2
            clear hz
            go_wp2_with fail
            refine (lee_c ⟨r, co, hs'⟩ (some adA) n c B k d wr (HG.out.below HWW.out) HOK0.out hlt hdb.1 hdb.2).mono ?_
            rintro e w2 ⟨rfl, B2⟩
            rw [leeV_dims r co hs' l]
            have hh3 := B2.size
            have HO2 := Lib.hid (HO.out.below B2)
            have HP2 := Lib.hid (HP.out.below B2 (by omega))
            clear B2 b0 b1 b2 HO HP hc KB HWW
            rcases leeV_cases (cell := k) (d := d) HOK.out with h1 | ⟨h1, h2⟩
            · have HE : Hid (stepL ⟨r, co, l⟩ d sh (k + 1) = stepL ⟨r, co, l⟩ d sh k) := Lib.hid (by rw [stepL, h1]; rfl)
              rw [h1]
              clear h1
              go_wp2
              go_roundw
              case rel => exact ⟨k + 1, by omega, by go_num, Lib.hid (HO2.out.cast HE.out.symm), HP2, by omega⟩
              case measure => simp [intOf]; omega
            · obtain ⟨t, ht⟩ : ∃ t : Nat, leeV ⟨r, co, l⟩ k d = t := ⟨(leeV ⟨r, co, l⟩ k d).toNat, by omega⟩
              have hzb := hs_bd HOK.out k
              have HE := Lib.hid (show stepL ⟨r, co, l⟩ d sh (k + 1) = if 0 ≤ leeV ⟨r, co, l⟩ k d then moveV (stepL ⟨r, co, l⟩ d sh k) k (leeV ⟨r, co, l⟩ k d).toNat (movedV (lAt l k) sh) else stepL ⟨r, co, l⟩ d sh k from rfl)
              have HBL := Lib.hid (stepL_bd HOK.out (d := d) h4 h5 k)
              rw [if_pos h1, ht, Int.toNat_natCast] at HE
              simp only at hzb h2
              rw [hzl] at hzb HE
              rw [ht] at h2 ⊢
              have htn : t < n := by have := HLn.out; omega
              obtain ⟨⟨q1, q2⟩, q3, q4⟩ := movedV_bd hzb.1 hzb.2 h4 h5
              have hp := lAt_bd (by omega) HBL.out k
              clear h1 h2 ht hzl
              go_wp2_with fail
              refine (divRound_c (z * sh) 1000 _ (by omega) (by omega) (by omega) (by omega)).mono ?_
              rintro e w' ⟨rfl, q, rfl⟩
              rw [show rnd (z * sh) 1000 = movedV z sh from rfl]
              have HO3 := Lib.hid (HO2.out.below (below_drewN (Below.refl _ _) q))
              have HP3 := Lib.hid (HP2.out.drewN q)
              have hh4 : hi2 ≤ (w2.drewN q).heap.size := by show hi2 ≤ w2.heap.size; omega
              obtain ⟨W1, hW1⟩ : ∃ W1, W1 = w2.drewN q := ⟨_, rfl⟩
              rw [← hW1] at HO3 HP3 hh4 ⊢
              clear hW1 HO2 HP2 hh3
              generalize movedV z sh = mv at *
              generalize stepL ⟨r, co, l⟩ d sh k = L at *
              have y7 : W1.cell? ⟨bo, 2, none⟩ = some (.slice (some ⟨gb, 0, none⟩) n dd) := HO3.out.blk.cell 2
              have a0 : W1.cell? ⟨gb, k, none⟩ = some (.int .i64 (lAt L k)) := HO3.out.own.cellI hlt
              have f0 : W1.frozen? ⟨gb, k, none⟩ = false := HO3.out.own.1.frozenAt k
              have hkn : (k : Int) < (n : Int) := by omega
              have htn' : (t : Int) < (n : Int) := by omega
              go_upto_region 13 with (fail)
              obtain ⟨W2, hW2⟩ : ∃ W2, W2 = W1.setCell ⟨gb, k, none⟩ (.int .i64 (lAt L k - mv)) := ⟨_, rfl⟩
              rw [← hW2]
              have HO4 : Hid (OutS Y W2 bo lo hi r co (some ⟨gb, 0, none⟩) n dd (L.set k (lAt L k - mv))) := Lib.hid (by rw [hW2]; exact HO3.out.stored (by omega) k _)
              have HP4 : Hid (Own W2 lo2 hi2 2 1 (.slice (some ad2) n d2) n (ints l)) := Lib.hid (by rw [hW2]; exact HP3.out.setFar (p := ⟨gb, k, none⟩) (.inl (by show gb < lo2; omega)) _)
              have hh5 : hi2 ≤ W2.heap.size := by rw [hW2]; simpa using hh4
              have hq := lAt_bd (l := L.set k (lAt L k - mv)) (M := 1000000 + 2000000002 * (k : Int) + 1000000001) (by omega) (set_bd (fun x hx => by have := HBL.out x hx; omega) (by omega)) t
              have HEE : Hid (stepL ⟨r, co, l⟩ d sh (k + 1) = (L.set k (lAt L k - mv)).set t (lAt (L.set k (lAt L k - mv)) t + mv)) := HE
              clear y7 a0 f0 hW2 HE hh4
              generalize L.set k (lAt L k - mv) = L2 at *
              have y7 : W2.cell? ⟨bo, 2, none⟩ = some (.slice (some ⟨gb, 0, none⟩) n dd) := HO4.out.blk.cell 2
              have a0 : W2.cell? ⟨gb, t, none⟩ = some (.int .i64 (lAt L2 t)) := HO4.out.own.cellI htn
              have f0 : W2.frozen? ⟨gb, t, none⟩ = false := HO4.out.own.1.frozenAt t
              go_wp2
              go_roundw
              case rel => exact ⟨k + 1, by omega, by go_num, Lib.hid ((HO4.out.stored (by omega) t _).cast HEE.out.symm), Lib.hid (HP4.out.setFar (p := ⟨gb, t, none⟩) (.inl (by show gb < lo2; omega)) _), by simpa using hh5⟩
              case measure => simp [intOf]; omega
          · obtain rfl : k = n := by omega
            have hstf : stepF ⟨r, co, l⟩ d sh = ⟨r, co, stepL ⟨r, co, l⟩ d sh k⟩ := by simp only [stepF]; rw [HLn.out]
            have hoks := stepF_ok HOK.out d sh
            have HFI := Lib.hid fun h => stepF_fi HOK.out (d := d) (sh := sh) h
            rw [hstf] at HRV hoks HFI
            have HOKS := Lib.hid hoks
            clear hstf hoks
            generalize stepL ⟨r, co, l⟩ d sh k = L at *
            have y0 : wr.cell? ⟨bo, 0, none⟩ = some (.int .i64 r) := HO.out.blk.cell 0
            have y1 : wr.cell? ⟨bo, 1, none⟩ = some (.int .i64 co) := HO.out.blk.cell 1
            have y2 : wr.cell? ⟨bo, 2, none⟩ = some (.slice (some ⟨gb, 0, none⟩) k dd) := HO.out.blk.cell 2
            go_wp2_with fail
            refine (iValidField_c ⟨r, co, L⟩ (some ⟨gb, 0, none⟩) k dd hi wr (HO.out.gs hbig)).mono ?_
            rintro e w2 ⟨rfl, B2⟩
            have HO2 := Lib.hid (HO.out.below B2)
            have HW2 := Lib.hid (HWY.out.trans (HO2.out.bel.mono (by omega)))
            rw [HOKS.out]
            clear B2 y0 y1 y2 HO HP hh2 HWW KB
            cases hall : allInB 0 1000000 L
            · have HV : Hid (runV sh ds ⟨r, co, hs'⟩ = (zeroFi, 6)) := Lib.hid (by rw [HRV.out, hall]; rfl)
              have KZ : Blk w2 (w.heap.size + 1) 26 #[.int .i64 0, .int .i64 0, .slice none 0 0] := by rw [← hsY.out]; exact HO2.out.zero
              have z0 : w2.cell? ⟨w.heap.size + 1, 0, none⟩ = some (.int .i64 0) := KZ.cell 0
              have z1 : w2.cell? ⟨w.heap.size + 1, 1, none⟩ = some (.int .i64 0) := KZ.cell 1
              have z2 : w2.cell? ⟨w.heap.size + 1, 2, none⟩ = some (.slice none 0 0) := KZ.cell 2
              have s0 := KZ.frozen 0
              have s1 := KZ.frozen 1
              have s2 := KZ.frozen 2
              clear KZ hall
              go_wp2
              refine bodyPost_ret (v := .tuple #[.agg #[.int .i64 0, .int .i64 0, .slice none 0 0], .int .i64 6]) (by simp [results, Try.results47, go_sem, z0, z1, z2]) rfl ?_
              exact FiPost.err HV.out rfl (set3_below HW2.out (by omega) _ _ _)
            · have HV : Hid (runV sh ds ⟨r, co, hs'⟩ = runV sh (ds.drop (j + 1)) ⟨r, co, L⟩) := Lib.hid (by rw [HRV.out, hall]; rfl)
              have HFO := Lib.hid (HFI.out hall)
              clear hall
              go_wp2
              go_roundw
              case rel => exact ⟨j + 1, L, by omega, by go_num, HFO, HV, HO2⟩
              case measure => simp [intOf]; omega
      · obtain rfl : j = m := by omega
        have HV : Hid (runV sh ds ⟨r, co, hs'⟩ = (⟨r, co, l⟩, 0)) := Lib.hid (by rw [HRV.out, List.drop_of_length_le (by have := HLE.out; omega)]; rfl)
        have r0 : wr.cell? ⟨bo, 0, none⟩ = some (.int .i64 r) := HO.out.blk.cell 0
        have r1 : wr.cell? ⟨bo, 1, none⟩ = some (.int .i64 co) := HO.out.blk.cell 1
        have r2 : wr.cell? ⟨bo, 2, none⟩ = some (.slice D n dd) := HO.out.blk.cell 2
        have KZ : Blk wr (w.heap.size + 1) 26 #[.int .i64 0, .int .i64 0, .slice none 0 0] := by rw [← hsY.out]; exact HO.out.zero
        have z0 : wr.cell? ⟨w.heap.size + 1, 0, none⟩ = some (.int .i64 0) := KZ.cell 0
        have z1 : wr.cell? ⟨w.heap.size + 1, 1, none⟩ = some (.int .i64 0) := KZ.cell 1
        have z2 : wr.cell? ⟨w.heap.size + 1, 2, none⟩ = some (.slice none 0 0) := KZ.cell 2
        have s0 := KZ.frozen 0
        have s1 := KZ.frozen 1
        have s2 := KZ.frozen 2
        clear KZ
        go_wp2
        refine bodyPost_ret (v := .tuple #[.agg #[.int .i64 r, .int .i64 co, .slice D n dd], .int .i64 0]) (by simp [results, Try.results47, go_sem, z0, z1, z2]) rfl ?_
        have hlo := HO.out.hlo
        have hhi := HO.out.hhi
        exact ⟨D, n, dd, by rw [HV.out]; rfl, by rw [HV.out]; exact (set3_own HO.out.own (.inl (by have := hsY.out; omega)) _ _ _).widen (by omega) (by simp; omega), hbig, set3_below HWW.out (by omega) _ _ _⟩
end Go.Proofs.Ytndnjabalofcnaa
