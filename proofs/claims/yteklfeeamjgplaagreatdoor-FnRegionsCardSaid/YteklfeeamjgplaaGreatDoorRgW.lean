/- MergeRegions by both. -/
import Derived.Test.YteklfeeamjgplaaGreatDoorRgV
namespace Go.Proofs.YteklfeeamjgplaaGreatDoor
open Go.ChangeShapes Go.WideShapes Go.ChangeAt Go.RowKit
set_option linter.unusedVariables false
theorem quiet_ex {P : Program} {f : FuncId} {args : Array Value} {w : World} {n : Nat} {v : Value}
    (h : Calls P f args (w.drewN n) fun e w' => e = .returned v ∧ ∃ m, w' = (w.drewN n).drewN m) : Calls P f args (w.drewN n) fun e w' => e = .returned v ∧ ∃ m, w' = w.drewN m :=
  h.mono fun _ _ ⟨he, m, hm⟩ => ⟨he, n + m, by rw [hm, World.drewN_drewN]⟩
def mgE (a b : Dat) : Dat := (a.1, maxZ a.2.1 b.2.1, a.2.2)
def mgTo (da db : List Dat) (k : Nat) : List Dat := (List.zipWith mgE da db).take k ++ da.drop k
theorem mgTo_zero (da db : List Dat) : mgTo da db 0 = da := by simp [mgTo]
theorem mgTo_all {da db : List Dat} (h : da.length = db.length) : mgTo da db da.length = List.zipWith mgE da db := by
  rw [mgTo, List.take_of_length_le (by simp [List.length_zipWith, h]), List.drop_of_length_le (Nat.le_refl _), List.append_nil]
theorem mgTo_get {da db : List Dat} {k : Nat} {a : Dat} (hl : da.length = db.length) (h : da[k]? = some a) : (mgTo da db k)[k]? = some a := by
  have hk := (List.getElem?_eq_some_iff.1 h).1
  have hl2 : ((List.zipWith mgE da db).take k).length = k := by simp [List.length_zipWith]; omega
  unfold mgTo
  rw [List.getElem?_append_right (by omega), hl2, Nat.sub_self, List.getElem?_drop, Nat.add_zero, h]
theorem mgTo_succ {da db : List Dat} {k : Nat} {a b : Dat} (hl : da.length = db.length) (h : da[k]? = some a) (h' : db[k]? = some b) : mgTo da db (k + 1) = lvSet (mgTo da db k) k (maxZ a.2.1 b.2.1) := by
  have hk := (List.getElem?_eq_some_iff.1 h).1
  have hl2 : ((List.zipWith mgE da db).take k).length = k := by simp [List.length_zipWith]; omega
  rw [lvSet, mgTo_get hl h]
  have hz : (List.zipWith mgE da db)[k]? = some (mgE a b) := by rw [List.getElem?_zipWith, h, h']
  show _ = List.set _ _ _
  unfold mgTo
  rw [List.set_append_right _ _ (by omega), hl2, Nat.sub_self, List.take_add_one, hz, List.drop_eq_getElem_cons hk, List.set_cons_zero]
  simp [mgE]
def mergeV (da db : List Dat) : List Dat × Int := if validD da = false then ([], 1) else if validD db = false then ([], 1) else if pairsD placeD da db = false then ([], 7) else (List.zipWith mgE da db, 0)
theorem allPairs_place (rs ss : List Rg) : allPairs placeB rs ss = pairsD placeD (rs.map Rg.dat) (ss.map Rg.dat) := allPairs_dat placeD rs ss
set_option maxHeartbeats 4000000 in
theorem iMergeRegions_d (A : Option Addr) (n c BA : Nat) (rs : List Rg) (D : Option Addr) (m d BD : Nat) (ss : List Rg) (w : World) (ha : Regs w BA A n rs) (hA : BA ≤ w.heap.size) (hx : ∀ x ∈ rs, x.n ≤ 1048576) (hn : n ≤ 1048576)
    (hd : Regs w BD D m ss) (hD : BD ≤ w.heap.size) (hy : ∀ x ∈ ss, x.n ≤ 1048576) (hm : m ≤ 1048576) :
    Calls Tryz.prog 16 #[.slice A n c, .slice D m d] w (RegsPost (mergeV (rs.map Rg.dat) (ss.map Rg.dat)) w) := by
  have HC := Lib.hid (iValidRegions_d A n c BA rs w ha hA hx hn)
  have HC2 := Lib.hid fun W (hW : Below w.heap.size w W) => iValidRegions_d D m d BD ss W (hd.below (hW.mono hD)) (by have := hW.size; omega) hy hm
  have HE := Lib.hid fun W (hW : Below w.heap.size w W) => equalFuncR_c 33 #[] placeB A D n m c d BA BD rs ss W (ha.below (hW.mono hA)) (hd.below (hW.mono hD)) (by have := hW.size; omega) (by have := hW.size; omega) hx hy hn hm (sameMap_clos W)
  have HD := Lib.hid fun W (hW : Below w.heap.size w W) => cloneRegions_c A n c BA rs W (ha.below (hW.mono hA)) (by have := hW.size; omega) hx hn
  have HVD := Lib.hid (show mergeV (rs.map Rg.dat) (ss.map Rg.dat) = if validD (rs.map Rg.dat) = false then ([], 1) else if validD (ss.map Rg.dat) = false then ([], 1) else if pairsD placeD (rs.map Rg.dat) (ss.map Rg.dat) = false then ([], 7) else (List.zipWith mgE (rs.map Rg.dat) (ss.map Rg.dat), 0) from rfl)
  have HL := Lib.hid ha.len
  have HL2 := Lib.hid hd.len
  have HX := Lib.hid hx
  have HA := Lib.hid ha
  have HB := Lib.hid hd
  rw [allPairs_place] at HE
  clear ha hx hd hy
  generalize mergeV (rs.map Rg.dat) (ss.map Rg.dat) = V at *
  go_enter Tryz.func16, Tryz.ntmps16
  go_wp2_with fail
  refine HC.out.mono ?_
  rintro e w1 ⟨rfl, B1⟩
  have T1 := Lib.hid B1; clear B1
  cases hv : validD (rs.map Rg.dat)
  · have HV : Hid (V = ([], 1)) := Lib.hid (by rw [HVD.out, if_pos hv])
    clear hv
    go_wp2
    go_ret2
    exact RegsPost.err HV.out T1.out
  · have HV1 := Lib.hid (show V = if validD (ss.map Rg.dat) = false then ([], 1) else if pairsD placeD (rs.map Rg.dat) (ss.map Rg.dat) = false then ([], 7) else (List.zipWith mgE (rs.map Rg.dat) (ss.map Rg.dat), 0) by rw [HVD.out, hv]; rfl)
    clear hv HC HVD
    go_wp2_with fail
    refine (HC2.out w1 T1.out).mono ?_
    rintro e w2 ⟨rfl, B2⟩
    have T2 := Lib.hid (T1.out.trans (B2.mono T1.out.size)); clear B2 T1
    cases hv : validD (ss.map Rg.dat)
    · have HV : Hid (V = ([], 1)) := Lib.hid (by rw [HV1.out, if_pos hv])
      clear hv
      go_wp2
      go_ret2
      exact RegsPost.err HV.out T2.out
    · have HV2 := Lib.hid (show V = if pairsD placeD (rs.map Rg.dat) (ss.map Rg.dat) = false then ([], 7) else (List.zipWith mgE (rs.map Rg.dat) (ss.map Rg.dat), 0) by rw [HV1.out, hv]; rfl)
      clear hv HC2 HV1
      go_wp2_with fail
      refine (HE.out w2 T2.out).mono ?_
      rintro e w3 ⟨rfl, B3⟩
      have T3 := Lib.hid (T2.out.trans (B3.mono T2.out.size)); clear B3 T2
      cases hv : pairsD placeD (rs.map Rg.dat) (ss.map Rg.dat)
      · have HV : Hid (V = ([], 7)) := Lib.hid (by rw [HV2.out, if_pos hv])
        clear hv
        go_wp2
        go_ret2
        exact RegsPost.err HV.out T3.out
      · have HV := Lib.hid (show V = (List.zipWith mgE (rs.map Rg.dat) (ss.map Rg.dat), 0) by rw [HV2.out, hv]; rfl)
        have hll : (rs.map Rg.dat).length = (ss.map Rg.dat).length := by
          unfold pairsD at hv
          simp only [Bool.and_eq_true, decide_eq_true_eq] at hv
          exact hv.1
        obtain rfl : n = m := by have := HL.out; have := HL2.out; simp at hll; omega
        have HLL := Lib.hid hll
        clear hv HE HV2 hll
        go_wp2_with fail
        refine (HD.out w3 T3.out).mono ?_
        rintro e w4 ⟨D', d', ds, rfl, O4, hd4, B4⟩
        have HW : Hid (Wk w w4 w3.heap.size (.slice D' n d') n (mgTo (rs.map Rg.dat) (ss.map Rg.dat) 0)) := Lib.hid ⟨⟨_, ds, O4, Nat.le_refl _, by rw [mgTo_zero, hd4], own_fit O4 HA.out hd4 HX.out⟩, T3.out.trans (B4.mono T3.out.size), T3.out.size⟩
        generalize w3.heap.size = LO at HW
        clear O4 hd4 B4 HD T3
        go_wp2
        go_loopw [27] (fun i wr => ∃ k : Nat, k ≤ n ∧ i = .int .i64 k ∧ Hid (Wk w wr LO (.slice D' n d') n (mgTo (rs.map Rg.dat) (ss.map Rg.dat) k))) (fun i _ => n - (intOf i).toNat)
        case atStart => exact ⟨0, Nat.zero_le _, rfl, HW⟩
        case round =>
          clear HW
          obtain ⟨k, hk, rfl, HW⟩ := hrel
          have hwz := HW.out.bel.size
          by_cases hlt : k < n
          · have hxs : rs[k]? = some (rs[k]'(by have := HL.out; omega)) := List.getElem?_eq_getElem _
            generalize rs[k]'(by have := HL.out; omega) = x at hxs
            have HXS := Lib.hid (dat_get hxs)
            obtain ⟨ad, y, rfl, hbl, hys, hny, b0, b1, b2⟩ := (HB.out.below (HW.out.bel.mono hD)).at_ hlt
            have HYS := Lib.hid (dat_get hys)
            obtain ⟨g, c', E, mm, ee, hD', hg1, hg2, -, hm', c0, c1, c2, f1, hr⟩ := HW.out.get (mgTo_get HLL.out HXS.out)
            simp only [Value.slice.injEq] at hD'
            obtain ⟨rfl, -, rfl⟩ := hD'
            replace c1 : wr.cell? ⟨g, k * 3 + 1, none⟩ = some (.int .i64 x.lv) := c1
            have HN : Hid (mgTo (rs.map Rg.dat) (ss.map Rg.dat) (k + 1) = lvSet (mgTo (rs.map Rg.dat) (ss.map Rg.dat) k) k (maxZ x.lv y.lv)) := Lib.hid (mgTo_succ HLL.out HXS.out HYS.out)
            have hkn : (k : Int) < (n : Int) := by omega
            have hk0 : (0 : Int) ≤ (k : Int) := by omega
            obtain ⟨W1, hW1⟩ : ∃ W, W = wr.alloc (.cells #[.string y.id, .int .i64 y.lv, .slice y.A y.n y.c] 37) := ⟨_, rfl⟩
            have HWE := Lib.hid hW1
            have HW1 : Hid (Wk w W1 LO (.slice (some ⟨g, 0, none⟩) n d') n (mgTo (rs.map Rg.dat) (ss.map Rg.dat) k)) := Lib.hid (by rw [hW1]; exact HW.out.alloc _)
            have hb1 : W1.cell? ⟨wr.heap.size, 1, none⟩ = some (.int .i64 y.lv) := by rw [hW1]; exact (Blk.new wr _ _).cell 1
            have hc1 : W1.cell? ⟨g, k * 3 + 1, none⟩ = some (.int .i64 x.lv) := by rw [hW1]; exact (((Below.refl wr.heap.size wr).alloc (Nat.le_refl _) _).cell (p := ⟨g, k * 3 + 1, none⟩) hg2).trans c1
            have hf1' : W1.frozen? ⟨g, k * 3 + 1, none⟩ = false := by rw [hW1]; exact (((Below.refl wr.heap.size wr).alloc (Nat.le_refl _) _).frozen (p := ⟨g, k * 3 + 1, none⟩) hg2).trans f1
            have hgne : ¬ (g = wr.heap.size) := by omega
            clear hW1 hxs hys hny hr c0 c2
            go_upto_region 9 with (fail)
            rw [← HWE.out]
            clear b0 b1 b2 c1 f1 HWE
            go_region_law (fail)
            all_goals
              have HST : Hid (Wk w (W1.setCell ⟨g, k * 3 + 1, none⟩ (.int .i64 (if x.lv < y.lv then y.lv else x.lv))).drew LO (.slice (some ⟨g, 0, none⟩) n d') n (mgTo (rs.map Rg.dat) (ss.map Rg.dat) (k + 1))) := Lib.hid (by
                have h := (HW1.out.store (mgTo_get HLL.out HXS.out) (maxZ x.lv y.lv)).drew
                have e : maxZ x.lv y.lv = if x.lv < y.lv then y.lv else x.lv := by unfold maxZ; split <;> split <;> omega
                rw [HN.out, ← e]; exact h)
              clear hb1 hc1 hf1'
              go_wp2
              go_roundw
              case rel => exact ⟨k + 1, by omega, by go_num, HST⟩
              case measure => simp [intOf]; omega
          · obtain rfl : k = n := by omega
            have HF : Hid (V = (mgTo (rs.map Rg.dat) (ss.map Rg.dat) k, 0)) := Lib.hid (by rw [HV.out]; have := mgTo_all HLL.out; rw [List.length_map, HL.out] at this; rw [this])
            go_wp2
            go_ret2
            exact HW.out.done hn HF.out
end Go.Proofs.YteklfeeamjgplaaGreatDoor
