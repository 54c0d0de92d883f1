/- SpreadLevel by both. -/
import Derived.Test.YteklfeeamjgplaaGreatDoorRgTU
import Derived.Deep.RegionLaw
import Derived.Deep.DrawnRows
namespace Go.Proofs.YteklfeeamjgplaaGreatDoor
open Go.ChangeShapes Go.WideShapes Go.ChangeAt Go.RowKit
set_option linter.unusedVariables false
theorem findD_at {rs : List Rg} {id : ByteArray} {j : Nat} {x : Rg} (h : findD (rs.map Rg.dat) id = (j : Int)) (hx : rs[j]? = some x) : x.id.toList = id.toList := by
  rw [← findR_dat] at h
  obtain ⟨y, hy, hp, _⟩ := idxOf_spec (findP id) rs (by unfold findR at h; omega)
  unfold findR at h
  rw [h, Int.toNat_natCast, hx] at hy
  injection hy with hy; subst hy
  exact eqS_iff.1 hp
set_option maxHeartbeats 4000000 in
theorem iSpreadLevel_d (A : Option Addr) (n c BA : Nat) (rs : List Rg) (id : ByteArray) (w : World) (ha : Regs w BA A n rs) (hB : BA ≤ w.heap.size) (hx : ∀ x ∈ rs, x.n ≤ 1048576) (hn : n ≤ 1048576) (_ : ¬ 1048576 < id.size) :
    Calls Tryz.prog 15 #[.slice A n c, .string id] w (RegsPost (spreadV (rs.map Rg.dat) id) w) := by
  have HF := Lib.hid (regionAt_c A n c BA rs id w ha hB hn)
  have HC := Lib.hid fun W (hW : Below w.heap.size w W) => iValidRegions_d A n c BA rs W (ha.below (hW.mono hB)) (by have := hW.size; omega) hx hn
  have HD := Lib.hid fun W (hW : Below w.heap.size w W) => cloneRegions_c A n c BA rs W (ha.below (hW.mono hB)) (by have := hW.size; omega) hx hn
  have HVD := Lib.hid (show spreadV (rs.map Rg.dat) id = if validD (rs.map Rg.dat) = false then ([], 1) else if findD (rs.map Rg.dat) id < 0 then ([], 3) else ((rs.map Rg.dat).map (spE id (dLv (rs.map Rg.dat) (findD (rs.map Rg.dat) id).toNat)), 0) from rfl)
  have HL := Lib.hid ha.len
  have HX := Lib.hid hx
  have HA := Lib.hid ha
  have hfb := findD_bd (rs.map Rg.dat) id
  rw [findR_dat] at HF
  rw [List.length_map, HL.out] at hfb
  clear ha hx
  generalize spreadV (rs.map Rg.dat) id = V at *
  generalize findD (rs.map Rg.dat) id = at_ at *
  obtain ⟨hf1, hf2⟩ := hfb
  go_enter Tryz.func15, Tryz.ntmps15
  go_wp2_with fail
  refine HF.out.mono ?_
  rintro e w1 ⟨rfl, B1⟩
  have T1 := Lib.hid B1; clear B1
  go_wp2_with fail
  refine (HC.out w1 T1.out).mono ?_
  rintro e w2 ⟨rfl, B2⟩
  have T2 := Lib.hid (T1.out.trans (B2.mono T1.out.size)); clear B2 T1
  cases hv : validD (rs.map Rg.dat)
  · have HV : Hid (V = ([], 1)) := Lib.hid (by rw [HVD.out, if_pos hv])
    clear hv
    go_wp2
    go_ret2
    exact RegsPost.err HV.out T2.out
  · have HV2 := Lib.hid (show V = if at_ < 0 then ([], 3) else ((rs.map Rg.dat).map (spE id (dLv (rs.map Rg.dat) at_.toNat)), 0) by rw [HVD.out, hv]; rfl)
    clear hv HC HVD
    by_cases h0 : at_ < 0
    · have HV : Hid (V = ([], 3)) := Lib.hid (by rw [HV2.out, if_pos h0])
      go_wp2
      go_ret2
      exact RegsPost.err HV.out T2.out
    · have HV := Lib.hid (show V = ((rs.map Rg.dat).map (spE id (dLv (rs.map Rg.dat) at_.toNat)), 0) by rw [HV2.out, if_neg h0])
      obtain ⟨j, rfl⟩ : ∃ j : Nat, at_ = j := ⟨at_.toNat, by omega⟩
      rw [Int.toNat_natCast] at HV
      have hjn : j < n := by omega
      clear HV2
      go_wp2_with fail
      refine (HD.out w2 T2.out).mono ?_
      rintro e w4 ⟨D, d, ds, rfl, O4, hd4, B4⟩
      obtain ⟨adj, y, hA, hbj, hyj, hny, e0, e1, e2⟩ := HA.out.at_ hjn
      have HE1 : Hid (∀ W, Below w.heap.size w W → W.cell? ⟨(adj.add (j * 3)).block, (adj.add (j * 3)).off + 1, none⟩ = some (.int .i64 y.lv)) := Lib.hid fun W hW => (hW.cell (p := ⟨(adj.add (j * 3)).block, (adj.add (j * 3)).off + 1, none⟩) (by show (adj.add (j * 3)).block < _; rw [block_of_add]; omega)).trans e1
      rw [dLv_get hyj] at HV
      have HW : Hid (Wk w w4 w2.heap.size (.slice D n d) n (spTo (rs.map Rg.dat) id y.lv 0)) := Lib.hid ⟨⟨_, ds, O4, Nat.le_refl _, by rw [spTo_zero, hd4], own_fit O4 HA.out hd4 HX.out⟩, T2.out.trans (B4.mono T2.out.size), T2.out.size⟩
      generalize w2.heap.size = LO at HW
      subst hA
      have hjn' : (j : Int) < (n : Int) := by omega
      clear O4 hd4 B4 hyj hny e0 e1 e2 HF HD T2
      go_wp2
      go_loopw [24] (fun i wr => ∃ k : Nat, k ≤ n ∧ i = .int .i64 k ∧ Hid (Wk w wr LO (.slice D n d) n (spTo (rs.map Rg.dat) id y.lv k))) (fun i _ => n - (intOf i).toNat)
      case atStart => exact ⟨0, Nat.zero_le _, rfl, HW⟩
      case round =>
        clear HW
        obtain ⟨k, hk, rfl, HW⟩ := hrel
        have hwz := HW.out.bel.size
        by_cases hlt : k < n
        · have hxs : rs[k]? = some (rs[k]'(by have := HL.out; omega)) := List.getElem?_eq_getElem _
          generalize rs[k]'(by have := HL.out; omega) = x at hxs
          have HXS := Lib.hid (dat_get hxs)
          obtain ⟨g, c', E, m, ee, hD, hg1, hg2, -, hm, c0, c1, c2, f1, hr⟩ := HW.out.get (spTo_get id y.lv HXS.out)
          simp only [Value.slice.injEq] at hD
          obtain ⟨rfl, -, rfl⟩ := hD
          replace c0 : wr.cell? ⟨g, k * 3, none⟩ = some (.string x.id) := c0
          replace c1 : wr.cell? ⟨g, k * 3 + 1, none⟩ = some (.int .i64 x.lv) := c1
          replace hr : Reads wr wr.heap.size 1 E m (strs x.near) := hr
          have HNO := Lib.hid (spTo_no id y.lv HXS.out)
          have HYES := Lib.hid (spTo_yes id y.lv HXS.out)
          have hkn : (k : Int) < (n : Int) := by omega
          have hk0 : (0 : Int) ≤ (k : Int) := by omega
          obtain ⟨W1, hW1⟩ : ∃ W, W = wr.alloc (.cells #[.string x.id, .int .i64 x.lv, .slice E m ee] 37) := ⟨_, rfl⟩
          have HWE := Lib.hid hW1
          have HW1 : Hid (Wk w W1 LO (.slice (some ⟨g, 0, none⟩) n d) n (spTo (rs.map Rg.dat) id y.lv k)) := Lib.hid (by rw [hW1]; exact HW.out.alloc _)
          have b1 : W1.cell? ⟨wr.heap.size, 1, none⟩ = some (.int .i64 x.lv) := by rw [hW1]; exact (Blk.new wr _ _).cell 1
          have hr1 : Hid (Reads W1 W1.heap.size 1 E m (strs x.near)) := Lib.hid (by rw [hW1]; exact (hr.alloc (Nat.le_refl _) _).more (by simp))
          have hc1 : W1.cell? ⟨g, k * 3 + 1, none⟩ = some (.int .i64 x.lv) := by rw [hW1]; exact (((Below.refl wr.heap.size wr).alloc (Nat.le_refl _) _).cell (p := ⟨g, k * 3 + 1, none⟩) hg2).trans c1
          have hf1' : W1.frozen? ⟨g, k * 3 + 1, none⟩ = false := by rw [hW1]; exact (((Below.refl wr.heap.size wr).alloc (Nat.le_refl _) _).frozen (p := ⟨g, k * 3 + 1, none⟩) hg2).trans f1
          have hj1 := HE1.out W1 HW1.out.bel
          have hgne : g ≠ wr.heap.size := by omega
          have h2 : W1.cell? ⟨wr.heap.size, 2, none⟩ = some (.slice E m ee) := by rw [hW1]; exact (Blk.new wr _ _).cell 2
          clear hW1 hxs hr
          go_upto_region 10 with (fail)
          rw [← HWE.out]
          clear c0 c1 c2 f1 HWE
          go_wp2_with fail
          refine (containsStr_c E m ee _ x.near id W1 hr1.out hm).mono ?_
          rintro e w5 ⟨rfl, rfl⟩
          clear h2
          cases hq : nearV x.near id
          · have HN := Lib.hid (HNO.out hq)
            clear hq
            go_wp2
            go_roundw
            case rel => exact ⟨k + 1, by omega, by go_num, by rw [HN.out]; exact HW1⟩
            case measure => simp [intOf]; omega
          · have HN := Lib.hid (HYES.out hq)
            clear hq
            go_upto_region 11 with (fail)
            have hk5 : ∀ u, (W1.setCell ⟨g, k * 3 + 1, none⟩ u).cell? ⟨(adj.add (j * 3)).block, (adj.add (j * 3)).off + 1, none⟩ = some (.int .i64 y.lv) := fun u =>
              (World.cell?_setCell_other W1 _ _ u (fun e => by injection e with e _ _; rw [block_of_add] at e; omega)).trans hj1
            go_region_held3 (fun w' => w'.cell? ⟨wr.heap.size, 1, none⟩ = some (.int .i64 x.lv) ∧ w'.cell? ⟨(adj.add (j * 3)).block, (adj.add (j * 3)).off + 1, none⟩ = some (.int .i64 y.lv)) (go_keep) (fail)
            have HST : Hid (Wk w (W1.setCell ⟨g, k * 3 + 1, none⟩ (.int .i64 (if x.lv < y.lv then y.lv else x.lv))).drew LO (.slice (some ⟨g, 0, none⟩) n d) n (spTo (rs.map Rg.dat) id y.lv (k + 1))) := Lib.hid (by
              have h := (HW1.out.store (spTo_get id y.lv HXS.out) (if x.lv < y.lv then y.lv else x.lv)).drew
              rw [HN.out]
              have e : maxZ x.dat.2.1 y.lv = if x.lv < y.lv then y.lv else x.lv := by show maxZ x.lv y.lv = _; unfold maxZ; split <;> split <;> omega
              rw [e]; exact h)
            clear hk5 b1 hj1 hc1 hf1' hr1
            go_wp2
            go_roundw
            case rel => exact ⟨k + 1, by omega, by go_num, HST⟩
            case measure => simp [intOf]; omega
        · obtain rfl : k = n := by omega
          have HF : Hid (V = (spTo (rs.map Rg.dat) id y.lv k, 0)) := Lib.hid (by rw [HV.out]; have := spTo_all (rs.map Rg.dat) id y.lv; rw [List.length_map, HL.out] at this; rw [this])
          go_wp2
          go_ret2
          exact HW.out.done hn HF.out
end Go.Proofs.YteklfeeamjgplaaGreatDoor
