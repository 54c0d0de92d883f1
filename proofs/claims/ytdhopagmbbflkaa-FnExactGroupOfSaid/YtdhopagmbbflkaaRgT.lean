/- SetLevel by both. -/
import Derived.Test.YtdhopagmbbflkaaRgS
namespace Go.Proofs.Ytdhopagmbbflkaa
open Go.ChangeShapes Go.WideShapes Go.ChangeAt Go.RowKit
set_option linter.unusedVariables false
def findD (ds : List Dat) (id : ByteArray) : Int := idxOf (fun d => eqS d.1 id) ds
theorem findR_dat (rs : List Rg) (id : ByteArray) : findR rs id = findD (rs.map Rg.dat) id := by
  unfold findR findD idxOf
  rw [idxFrom_map]; rfl
/-- a call's results: a list of regions and a code -/
def RegsPost (v : List Dat × Int) (w : World) (e : Ending) (w' : World) : Prop :=
  ∃ A n c q, e = .returned (.tuple #[.slice A n c, .int .i64 v.2]) ∧ OwnRegs w' w.heap.size w'.heap.size (.slice A n c) n q ∧ n ≤ 1048576 ∧ q.map Rg.dat = v.1 ∧ (∀ x ∈ q, x.n ≤ 1048576) ∧ Below w.heap.size w w'
theorem OwnRegs.nil {w : World} {lo hi : Nat} : OwnRegs w lo hi (.slice none 0 0) 0 [] := ⟨Own.nil, fun x hx => by simp at hx, fun x hx => by simp at hx, List.Pairwise.nil⟩
theorem RegsPost.err {v : List Dat × Int} {k : Int} {w w' : World} (hv : v = ([], k)) (hb : Below w.heap.size w w') : RegsPost v w (.returned (.tuple #[.slice none 0 0, .int .i64 k])) w' := by
  subst hv; exact ⟨none, 0, 0, [], rfl, OwnRegs.nil, by omega, rfl, fun x hx => by simp at hx, hb⟩
def lvSet (ds : List Dat) (k : Nat) (z : Int) : List Dat := match ds[k]? with
  | none => ds
  | some d => ds.set k (d.1, z, d.2.2)
theorem lvSet_dat {rs : List Rg} {k : Nat} {x : Rg} (h : rs[k]? = some x) (z : Int) : (rs.set k { x with lv := z }).map Rg.dat = lvSet (rs.map Rg.dat) k z := by
  rw [lvSet, dat_get h, List.map_set]; rfl
theorem set_n {rs : List Rg} {k M : Nat} {x : Rg} (h : rs[k]? = some x) (z : Int) (hx : ∀ y ∈ rs, y.n ≤ M) : ∀ y ∈ rs.set k { x with lv := z }, y.n ≤ M := by
  intro y hy
  rcases List.mem_or_eq_of_mem_set hy with h1 | h1
  · exact hx y h1
  · subst h1; exact hx x (List.mem_of_getElem? h)
/-- a level stored into a copy -/
theorem OwnRegs.setLv {w : World} {lo hi n g c i : Nat} {rs : List Rg} {x : Rg} (h : OwnRegs w lo hi (.slice (some ⟨g, 0, none⟩) n c) n rs) (hx : rs[i]? = some x) (z : Int) :
    OwnRegs (w.setCell ⟨g, i * 3 + 1, none⟩ (.int .i64 z)) lo hi (.slice (some ⟨g, 0, none⟩) n c) n (rs.set i { x with lv := z }) ∧ Only lo hi w (w.setCell ⟨g, i * 3 + 1, none⟩ (.int .i64 z)) :=
  h.setTop (y := { x with lv := z }) (j := 1) (u := .int .i64 z) hx rfl (by omega) ⟨rfl, rfl, rfl, rfl⟩
/-- the cells of element i of a row of the call's own -/
theorem OwnRegs.atOwn {w : World} {lo hi n g c i : Nat} {rs : List Rg} {x : Rg} (h : OwnRegs w lo hi (.slice (some ⟨g, 0, none⟩) n c) n rs) (hx : rs[i]? = some x) :
    w.cell? ⟨g, i * 3, none⟩ = some (.string x.id) ∧ w.cell? ⟨g, i * 3 + 1, none⟩ = some (.int .i64 x.lv) ∧ w.cell? ⟨g, i * 3 + 2, none⟩ = some (.slice x.A x.n x.c) ∧ w.frozen? ⟨g, i * 3 + 1, none⟩ = false := by
  obtain ⟨h0, h1, h2⟩ := rgs_get hx
  have hl : i < n := by have := (List.getElem?_eq_some_iff.1 hx).1; have := h.regs.len; omega
  refine ⟨?_, ?_, ?_, h.row.1.frozenAt _⟩
  · rw [h.row.1.cellAt _ (by omega)]; exact h0
  · rw [h.row.1.cellAt _ (by omega)]; exact h1
  · rw [h.row.1.cellAt _ (by omega)]; exact h2
def setLevelV (ds : List Dat) (id : ByteArray) (level : Int) : List Dat × Int := if validD ds = false then ([], 1) else if inB level 1 5 = false then ([], 2) else if findD ds id < 0 then ([], 3) else (lvSet ds (findD ds id).toNat level, 0)
theorem findD_bd (ds : List Dat) (id : ByteArray) : -1 ≤ findD ds id ∧ findD ds id < ds.length := by
  have := idxFrom_bd (fun d : Dat => eqS d.1 id) 0 ds
  unfold findD idxOf
  omega
set_option maxHeartbeats 2000000 in
theorem iSetLevel_d (A : Option Addr) (n c BA : Nat) (rs : List Rg) (id : ByteArray) (level : Int) (w : World) (ha : Regs w BA A n rs) (hB : BA ≤ w.heap.size) (hx : ∀ x ∈ rs, x.n ≤ 1048576) (hn : n ≤ 1048576) (_ : ¬ 1048576 < id.size) :
    Calls Try.prog 26 #[.slice A n c, .string id, .int .i64 level] w (RegsPost (setLevelV (rs.map Rg.dat) id level) w) := by
  have HF := Lib.hid (regionAt_c A n c BA rs id w ha hB hn)
  have HC := Lib.hid fun W (hW : Below w.heap.size w W) => iValidRegions_d A n c BA rs W (ha.below (hW.mono hB)) (by have := hW.size; omega) hx hn
  have HD := Lib.hid fun W (hW : Below w.heap.size w W) => cloneRegions_c A n c BA rs W (ha.below (hW.mono hB)) (by have := hW.size; omega) hx hn
  have HVD := Lib.hid (show setLevelV (rs.map Rg.dat) id level = if validD (rs.map Rg.dat) = false then ([], 1) else if inB level 1 5 = false then ([], 2) else if findD (rs.map Rg.dat) id < 0 then ([], 3) else (lvSet (rs.map Rg.dat) (findD (rs.map Rg.dat) id).toNat level, 0) from rfl)
  have HL := Lib.hid ha.len
  have HX := Lib.hid hx
  have HA := Lib.hid ha
  have hfb := findD_bd (rs.map Rg.dat) id
  rw [findR_dat] at HF
  rw [List.length_map, HL.out] at hfb
  clear ha hx
  generalize setLevelV (rs.map Rg.dat) id level = V at *
  generalize findD (rs.map Rg.dat) id = at_ at *
  obtain ⟨hf1, hf2⟩ := hfb
  go_enter Try.func26, Try.ntmps26
  go_wp2_with fail
  refine HF.out.mono ?_
  rintro e w1 ⟨rfl, B1⟩
  have T1 := Lib.hid B1; clear B1
  go_wp2_with fail
  refine (HC.out w1 T1.out).mono ?_
  rintro e w2 ⟨rfl, B2⟩
  have T2 := Lib.hid (T1.out.trans (B2.mono T1.out.size)); clear B2 T1
  cases hv : validD (rs.map Rg.dat)
  · have HV : Hid (V = ([], 1)) := Lib.hid (by rw [HVD.out, if_pos hv])
    clear hv
    go_wp2
    go_ret2
    exact RegsPost.err HV.out T2.out
  · have HV1 := Lib.hid (show V = if inB level 1 5 = false then ([], 2) else if at_ < 0 then ([], 3) else (lvSet (rs.map Rg.dat) at_.toNat level, 0) by rw [HVD.out, hv]; rfl)
    clear hv HC HVD
    go_wp2_with fail
    refine (levelOk_c level w2).mono ?_
    rintro e w3 ⟨rfl, rfl⟩
    cases hl : inB level 1 5
    · have HV : Hid (V = ([], 2)) := Lib.hid (by rw [HV1.out, if_pos hl])
      clear hl
      go_wp2
      go_ret2
      exact RegsPost.err HV.out T2.out
    · have HV2 := Lib.hid (show V = if at_ < 0 then ([], 3) else (lvSet (rs.map Rg.dat) at_.toNat level, 0) by rw [HV1.out, hl]; rfl)
      clear hl HV1
      by_cases h0 : at_ < 0
      · have HV : Hid (V = ([], 3)) := Lib.hid (by rw [HV2.out, if_pos h0])
        go_wp2
        go_ret2
        exact RegsPost.err HV.out T2.out
      · have HV : Hid (V = (lvSet (rs.map Rg.dat) at_.toNat level, 0)) := Lib.hid (by rw [HV2.out, if_neg h0])
        obtain ⟨j, rfl⟩ : ∃ j : Nat, at_ = j := ⟨at_.toNat, by omega⟩
        rw [Int.toNat_natCast] at HV
        have hjn : j < n := by omega
        clear HV2
        go_wp2_with fail
        refine (HD.out w2 T2.out).mono ?_
        rintro e w4 ⟨D, d, ds, rfl, O4, hd4, B4⟩
        have T4 := Lib.hid (T2.out.trans (B4.mono T2.out.size))
        have HN4 := Lib.hid (own_fit O4 HA.out hd4 HX.out)
        obtain ⟨g, rfl, hg1, hg2, hg3⟩ := O4.row.at_ (by omega)
        have hxs : ds[j]? = some (ds[j]'(by have := O4.regs.len; omega)) := List.getElem?_eq_getElem _
        generalize ds[j]'(by have := O4.regs.len; omega) = x at hxs
        obtain ⟨c0, c1, c2, f1⟩ := O4.atOwn hxs
        have HS := Lib.hid (O4.setLv hxs level)
        have HW := Lib.hid (O4.widen (show w.heap.size ≤ w2.heap.size by have := T2.out.size; omega) (Nat.le_refl _))
        have HXS := Lib.hid hxs
        have HD4 := Lib.hid hd4
        have hwz := T2.out.size
        have hwz4 := B4.size
        have hjn' : (j : Int) < (n : Int) := by omega
        clear O4 hd4 B4 hxs
        go_wp2
        go_ret2
        refine ⟨some ⟨g, 0, none⟩, n, d, ds.set j { x with lv := level }, by rw [HV.out]; rfl, HS.out.1.widen (by omega) (by simp), hn, ?_, set_n HXS.out level HN4.out, T4.out.setCell (by show w.heap.size ≤ g; omega) _⟩
        rw [HV.out, lvSet_dat HXS.out, HD4.out]
set_option maxHeartbeats 2000000 in
theorem sSetLevel_d (A : Option Addr) (n c BA : Nat) (rs : List Rg) (id : ByteArray) (level : Int) (w : World) (ha : Regs w BA A n rs) (hB : BA ≤ w.heap.size) (hx : ∀ x ∈ rs, x.n ≤ 1048576) (hn : n ≤ 1048576) (_ : ¬ 1048576 < id.size) :
    Calls Try.prog 25 #[.slice A n c, .string id, .int .i64 level] w (RegsPost (setLevelV (rs.map Rg.dat) id level) w) := by
  have HF := Lib.hid fun W (hW : Below w.heap.size w W) => l18Find_c A n c BA rs id W (ha.below (hW.mono hB)) hn
  have HC := Lib.hid (l18Ok_d A n c BA rs w ha hx hn)
  have HD := Lib.hid fun W (hW : Below w.heap.size w W) => l18Own_c A n c BA rs W (ha.below (hW.mono hB)) (by have := hW.size; omega) hx hn
  have HVD := Lib.hid (show setLevelV (rs.map Rg.dat) id level = if validD (rs.map Rg.dat) = false then ([], 1) else if inB level 1 5 = false then ([], 2) else if findD (rs.map Rg.dat) id < 0 then ([], 3) else (lvSet (rs.map Rg.dat) (findD (rs.map Rg.dat) id).toNat level, 0) from rfl)
  have HL := Lib.hid ha.len
  have HX := Lib.hid hx
  have HA := Lib.hid ha
  have hfb := findD_bd (rs.map Rg.dat) id
  rw [findR_dat] at HF
  rw [List.length_map, HL.out] at hfb
  clear ha hx
  generalize setLevelV (rs.map Rg.dat) id level = V at *
  generalize findD (rs.map Rg.dat) id = at_ at *
  obtain ⟨hf1, hf2⟩ := hfb
  go_enter Try.func25, Try.ntmps25
  go_wp2_with fail
  refine HC.out.mono ?_
  rintro e w2 ⟨rfl, B2⟩
  have T2 := Lib.hid B2; clear B2
  cases hv : validD (rs.map Rg.dat)
  · have HV : Hid (V = ([], 1)) := Lib.hid (by rw [HVD.out, if_pos hv])
    clear hv
    go_wp2
    go_ret2
    exact RegsPost.err HV.out T2.out
  · have HV1 := Lib.hid (show V = if inB level 1 5 = false then ([], 2) else if at_ < 0 then ([], 3) else (lvSet (rs.map Rg.dat) at_.toNat level, 0) by rw [HVD.out, hv]; rfl)
    clear hv HC HVD
    go_wp2_with fail
    refine (l17Is_c level w2).mono ?_
    rintro e w3 ⟨rfl, rfl⟩
    cases hl : inB level 1 5
    · have HV : Hid (V = ([], 2)) := Lib.hid (by rw [HV1.out, if_pos hl])
      clear hl
      go_wp2
      go_ret2
      exact RegsPost.err HV.out T2.out
    · have HV2 := Lib.hid (show V = if at_ < 0 then ([], 3) else (lvSet (rs.map Rg.dat) at_.toNat level, 0) by rw [HV1.out, hl]; rfl)
      clear hl HV1
      go_wp2_with fail
      refine (HF.out w2 T2.out).mono ?_
      rintro e w3 ⟨rfl, rfl⟩
      by_cases h0 : at_ < 0
      · have HV : Hid (V = ([], 3)) := Lib.hid (by rw [HV2.out, if_pos h0])
        go_wp2
        go_ret2
        exact RegsPost.err HV.out T2.out
      · have HV : Hid (V = (lvSet (rs.map Rg.dat) at_.toNat level, 0)) := Lib.hid (by rw [HV2.out, if_neg h0])
        obtain ⟨j, rfl⟩ : ∃ j : Nat, at_ = j := ⟨at_.toNat, by omega⟩
        rw [Int.toNat_natCast] at HV
        have hjn : j < n := by omega
        clear HV2
        go_wp2_with fail
        refine (HD.out w2 T2.out).mono ?_
        rintro e w4 ⟨D, d, ds, rfl, O4, hd4, B4⟩
        have T4 := Lib.hid (T2.out.trans (B4.mono T2.out.size))
        have HN4 := Lib.hid (own_fit O4 HA.out hd4 HX.out)
        obtain ⟨g, rfl, hg1, hg2, hg3⟩ := O4.row.at_ (by omega)
        have hxs : ds[j]? = some (ds[j]'(by have := O4.regs.len; omega)) := List.getElem?_eq_getElem _
        generalize ds[j]'(by have := O4.regs.len; omega) = x at hxs
        obtain ⟨c0, c1, c2, f1⟩ := O4.atOwn hxs
        have HS := Lib.hid (O4.setLv hxs level)
        have HXS := Lib.hid hxs
        have HD4 := Lib.hid hd4
        have hwz := T2.out.size
        have hwz4 := B4.size
        have hjn' : (j : Int) < (n : Int) := by omega
        clear O4 hd4 B4 hxs
        go_wp2
        go_ret2
        refine ⟨some ⟨g, 0, none⟩, n, d, ds.set j { x with lv := level }, by rw [HV.out]; rfl, HS.out.1.widen (by omega) (by simp), hn, ?_, set_n HXS.out level HN4.out, T4.out.setCell (by show w.heap.size ≤ g; omega) _⟩
        rw [HV.out, lvSet_dat HXS.out, HD4.out]
end Go.Proofs.Ytdhopagmbbflkaa
