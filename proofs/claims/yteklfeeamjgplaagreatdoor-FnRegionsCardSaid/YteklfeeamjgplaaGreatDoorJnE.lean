/- CountBulletins and JoinedRegions by both; the laws' helpers for rows of rows of integers. -/
import Derived.Test.YteklfeeamjgplaaGreatDoorJnD
namespace Go.Proofs.YteklfeeamjgplaaGreatDoor
open Go.ChangeShapes Go.WideShapes Go.ChangeAt Go.RowKit
set_option linter.unusedVariables false
def countV (ds : List Dat) : Int × Int := if validD ds = false then (0, 1) else ((((joinedV ds).length : Nat) : Int), 0)
theorem iCountBulletins_d (A : Option Addr) (n c BA : Nat) (rs : List Rg) (w : World) (ha : Regs w BA A n rs) (hB : BA ≤ w.heap.size) (hx : ∀ x ∈ rs, x.n ≤ 1048576) (hn : n ≤ 1048576) :
    Calls Tryz.prog 7 #[.slice A n c] w fun e w' => e = .returned (.tuple #[.int .i64 (countV (rs.map Rg.dat)).1, .int .i64 (countV (rs.map Rg.dat)).2]) ∧ Below w.heap.size w w' := by
  have HC := Lib.hid (iValidRegions_d A n c BA rs w ha hB hx hn)
  have HJ := Lib.hid fun W (hW : Below w.heap.size w W) hv => joined_c A n c BA rs W (ha.below (hW.mono hB)) (by have := hW.size; omega) hx hv
  have HVD := Lib.hid (show countV (rs.map Rg.dat) = if validD (rs.map Rg.dat) = false then (0, 1) else ((((joinedV (rs.map Rg.dat)).length : Nat) : Int), 0) from rfl)
  clear ha hx
  generalize countV (rs.map Rg.dat) = V at *
  go_enter Tryz.func7, Tryz.ntmps7
  go_wp2_with fail
  refine HC.out.mono ?_
  rintro e w1 ⟨rfl, B1⟩
  have T := Lib.hid B1; clear B1
  cases hv : validD (rs.map Rg.dat)
  · have HV : Hid (V = (0, 1)) := Lib.hid (by rw [HVD.out, if_pos hv])
    clear hv
    go_wp2
    go_ret2
    exact ⟨by rw [HV.out]; rfl, T.out⟩
  · have HV : Hid (V = ((((joinedV (rs.map Rg.dat)).length : Nat) : Int), 0)) := Lib.hid (by rw [HVD.out, hv]; rfl)
    have HJ2 := Lib.hid (HJ.out w1 T.out (by rw [validR_dat]; exact hv))
    clear hv HJ HVD HC
    go_wp2_with fail
    refine HJ2.out.mono ?_
    rintro e w2 ⟨D, m, d, l, rfl, O, hl, hm, B2⟩
    have HM : Hid (m = (joinedV (rs.map Rg.dat)).length) := Lib.hid (by have := congrArg List.length hl; simp at this; rw [← O.len, this])
    have T2 := Lib.hid (T.out.trans (B2.mono T.out.size))
    clear O hl B2
    go_wp2
    go_ret2
    exact ⟨by rw [HV.out, ← HM.out]; rfl, T2.out⟩
/-- sets and a code, as a call's results -/
def SetsCode (v : List (List Int) × Int) (w : World) (e : Ending) (w' : World) : Prop :=
  ∃ A n c l, e = .returned (.tuple #[.slice A n c, .int .i64 v.2]) ∧ OwnG 31 2 w' w.heap.size w'.heap.size (.slice A n c) n l ∧ l.map GRow.xs = v.1.map ints ∧ n ≤ 1048576 ∧ (∀ x ∈ l, x.n ≤ 1048576) ∧ Below w.heap.size w w'
def setsV (ds : List Dat) : List (List Int) × Int := if validD ds = false then ([], 1) else (joinedV ds, 0)
theorem joined_small {ds : List Dat} {q : List Int} (h8 : ds.length ≤ 8) (h : q ∈ joinedV ds) : q.length ≤ 8 := by
  unfold joinedV at h
  obtain ⟨g, hg, rfl⟩ := List.mem_map.1 h
  have h1 := (jAll_inv ds ds.length (Nat.le_refl _)).nodup g hg
  have h2 := sortV_len (ofN g)
  rw [ofN_len] at h2
  omega
theorem sets_small {w : World} {lo hi n : Nat} {v : Value} {l : List GRow} {ds : List Dat} (h : OwnG 31 2 w lo hi v n l) (hl : l.map GRow.xs = (joinedV ds).map ints) (h8 : ds.length ≤ 8) : ∀ x ∈ l, x.n ≤ 1048576 := by
  intro x hx
  have h1 : x.xs ∈ (joinedV ds).map ints := by rw [← hl]; exact List.mem_map_of_mem hx
  obtain ⟨q, hq, e⟩ := List.mem_map.1 h1
  have h2 := (h.inn x hx).1.1
  rw [← e] at h2
  have h3 := joined_small h8 hq
  simp [ints] at h2
  omega
theorem iJoinedRegions_d (A : Option Addr) (n c BA : Nat) (rs : List Rg) (w : World) (ha : Regs w BA A n rs) (hB : BA ≤ w.heap.size) (hx : ∀ x ∈ rs, x.n ≤ 1048576) (hn : n ≤ 1048576) :
    Calls Tryz.prog 6 #[.slice A n c] w (SetsCode (setsV (rs.map Rg.dat)) w) := by
  have HC := Lib.hid (iValidRegions_d A n c BA rs w ha hB hx hn)
  have HJ := Lib.hid fun W (hW : Below w.heap.size w W) hv => joined_c A n c BA rs W (ha.below (hW.mono hB)) (by have := hW.size; omega) hx hv
  have HVD := Lib.hid (show setsV (rs.map Rg.dat) = if validD (rs.map Rg.dat) = false then ([], 1) else (joinedV (rs.map Rg.dat), 0) from rfl)
  have HL := Lib.hid ha.len
  clear ha hx
  generalize setsV (rs.map Rg.dat) = V at *
  go_enter Tryz.func6, Tryz.ntmps6
  go_wp2_with fail
  refine HC.out.mono ?_
  rintro e w1 ⟨rfl, B1⟩
  have T := Lib.hid B1; clear B1
  cases hv : validD (rs.map Rg.dat)
  · have HV : Hid (V = ([], 1)) := Lib.hid (by rw [HVD.out, if_pos hv])
    clear hv
    go_wp2
    go_ret2
    exact ⟨none, 0, 0, [], by rw [HV.out]; rfl, OwnG.nil, by rw [HV.out]; rfl, by omega, fun x hx => by simp at hx, T.out⟩
  · have HV : Hid (V = (joinedV (rs.map Rg.dat), 0)) := Lib.hid (by rw [HVD.out, hv]; rfl)
    have HJ2 := Lib.hid (HJ.out w1 T.out (by rw [validR_dat]; exact hv))
    have H8 : Hid ((rs.map Rg.dat).length ≤ 8) := Lib.hid (by rw [List.length_map]; exact validD_len hv)
    clear hv HJ HVD HC
    go_wp2_with fail
    refine HJ2.out.mono ?_
    rintro e w2 ⟨D, m, d, l, rfl, O, hl, hm, B2⟩
    have HO := Lib.hid O
    have HLL := Lib.hid hl
    have T2 := Lib.hid (T.out.trans (B2.mono T.out.size))
    have hwz := T.out.size
    clear O hl B2
    go_wp2
    go_ret2
    exact ⟨D, m, d, l, by rw [HV.out]; rfl, HO.out.widen hwz (Nat.le_refl _), by rw [HV.out]; exact HLL.out, by omega, sets_small HO.out HLL.out H8.out, T2.out⟩
end Go.Proofs.YteklfeeamjgplaaGreatDoor
