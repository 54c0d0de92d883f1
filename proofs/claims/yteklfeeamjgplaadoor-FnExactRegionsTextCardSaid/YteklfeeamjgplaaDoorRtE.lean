/- The text of regions or nothing, by the reference. -/
import Derived.Test.YteklfeeamjgplaaDoorRtB
namespace Go.Proofs.YteklfeeamjgplaaDoor
open Go.ChangeShapes Go.WideShapes Go.ChangeAt Go.RowKit
set_option linter.unusedVariables false
set_option maxHeartbeats 4000000 in
set_option maxRecDepth 100000 in
theorem sRegionsText_c (A : Option Addr) (n c BA : Nat) (rs : List Rg) (w : World) (ha : Regs w BA A n rs) (hB : BA ≤ w.heap.size) (hx : ∀ x ∈ rs, x.n ≤ 1048576) (hn : n ≤ 1048576) :
    Calls Tryd.prog 6 #[.slice A n c] w fun e w' => e = .returned (.string (rtV (rs.map Rg.dat))) ∧ Below w.heap.size w w' := by
  have HC := Lib.hid (l18Ok_d A n c BA rs w ha hx hn)
  have HV := Lib.hid (show rtV (rs.map Rg.dat) = if validD (rs.map Rg.dat) = true then rgT (rs.map Rg.dat) else ⟨#[]⟩ from rfl)
  have HT := Lib.hid (fun W (hb : Below w.heap.size w W) (hv : validD (rs.map Rg.dat) = true) => l18Text_c A n c BA rs W (ha.below (hb.mono hB)) (Nat.le_trans hB hb.size) (by rw [validR_dat]; exact hv) hx)
  clear ha hx
  go_enter Tryd.func6, Tryd.ntmps6
  go_wp2_with fail
  refine HC.out.mono ?_
  rintro e w1 ⟨rfl, B1⟩
  have HB := Lib.hid B1
  have HT1 := Lib.hid (HT.out w1 B1)
  clear B1 HC HT
  cases hv : validD (rs.map Rg.dat)
  · rw [hv, if_neg (by decide)] at HV
    go_wp2
    go_ret
    exact ⟨by rw [HV.out]; rfl, HB.out⟩
  · have HT2 := Lib.hid (HT1.out hv)
    rw [hv, if_pos rfl] at HV
    clear HT1
    go_wp2_with fail
    refine HT2.out.mono ?_
    rintro e w2 ⟨rfl, B2⟩
    have HB2 := Lib.hid (HB.out.trans (B2.mono HB.out.size))
    clear B2 HT2
    go_wp2
    go_ret
    exact ⟨by rw [HV.out]; rfl, HB2.out⟩
end Go.Proofs.YteklfeeamjgplaaDoor
