/- Sentences: patterns, words and numbers, by the program. -/
import Derived.Test.YteklfeeamjgplaaGreatDoorSnA
import Derived.Test.YteklfeeamjgplaaGreatDoorRgX
import Derived.Test.YteklfeeamjgplaaGreatDoorSh
import Derived.BigQuiet
import Derived.Lib.QuietBelow
import Derived.Lib.AppendIntMem
import Derived.Lib.LaidTab
import Derived.Deep.WholeRow
import Derived.Great.Walk
namespace Go.Proofs.YteklfeeamjgplaaGreatDoor
open Go.ChangeShapes Go.WideShapes Go.ChangeAt Go.RowKit
set_option linter.unusedVariables false
theorem tab_below {w w' : World} {B g : Nat} {name : String} {k : IntKind} {zs : List Int} (h : Lib.TabIs Tryz.prog w name k zs) (hg : Tryz.prog.globalNamed name = some g) (hb : Below B w w') (hB : g < B) : Lib.TabIs Tryz.prog w' name k zs := by
  unfold Lib.TabIs World.var? at h ⊢
  rw [hg] at h ⊢
  simp only [Option.bind_some] at h ⊢
  rw [hb.block g hB]; exact h
/-- what the program's numbers lean on: a library table -/
def Tab10 (w : World) : Prop := Lib.TabIs Tryz.prog w "internal/strconv.uint64pow10" .u64 Lib.pow10Tab
theorem gTab10 : Tryz.prog.globalNamed "internal/strconv.uint64pow10" = some 3 := by kernel_rfl
theorem Tab10.below {w w' : World} (h : Tab10 w) (hb : Below w.heap.size w w') : Tab10 w' := by
  have hg := gTab10
  refine tab_below h hg hb ?_
  unfold Tab10 Lib.TabIs World.var? at h
  rw [hg] at h
  simp only [Option.bind_some] at h
  cases hq : w.heap[3]? with
  | none => rw [hq] at h; cases h
  | some o => exact (Array.getElem?_eq_some_iff.1 hq).1
theorem iDecimal_c (n : Nat) (w : World) (hn : n ≤ 9223372036854775807) (ht : Tab10 w) : Calls Tryz.prog 30 #[.int .i64 n] w fun e w' => e = .returned (.string (decB n)) ∧ Below w.heap.size w w' := by
  have HF := Lib.hid (Tryz.strconv_FormatInt_10 (n : Int) (by omega) (by omega) w ht)
  have HV : Hid ((⟨(Lib.itoa (n : Int)).toArray⟩ : ByteArray) = decB n) := Lib.hid (by unfold decB Lib.itoa; rw [if_neg (by omega), Int.toNat_natCast])
  clear ht
  go_enter Tryz.func30, Tryz.ntmps30
  go_wp2_with fail
  refine HF.out.mono ?_
  rintro e w' ⟨rfl, k, os, rfl⟩
  rw [HV.out]
  go_wp2
  go_ret
  exact ⟨rfl, Lib.below_grow _ _ (Nat.le_refl _) _ _⟩
def PatAt (W : World) (g : Nat) : Prop := ∀ k l : Nat, 1 ≤ k → k ≤ 7 → 1 ≤ l → l ≤ 4 → W.cell? ⟨g, 4 * k + (l - 1), none⟩ = some (.string ⟨(patT k l).toArray⟩)
theorem patAt_blk {W : World} {g : Nat} {T : TypeId} {cs : Array Value} (h : Blk W g T cs) (hc : ∀ k l : Nat, 1 ≤ k → k ≤ 7 → 1 ≤ l → l ≤ 4 → cs[4 * k + (l - 1)]? = some (.string ⟨(patT k l).toArray⟩)) : PatAt W g :=
  fun k l h1 h2 h3 h4 => (h.cell _).trans (hc k l h1 h2 h3 h4)
end Go.Proofs.YteklfeeamjgplaaGreatDoor
