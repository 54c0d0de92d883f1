/- What the program's numbers and texts lean on in the world: the cell of MaxLen, the table of powers of ten, the two error variables; and how a row's own conditions give them. -/
import Derived.Test.YteklfeeamjgplaaGreatDoorSnB
import Derived.Lib.LaidTab
import Derived.LaidSub
import Derived.MakeChecks
import Derived.Stop.ErrReads
import Derived.LaidLaws
import Derived.LaidHandle
namespace Go.Proofs.YteklfeeamjgplaaGreatDoor
open Go.ChangeShapes Go.WideShapes Go.ChangeAt Go.RowKit
set_option linter.unusedVariables false
theorem cell_m0 (w : World) (h : w.ShapedOpen Tryz.prog) : ∃ m, w.cell? ⟨0, 0, none⟩ = some (.int .i64 m) := Tryz.laysM146.s1_3 w h
theorem gTabT : (Tryz.prog.globals[3]?).map (·.type) = some 154 := by kernel_rfl
theorem tab10_of {W : World} (h : laidMetH Tryz.prog [("internal/strconv.uint64pow10", Lib.tabData .u64 Lib.pow10Tab)] W) : Tab10 W := by
  rw [Go.MakeChecks.laidMetH_plain _ _ _ (by kernel_rfl)] at h
  exact Lib.tabIs_of_head gTab10 gTabT Tryz.underlying154 Tryz.underlying69 (by kernel_rfl) (by kernel_rfl) h
/-- a listed error variable holds an error -/
def ErrV (w : World) (name : String) : Prop := ∃ tp p, w.var? Tryz.prog name = some #[.iface tp p]
theorem ErrV.below {w w' : World} {name : String} {g : Nat} (h : ErrV w name) (hg : Tryz.prog.globalNamed name = some g) (hb : Below w.heap.size w w') : ErrV w' name := by
  obtain ⟨tp, p, h⟩ := h
  refine ⟨tp, p, ?_⟩
  unfold World.var? at h ⊢
  rw [hg] at h ⊢
  simp only [Option.bind_some] at h ⊢
  have hlt : g < w.heap.size := by
    rcases Nat.lt_or_ge g w.heap.size with h' | h'
    · exact h'
    · simp [Array.getElem?_eq_none h'] at h
  rw [hb.block g hlt]; exact h
theorem gSyn : Tryz.prog.globalNamed "strconv.ErrSyntax" = some 1 := by kernel_rfl
theorem gRan : Tryz.prog.globalNamed "strconv.ErrRange" = some 2 := by kernel_rfl
theorem gSynT : (Tryz.prog.globals[1]?).map (·.type) = some 85 := by kernel_rfl
theorem gRanT : (Tryz.prog.globals[2]?).map (·.type) = some 85 := by kernel_rfl
theorem errV_of {W : World} {name nm : String} {d : DataW Unit} {g : Nat} (hg : Tryz.prog.globalNamed name = some g) (hgt : (Tryz.prog.globals[g]?).map (·.type) = some 85)
    (h : laidMetH Tryz.prog [(name, .iface nm d)] W) (hp : ([(name, .iface nm d)] : List (String × DataW Unit)).all (fun x => x.2.handleName?.isNone) = true := by kernel_rfl) : ErrV W name := by
  rw [Go.MakeChecks.laidMetH_plain _ _ _ hp] at h
  obtain ⟨ps, ⟨g', t', cs, fuel, p, q, hg', ht', hvar, hd, _, _⟩, _⟩ := h
  obtain rfl := Option.some.inj (hg.symm.trans hg')
  obtain rfl := Option.some.inj (hgt.symm.trans ht')
  obtain ⟨f1, u, v, e, hn, h1⟩ := iface_of_trod Tryz.underlying85 hd
  exact ⟨u, v, by rw [hvar, Array.eq_one_of_toList e]⟩
structure Env (w : World) : Prop where
  m0 : ∃ m, w.cell? ⟨0, 0, none⟩ = some (.int .i64 m)
  tab : Tab10 w
  syn : ErrV w "strconv.ErrSyntax"
  ran : ErrV w "strconv.ErrRange"
theorem Env.below {w w' : World} (h : Env w) (hb : Below w.heap.size w w') : Env w' := by
  obtain ⟨⟨m, hm⟩, h2, h3, h4⟩ := h
  exact ⟨⟨m, (hb.cell (World.block_lt_of_cell? _ _ hm)).trans hm⟩, h2.below hb, h3.below gSyn hb, h4.below gRan hb⟩
end Go.Proofs.YteklfeeamjgplaaGreatDoor
