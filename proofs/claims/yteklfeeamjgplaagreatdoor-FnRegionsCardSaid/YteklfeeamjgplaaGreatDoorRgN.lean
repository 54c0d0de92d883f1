/- Valid regions by both, by their data; the regions with high levels. -/
import Derived.Test.YteklfeeamjgplaaGreatDoorRgM
import Derived.Test.YteklfeeamjgplaaGreatDoorRgP
import Derived.Test.YteklfeeamjgplaaGreatDoorMk
import Derived.Test.YteklfeeamjgplaaGreatDoorPut
namespace Go.Proofs.YteklfeeamjgplaaGreatDoor
open Go.ChangeShapes Go.WideShapes Go.ChangeAt Go.RowKit
set_option linter.unusedVariables false

theorem iValidRegions_d (A : Option Addr) (n c BA : Nat) (rs : List Rg) (w : World) (ha : Regs w BA A n rs) (hB : BA ≤ w.heap.size) (hx : ∀ x ∈ rs, x.n ≤ 1048576) (hn : n ≤ 1048576) :
    Calls Tryz.prog 21 #[.slice A n c] w fun e w' => e = .returned (.bool (validD (rs.map Rg.dat))) ∧ Below w.heap.size w w' := by
  rw [← validR_dat]; exact iValidRegions_c A n c BA rs w ha hB hx hn
theorem l18Ok_d (A : Option Addr) (n c BA : Nat) (rs : List Rg) (w : World) (ha : Regs w BA A n rs) (hx : ∀ x ∈ rs, x.n ≤ 1048576) (hn : n ≤ 1048576) :
    Calls Tryz.prog 38 #[.slice A n c] w fun e w' => e = .returned (.bool (validD (rs.map Rg.dat))) ∧ Below w.heap.size w w' := by
  rw [← validR_dat]; exact l18Ok_c A n c BA rs w ha hx hn
theorem sValidRegions_d (A : Option Addr) (n c BA : Nat) (rs : List Rg) (w : World) (ha : Regs w BA A n rs) (hB : BA ≤ w.heap.size) (hx : ∀ x ∈ rs, x.n ≤ 1048576) (hn : n ≤ 1048576) :
    Calls Tryz.prog 18 #[.slice A n c] w fun e w' => e = .returned (.bool (validD (rs.map Rg.dat))) ∧ Below w.heap.size w w' := by
  have HC := Lib.hid (l18Ok_d A n c BA rs w ha hx hn)
  clear ha hx
  go_enter Tryz.func18, Tryz.ntmps18
  go_wp2_with fail
  refine HC.out.mono ?_
  rintro e w1 ⟨rfl, B1⟩
  have HB := Lib.hid B1; clear B1
  go_wp2
  go_ret
  exact ⟨rfl, HB.out⟩
theorem validD_len {rs : List Rg} (h : validD (rs.map Rg.dat) = true) : rs.length ≤ 8 := by rw [← validR_dat] at h; exact (valid_len h).1

/-! ### append of one text -/
theorem app_str {ops : Array Oper} {rest : List Oper} {o : Oper} {a : Act} {Q : Exit → Act → World → Prop} {w : World} (hgd : o.guard = none) (s x : Operand)
    (ho : o.op = .call { callee := .builtin .append, args := #[s, x], argTypes := #[33, 33] })
    (lo : Nat) (v : Value) (n : Nat) (l : List ByteArray) (z : ByteArray) (g : Nat) (hs : a.eval s = v) (hown : w.ownsRow lo 9 1 v n (strs l))
    (hx : a.eval x = .slice (some ⟨g, 0, none⟩) 1 1) (hc : w.cell? ⟨g, 0, none⟩ = some (.string z)) (hn : n ≤ 100000000000) (hlo : lo ≤ w.heap.size)
    (h : ∀ v' w', w'.ownsRow lo 9 1 v' (n + 1) (strs (l ++ [z])) → Below lo w w' → w.heap.size ≤ w'.heap.size → wpList Tryz.prog ops Q rest (a.put o.dst v') w') : wpList Tryz.prog ops Q (o :: rest) a w := by
  refine app_gen hgd s x _ ho lo _ _ 1 16 Tryz.underlying33 info_str rfl (by omega) (by omega) v n (strs l) [.string z] g hs hown hx rfl (by simp [Value.oneCell']) (fun j u hu => ?_) hn hlo (fun v' w' h1 h2 h3 => h v' w' (by simpa [strs] using h1) h2 h3)
  match j with
  | 0 => simp at hu; rw [hc, hu]
  | j + 1 => simp at hu
/-- a call's results: a list of texts and a code -/
def StrsPost (v : List ByteArray × Int) (w : World) (e : Ending) (w' : World) : Prop :=
  ∃ A n c, e = .returned (.tuple #[.slice A n c, .int .i64 v.2]) ∧ Own w' w.heap.size w'.heap.size 9 1 (.slice A n c) n (strs v.1) ∧ n ≤ 1048576 ∧ Below w.heap.size w w'
theorem StrsPost.err {v : List ByteArray × Int} {k : Int} {w w' : World} (hv : v = ([], k)) (hb : Below w.heap.size w w') : StrsPost v w (.returned (.tuple #[.slice none 0 0, .int .i64 k])) w' := by
  subst hv; exact ⟨none, 0, 0, rfl, Own.nil, by omega, hb⟩
theorem StrsPost.ok {v : List ByteArray × Int} {l : List ByteArray} {m : Nat} {o : Value} {w w' : World} (hv : v = (l, 0)) (ho : w'.ownsRow w.heap.size 9 1 o m (strs l)) (hm : m ≤ 1048576) (hb : Below w.heap.size w w') : StrsPost v w (.returned (.tuple #[o, .int .i64 0])) w' := by
  subst hv
  have h := Own.of_owns ho (Nat.le_refl _)
  obtain ⟨A, c, rfl, _, _⟩ := h.slice
  exact ⟨A, m, c, rfl, h, hm, hb⟩
def highTo (ds : List Dat) (least : Int) (k : Nat) : List ByteArray := ((ds.take k).filter fun d => decide (least ≤ d.2.1)).map (·.1)
theorem highTo_succ {ds : List Dat} {least : Int} {k : Nat} {d : Dat} (h : ds[k]? = some d) : highTo ds least (k + 1) = if least ≤ d.2.1 then highTo ds least k ++ [d.1] else highTo ds least k := by
  unfold highTo
  rw [List.take_add_one, h]
  by_cases hc : least ≤ d.2.1 <;> simp [List.filter_append, hc]
def highV (ds : List Dat) (least : Int) : List ByteArray × Int := if validD ds = false then ([], 1) else if inB least 1 5 = false then ([], 2) else (highTo ds least ds.length, 0)
end Go.Proofs.YteklfeeamjgplaaGreatDoor
