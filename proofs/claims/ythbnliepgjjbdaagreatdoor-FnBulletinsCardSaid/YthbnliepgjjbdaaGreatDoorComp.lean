/- ComposeBulletin. -/
import Derived.Test.YthbnliepgjjbdaaGreatDoorSenM
import Derived.Test.YthbnliepgjjbdaaGreatDoorOpenS
import Derived.Test.YthbnliepgjjbdaaGreatDoorTc
namespace Go.Proofs.YthbnliepgjjbdaaGreatDoor
open Go.ChangeShapes Go.WideShapes Go.ChangeAt Go.RowKit
set_option linter.unusedVariables false

def compOk (a b c d e : Int) : Bool := inB a 1 5 && inB b 1 5 && inB c 0 5000 && inB d 0 500 && inB e 0 500
def compV (a b c d e : Int) : List Sen :=
  if compOk a b c d e then [⟨1, b, 0⟩, ⟨2, cmpV b a, 0⟩, ⟨3, c, 0⟩] ++ (if d = 0 then [] else [⟨5, d, 0⟩]) ++ (if e = 0 then [] else [⟨6, e, 0⟩]) else []
def compE (a b c d e : Int) : Int := if compOk a b c d e then 0 else 2

theorem ownsAlloc {w : World} {base : Nat} {e : TypeId} {size n : Nat} {v : Value} {xs : List Value} (h : w.ownsRow base e size v n xs) (o : Obj) : (w.alloc o).ownsRow base e size v n xs := by
  have h1 : Own w base (w.heap.size) e size v n xs := Own.of_owns h (Nat.le_refl _)
  exact (h1.below ((Below.refl w.heap.size w).alloc (Nat.le_refl _) o) (Nat.le_refl _)).1

theorem app_sen {ops : Array Oper} {rest : List Oper} {o : Oper} {a : Act} {Q : Exit → Act → World → Prop} {w : World} (hgd : o.guard = none) (s x : Operand)
    (ho : o.op = .call { callee := .builtin .append, args := #[s, x], argTypes := #[25, 25] })
    (lo : Nat) (v : Value) (n : Nat) (ss : List Sen) (z : Sen) (g : Nat) (hs : a.eval s = v) (hown : w.ownsRow lo 38 3 v n (sens ss))
    (hx : a.eval x = .slice (some ⟨g, 0, none⟩) 1 1) (h0 : w.cell? ⟨g, 0, none⟩ = some (.int .i64 z.k)) (h1 : w.cell? ⟨g, 1, none⟩ = some (.int .i64 z.a)) (h2 : w.cell? ⟨g, 2, none⟩ = some (.int .i64 z.b))
    (hn : n ≤ 100000000000) (hlo : lo ≤ w.heap.size)
    (h : ∀ v' w', w'.ownsRow lo 38 3 v' (n + 1) (sens (ss ++ [z])) → Below lo w w' → w.heap.size ≤ w'.heap.size → wpList Tryz.prog ops Q rest (a.put o.dst v') w') : wpList Tryz.prog ops Q (o :: rest) a w := by
  refine app_gen hgd s x _ ho lo _ _ 3 24 Tryz.underlying25 info_sen rfl (by omega) (by omega) v n (sens ss) z.cells g hs hown hx rfl (by simp [Value.oneCell', Sen.cells]) (fun j u hu => ?_) hn hlo (fun v' w' k1 k2 k3 => h v' w' (by rw [sens_app]; simpa [sens] using k1) k2 k3)
  match j with
  | 0 => simp [Sen.cells] at hu; rw [h0, hu]
  | 1 => simp [Sen.cells] at hu; rw [h1, hu]
  | 2 => simp [Sen.cells] at hu; rw [h2, hu]
  | j + 3 => simp [Sen.cells] at hu
end Go.Proofs.YthbnliepgjjbdaaGreatDoor
