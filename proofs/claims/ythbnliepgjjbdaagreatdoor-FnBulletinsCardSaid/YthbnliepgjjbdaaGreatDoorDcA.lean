/- The decimal form of a number, by the reference. -/
import Derived.Test.YthbnliepgjjbdaaGreatDoorMio
import Derived.Lib.ItoaNum
import Derived.Laws.IdiomStrings
namespace Go.Proofs.YthbnliepgjjbdaaGreatDoor
open Go.ChangeShapes Go.WideShapes Go.ChangeAt Go.RowKit
set_option linter.unusedVariables false
def bys (l : List UInt8) : List Value := l.map fun b => Value.int .u8 (b.toNat : Nat)
theorem bys_app (a b : List UInt8) : bys (a ++ b) = bys a ++ bys b := by simp [bys]
theorem info_u8b : (Tryz.prog.info? 5).map (fun i => (i.zero, i.size, i.bytes)) = some (some (.int .u8 0), 1, 1) := by kernel_rfl
theorem app_u8 {ops : Array Oper} {rest : List Oper} {o : Oper} {a : Act} {Q : Exit → Act → World → Prop} {w : World} (hgd : o.guard = none) (s x : Operand)
    (ho : o.op = .call { callee := .builtin .append, args := #[s, x], argTypes := #[22, 22] })
    (lo : Nat) (v : Value) (n : Nat) (l : List UInt8) (z : UInt8) (g : Nat) (hs : a.eval s = v) (hown : w.ownsRow lo 5 1 v n (bys l))
    (hx : a.eval x = .slice (some ⟨g, 0, none⟩) 1 1) (hc : w.cell? ⟨g, 0, none⟩ = some (.int .u8 (z.toNat : Nat))) (hn : n ≤ 100000000000) (hlo : lo ≤ w.heap.size)
    (h : ∀ v' w', w'.ownsRow lo 5 1 v' (n + 1) (bys (l ++ [z])) → Below lo w w' → w.heap.size ≤ w'.heap.size → wpList Tryz.prog ops Q rest (a.put o.dst v') w') : wpList Tryz.prog ops Q (o :: rest) a w := by
  refine app_gen hgd s x _ ho lo _ _ 1 1 Tryz.underlying22 info_u8b rfl (by omega) (by omega) v n (bys l) [.int .u8 (z.toNat : Nat)] g hs hown hx rfl (by simp [Value.oneCell']) (fun j u hu => ?_) hn hlo (fun v' w' h1 h2 h3 => h v' w' (by simpa [bys] using h1) h2 h3)
  match j with
  | 0 => simp at hu; rw [hc, hu]
  | j + 1 => simp at hu
theorem owns_alD {w : World} {lo s n : Nat} {T : TypeId} {v : Value} {xs : List Value} (h : w.ownsRow lo T s v n xs) (o : Obj) : (w.alloc o).ownsRow lo T s v n xs := by
  have h2 : Own w lo w.heap.size T s v n xs := Own.of_owns h (Nat.le_refl _)
  exact (h2.below ((Below.refl w.heap.size w).alloc (Nat.le_refl _) o) (Nat.le_refl _)).1
/-- the digits of what is left, none of nothing -/
def dg (m : Nat) : List UInt8 := if m = 0 then [] else Lib.decDigits m
theorem dg_step {m : Nat} (h : 0 < m) : dg m = dg (m / 10) ++ [UInt8.ofNat (48 + m % 10)] := by
  rw [dg, if_neg (by omega), Lib.decDigits]
  split
  · rename_i h10
    rw [show m / 10 = 0 by omega, show m % 10 = m by omega]; rfl
  · rename_i h10
    rw [dg, if_neg (by omega)]
theorem dg_len : ∀ (f m : Nat), m < 10 ^ f → (dg m).length ≤ f
  | 0, m, h => by rw [show m = 0 by omega]; simp [dg]
  | f + 1, m, h => by
    by_cases h0 : m = 0
    · subst h0; simp [dg]
    · have ih := dg_len f (m / 10) (by rw [Nat.pow_succ] at h; omega)
      rw [dg_step (by omega), List.length_append]
      simp; omega
def decB (n : Nat) : ByteArray := ⟨(Lib.decDigits n).toArray⟩
end Go.Proofs.YthbnliepgjjbdaaGreatDoor
