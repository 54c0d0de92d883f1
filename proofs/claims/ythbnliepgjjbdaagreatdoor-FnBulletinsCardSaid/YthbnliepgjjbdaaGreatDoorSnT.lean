/- Sentences: ReadSentence and TranslateText of both (printed by wip/tools/mk_snt.py). -/
import Derived.Test.YthbnliepgjjbdaaGreatDoorSnS
namespace Go.Proofs.YthbnliepgjjbdaaGreatDoor
open Go.ChangeShapes Go.WideShapes Go.ChangeAt Go.RowKit
set_option linter.unusedVariables false
noncomputable def rsV (n : Int) (s : ByteArray) : Sen × Int := if inB n 1 4 = false then (⟨0, 0, 0⟩, 2) else if (readV n.toNat s.data.toList).2 = true then ((readV n.toNat s.data.toList).1, 0) else (⟨0, 0, 0⟩, 8)
theorem rsV_lang {n : Int} (h : inB n 1 4 = true) (s : ByteArray) : rsV n s = if (readV n.toNat s.data.toList).2 = true then ((readV n.toNat s.data.toList).1, 0) else (⟨0, 0, 0⟩, 8) := by
  unfold rsV; rw [if_neg (by rw [h]; simp)]
noncomputable def trV (n m : Int) (s : ByteArray) : ByteArray × Int := if inB n 1 4 = true ∧ inB m 1 4 = true then (if (readV n.toNat s.data.toList).2 = true then (⟨((readV n.toNat s.data.toList).1.text m.toNat).toArray⟩, 0) else (⟨#[]⟩, 8)) else (⟨#[]⟩, 2)
theorem trV_lang {n m : Int} (hn : inB n 1 4 = true) (hm : inB m 1 4 = true) (s : ByteArray) : trV n m s = if (readV n.toNat s.data.toList).2 = true then (⟨((readV n.toNat s.data.toList).1.text m.toNat).toArray⟩, 0) else (⟨#[]⟩, 8) := by
  unfold trV; rw [if_pos ⟨hn, hm⟩]
theorem readV_ok {l : Nat} (hl : 1 ≤ l ∧ l ≤ 4) (t : List UInt8) : (readV l t).2 = true → okS (readV l t).1.k (readV l t).1.a (readV l t).1.b = true := by
  intro h
  rcases readV_cases hl t with ⟨s, h1, h2⟩ | ⟨_, h2⟩
  · rw [h2]; exact h1.1
  · rw [h2] at h; cases h
end Go.Proofs.YthbnliepgjjbdaaGreatDoor
