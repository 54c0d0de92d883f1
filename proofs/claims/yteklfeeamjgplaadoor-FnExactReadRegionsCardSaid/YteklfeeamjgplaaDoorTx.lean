/- Texts: comparing, appending, splitting at a byte. -/
import Derived.Test.YteklfeeamjgplaaDoorZnA
import Derived.Test.YteklfeeamjgplaaDoorRgA
import Derived.Test.YteklfeeamjgplaaDoorRgN
import Derived.BigQuiet
import Derived.Lib.QuietBelow
namespace Go.Proofs.YteklfeeamjgplaaDoor
open Go.ChangeShapes Go.WideShapes Go.ChangeAt Go.RowKit
set_option linter.unusedVariables false
theorem zquiet_b {P : Program} {f : FuncId} {args : Array Value} {w : World} {v : Value} (h : Calls P f args w fun e w' => e = .returned v ∧ w = w') :
    Calls P f args w fun e w' => e = .returned v ∧ Below w.heap.size w w' := h.mono fun _ _ ⟨he, hw⟩ => ⟨he, by subst hw; exact Below.refl _ _⟩
theorem owns_alZ {w : World} {lo s n : Nat} {T : TypeId} {v : Value} {xs : List Value} (h : w.ownsRow lo T s v n xs) (o : Obj) : (w.alloc o).ownsRow lo T s v n xs := by
  have h2 : Own w lo w.heap.size T s v n xs := Own.of_owns h (Nat.le_refl _)
  exact (h2.below ((Below.refl w.heap.size w).alloc (Nat.le_refl _) o) (Nat.le_refl _)).1
theorem owns_belZ {w w' : World} {lo B s n : Nat} {T : TypeId} {v : Value} {xs : List Value} (h : w.ownsRow lo T s v n xs) (hb : Below B w w') (hB : w.heap.size ≤ B) : w'.ownsRow lo T s v n xs :=
  ((Own.of_owns h (Nat.le_refl _)).below hb hB).1
theorem eqT (a b : ByteArray) : (a.toList == b.toList) = decide (a = b) := by
  rw [ByteArray.toList_eq, ByteArray.toList_eq, Bool.eq_iff_iff, beq_iff_eq, decide_eq_true_iff]
  constructor
  · intro h
    obtain ⟨⟨a⟩⟩ := a
    obtain ⟨⟨b⟩⟩ := b
    simp at h
    rw [h]
  · rintro rfl; rfl
/-- the list of integers that a row of texts stands for -/
def SPost (l : List ByteArray) (w : World) (e : Ending) (w' : World) : Prop :=
  ∃ A c, e = .returned (.slice A l.length c) ∧ Own w' w.heap.size w'.heap.size 9 1 (.slice A l.length c) l.length (strs l) ∧ Below w.heap.size w w'
theorem byte_list (s : ByteArray) {k : Nat} (h : k < s.size) (c : UInt8) : decide (s.data.toList[k]? = some c) = ((((s[k]'h).toNat : Nat) : Int) == (c.toNat : Nat)) := by
  have h2 : s.data.toList[k]? = some (s[k]'h) := by
    rw [Array.getElem?_toList, Array.getElem?_eq_getElem h]; rfl
  rw [h2, Bool.eq_iff_iff, decide_eq_true_iff, beq_iff_eq, Option.some.injEq]
  constructor
  · rintro rfl; rfl
  · intro e
    exact UInt8.toNat_inj.1 (by omega)
set_option maxHeartbeats 2000000 in
theorem l01Split_c (s : ByteArray) (c : UInt8) (w : World) (hs : s.size ≤ 1048576) :
    Calls Tryd.prog 45 #[.string s, .int .u8 (c.toNat : Nat)] w (SPost (splitS s c) w) := by
  have O1 : Hid ((w.alloc (.cells #[] 9)).ownsRow w.heap.size 9 1 (.slice (some ⟨w.heap.size, 0, none⟩) 0 0) 0 (strs [])) := Lib.hid (World.ownsRow_lit (w := w) (base := w.heap.size) (e := 9) (size := 1) #[] 0 (Nat.le_refl _) (by simp [maxLen]) (by simp))
  have B1 : Hid (Below w.heap.size w (w.alloc (.cells #[] 9))) := Lib.hid ((Below.refl _ _).alloc (Nat.le_refl _) _)
  have HLE := Lib.hid fun k => spB_len s c k
  have HIV := Lib.hid fun k (hk : k ≤ s.size) => (spB_inv s c k (by rw [size_l]; exact hk)).le
  go_enter Tryd.func45, Tryd.ntmps45
  go_wp2
  go_loopw [5, 6, 7] (fun ov fv iv wr => ∃ k : Nat, k ≤ s.size ∧ iv = .int .i64 k ∧ fv = .int .i64 (spB s c k).2 ∧ Hid (wr.ownsRow w.heap.size 9 1 ov (spB s c k).1.length (strs (spB s c k).1)) ∧ Hid (Below w.heap.size w wr)) (fun _ _ iv _ => s.size - (intOf iv).toNat)
  case atStart => exact ⟨0, Nat.zero_le _, rfl, rfl, O1, B1⟩
  case round =>
    clear O1 B1
    obtain ⟨k, hk, rfl, rfl, HO, HB⟩ := hrel
    have hwr := HB.out.size
    have hf := HIV.out k hk
    have hl := HLE.out k
    by_cases hlt : k < s.size
    · have hkn : (k : Int) < (s.size : Int) := by omega
      have hk0 : (0 : Int) ≤ (k : Int) := by omega
      have HBE := Lib.hid (byte_list s hlt c)
      have HSP := Lib.hid (show spB s c (k + 1) = if s.data.toList[k]? = some c then ((spB s c k).1 ++ [s.extract (spB s c k).2 k], k + 1) else spB s c k from rfl)
      generalize spB s c k = st at *
      obtain ⟨P, f⟩ := st
      simp only at *
      by_cases he : s.data.toList[k]? = some c
      · rw [if_pos he] at HSP
        rw [decide_eq_true he] at HBE
        have hd : ((((s[k]'hlt).toNat : Nat) : Int) == (c.toNat : Nat)) = true := HBE.out.symm
        have HOW := Lib.hid (owns_alZ HO.out (.cells #[.string (s.extract f k)] 9))
        clear he
        go_wp2_with (at_builtin; refine app_str rfl (.tmp 20) (.tmp 25) rfl w.heap.size _ P.length P (s.extract f k) _ rfl HOW.out rfl ?_ (by omega) ?_ ?_)
        rotate_left 2
        · intro v' w2 O4 B4 hs4
          have HO2 : Hid (w2.ownsRow w.heap.size 9 1 v' (spB s c (k + 1)).1.length (strs (spB s c (k + 1)).1)) := Lib.hid (by rw [HSP.out, List.length_append]; exact O4)
          have HB2 := Lib.hid (HB.out.trans ((((Below.refl w.heap.size wr).alloc hwr (.cells #[.string (s.extract f k)] 9))).trans B4))
          clear O4 B4 hs4 HOW
          go_wp2
          go_roundw
          case rel => exact ⟨k + 1, by omega, by go_num, by rw [HSP.out]; go_num, HO2, HB2⟩
          case measure => simp [intOf]; omega
        · exact (Blk.new _ _ _).cell 0
        · simp; omega
      · rw [if_neg he] at HSP
        rw [decide_eq_false he] at HBE
        have hd : ((((s[k]'hlt).toNat : Nat) : Int) == (c.toNat : Nat)) = false := HBE.out.symm
        clear he
        go_wp2
        go_roundw
        case rel => exact ⟨k + 1, by omega, by go_num, by rw [HSP.out], by rw [HSP.out]; exact HO, HB⟩
        case measure => simp [intOf]; omega
    · obtain rfl : k = s.size := by omega
      have HSS := Lib.hid (show splitS s c = (spB s c s.size).1 ++ [s.extract (spB s c s.size).2 s.size] from rfl)
      generalize spB s c s.size = st at *
      obtain ⟨P, f⟩ := st
      simp only at *
      have HOW := Lib.hid (owns_alZ HO.out (.cells #[.string (s.extract f s.size)] 9))
      go_wp2_with (at_builtin; refine app_str rfl (.tmp 29) (.tmp 33) rfl w.heap.size _ P.length P (s.extract f s.size) _ rfl HOW.out rfl ?_ (by omega) ?_ ?_)
      rotate_left 2
      · intro v' w2 O4 B4 hs4
        have HB2 := Lib.hid (HB.out.trans ((((Below.refl w.heap.size wr).alloc hwr (.cells #[.string (s.extract f s.size)] 9))).trans B4))
        obtain ⟨A2, c2, rfl, _, _⟩ := (Own.of_owns O4 (Nat.le_refl _)).slice
        have HO2 := Lib.hid (Own.of_owns O4 (Nat.le_refl _))
        clear O4 B4 hs4 HOW
        go_wp2
        go_ret
        refine ⟨A2, c2, by rw [HSS.out, List.length_append]; rfl, ?_, HB2.out⟩
        rw [HSS.out, List.length_append]; exact HO2.out
      · exact (Blk.new _ _ _).cell 0
      · simp; omega
theorem empT (s : ByteArray) : (s.toList == []) = decide (s.size = 0) := by
  have e : s.toList.length = s.size := by rw [ByteArray.toList_eq]; rfl
  rw [Bool.eq_iff_iff, beq_iff_eq, decide_eq_true_iff]
  constructor
  · intro h; rw [h] at e; simpa using e.symm
  · intro h; rw [h] at e; exact List.eq_nil_of_length_eq_zero e
end Go.Proofs.YteklfeeamjgplaaDoor
