/- sort.Search over a closure that may write; firstIn; MoreLoad by the program. -/
import Derived.Test.YtipchejcgbmpgaaLayJ
import Derived.Shelf.Abstract
import Derived.Deep.DeepCutAuto
namespace Go.Proofs.Ytipchejcgbmpgaa
open Go.ChangeShapes Go.WideShapes Go.ChangeAt Go.RowKit
set_option linter.unusedVariables false

/-- A closure that answers p for the numbers below N, in every world that has I, and keeps I. -/
def SClos (g : Nat) (lb : Array Value) (p : Nat → Bool) (N : Nat) (I : World → Prop) : Prop :=
  Enters Try.prog g ∧ ∀ (h : Nat) (W : World), h < N → I W → Calls Try.prog g (#[.int .i64 h] ++ lb) W fun e W' => e = .returned (.bool (p h)) ∧ I W'
def SearchPost (p : Nat → Bool) (N : Nat) (I : World → Prop) (e : Ending) (w' : World) : Prop :=
  ∃ k : Nat, e = .returned (.int .i64 k) ∧ k ≤ N ∧ (k = 0 ∨ p (k - 1) = false) ∧ (k = N ∨ p k = true) ∧ I w'
set_option maxHeartbeats 1000000 in
theorem search_c (g : Nat) (lb : Array Value) (p : Nat → Bool) (N : Nat) (I : World → Prop) (w : World) (hN : N ≤ 1152921504606846976) (hI : I w) (hf : SClos g lb p N I) :
    Calls Try.prog 77 #[.int .i64 N, .func (.func g) #[] lb] w (SearchPost p N I) := by
  have HF := Lib.hid hf; clear hf
  have HI := Lib.hid hI; clear hI
  go_enter Try.func77, Try.ntmps77
  go_wp2
  go_loopw [5, 6] (fun a b wr => ∃ i j : Nat, a = .int .i64 i ∧ b = .int .i64 j ∧ i ≤ j ∧ j ≤ N ∧ Hid (i = 0 ∨ p (i - 1) = false) ∧ Hid (j = N ∨ p j = true) ∧ Hid (I wr)) (fun a b _ => (intOf b - intOf a).toNat)
  case atStart => exact ⟨0, N, rfl, rfl, Nat.zero_le _, Nat.le_refl _, Lib.hid (.inl rfl), Lib.hid (.inl rfl), HI⟩
  case round =>
    obtain ⟨i, j, rfl, rfl, hij, hjN, HA, HB, HW⟩ := hrel
    by_cases hlt : i < j
    · have he := HF.out.1
      unfold Enters at he
      go_wp2_with fail
      clear he
      obtain ⟨h, hh⟩ : ∃ h : Nat, ((i : Int) + (j : Int)) / 2 = (h : Int) := ⟨(i + j) / 2, by omega⟩
      have h1 : i ≤ h := by omega
      have h2 : h < j := by omega
      rw [hh]
      clear hh
      refine (HF.out.2 h wr (by omega) HW.out).mono ?_
      rintro e w1 ⟨rfl, hI1⟩
      have HI1 := Lib.hid hI1; clear hI1
      cases hp : p h
      · have HP := Lib.hid hp; clear hp
        go_wp2
        go_roundw
        case rel => exact ⟨h + 1, j, by go_num, rfl, by omega, by omega, Lib.hid (.inr (by rw [Nat.add_sub_cancel]; exact HP.out)), HB, HI1⟩
        case measure => simp [intOf]; omega
      · have HP := Lib.hid hp; clear hp
        go_wp2
        go_roundw
        case rel => exact ⟨i, h, rfl, rfl, by omega, by omega, HA, Lib.hid (.inr HP.out), HI1⟩
        case measure => simp [intOf]; omega
    · obtain rfl : i = j := by omega
      go_wp2
      go_ret
      exact ⟨i, rfl, hjN, HA.out, HB.out, HW.out⟩
theorem Blk.only {w w' : World} {g lo hi : Nat} {T : TypeId} {cs : Array Value} (h : Blk w g T cs) (ho : Only lo hi w w') (hd : g < lo ∨ hi ≤ g) : Blk w' g T cs := (ho.block g h.lt hd).trans h
/-- A closure over one integer that answers p from 1 to N, keeps I, and turns only blocks from lo to below hi. -/
def FClos (g : Nat) (lb : Array Value) (p : Int → Bool) (N : Nat) (lo hi : Nat) (I : World → Prop) : Prop :=
  Enters Try.prog g ∧ ∀ (z : Int) (W : World), 1 ≤ z → z ≤ N → I W → Calls Try.prog g (#[.int .i64 z] ++ lb) W fun e W' => e = .returned (.bool (p z)) ∧ I W' ∧ Only lo hi W W'
theorem firstIn1_c (g : Nat) (lb : Array Value) (p : Int → Bool) (N lo hi b5 b3 T5 T3 : Nat) (I : World → Prop) (hf : FClos g lb p N lo hi I) (hN : N ≤ 1152921504606846976) (h5 : hi ≤ b5) (h3 : hi ≤ b3) :
    SClos 78 #[.pointer (some ⟨b5, 0, none⟩), .pointer (some ⟨b3, 0, none⟩)] (fun k => p (1 + k)) N (fun W => I W ∧ Blk W b5 T5 #[.func (.func g) #[] lb] ∧ Blk W b3 T3 #[.int .i64 1]) := by
  refine ⟨enters_of Try.func78 (by kernel_rfl) rfl, fun h W hN ⟨hI, k5, k3⟩ => ?_⟩
  have HI := Lib.hid hI; clear hI
  have HF := Lib.hid hf; clear hf
  have K5 := Lib.hid k5
  have K3 := Lib.hid k3
  have c5 := k5.cell 0
  have c3 := k3.cell 0
  simp at c5 c3
  clear k5 k3
  have he := HF.out.1
  unfold Enters at he
  show Calls _ _ #[_, _, _] _ _
  go_enter Try.func78, Try.ntmps78
  go_wp2_with fail
  clear he c5 c3
  refine (HF.out.2 _ W (by omega) (by omega) HI.out).mono ?_
  rintro e w1 ⟨rfl, hI1, ho⟩
  have K5' := Lib.hid (K5.out.only ho (.inr h5))
  have K3' := Lib.hid (K3.out.only ho (.inr h3))
  have HI1 := Lib.hid hI1; clear hI1 ho
  go_wp2
  go_ret
  exact ⟨rfl, HI1.out, K5'.out, K3'.out⟩
def FirstPost (p : Int → Bool) (N : Nat) (I : World → Prop) (e : Ending) (w' : World) : Prop :=
  ∃ k : Nat, e = .returned (.tuple #[.int .i64 (1 + k), .bool (decide (k < N))]) ∧ k ≤ N ∧ (k = 0 ∨ p k = false) ∧ (k = N ∨ p (1 + k) = true) ∧ I w'
set_option maxHeartbeats 1000000 in
theorem firstIn_c (g : Nat) (lb : Array Value) (p : Int → Bool) (N lo hi : Nat) (I : World → Prop) (w : World) (hI : I w) (hA : ∀ W o, I W → I (W.alloc o)) (hf : FClos g lb p N lo hi I) (hN : N ≤ 1000000000) (hh : hi ≤ w.heap.size) :
    Calls Try.prog 49 #[.int .i64 1, .int .i64 N, .func (.func g) #[] lb] w (FirstPost p N I) := by
  have HI := Lib.hid hI; clear hI
  have HA := Lib.hid hA; clear hA
  have HF := Lib.hid hf; clear hf
  have HS := Lib.hid fun b5 b3 T5 T3 (W : World) (h5 : hi ≤ b5) (h3 : hi ≤ b3) (hW : I W ∧ Blk W b5 T5 #[.func (.func g) #[] lb] ∧ Blk W b3 T3 #[.int .i64 1]) =>
    search_c 78 #[.pointer (some ⟨b5, 0, none⟩), .pointer (some ⟨b3, 0, none⟩)] (fun k => p (1 + k)) N _ W (by omega) hW (firstIn1_c g lb p N lo hi b5 b3 T5 T3 I HF.out (by omega) h5 h3)
  go_enter Try.func49, Try.ntmps49
  go_wp2_with fail
  have hb5 : Blk ((w.alloc (.cells #[.int .i64 1] 2)).alloc (.cells #[.func (.func g) #[] lb] 49)) (w.heap.size + 1) 49 #[.func (.func g) #[] lb] := by
    have h := Blk.new (w.alloc (.cells #[.int .i64 1] 2)) 49 #[.func (.func g) #[] lb]
    simpa using h
  refine (HS.out (w.heap.size + 1) w.heap.size _ _ _ (by omega) hh ⟨HA.out _ _ (HA.out _ _ HI.out), hb5, (Blk.new _ _ _).alloc _⟩).mono ?_
  clear hb5
  rintro e w1 ⟨k, rfl, hk, h1, h2, hI1, k5, k3⟩
  have c3 := k3.cell 0
  simp at c3
  have H1 := Lib.hid h1
  have H2 := Lib.hid h2
  have HI1 := Lib.hid hI1
  clear h1 h2 hI1 k5 k3
  go_wp2
  all_goals go_ret2
  all_goals
    refine ⟨k, ?_, hk, ?_, H2.out, HI1.out⟩
    · first | rfl | (congr 3; simp; omega) | simp
    · rcases H1.out with h | h
      · exact .inl h
      · by_cases hk0 : k = 0
        · exact .inl hk0
        · right; rw [← h]; congr 1; omega
theorem only_set (w : World) (g i : Nat) (u : Value) : Only g (g + 1) w (w.setCell ⟨g, i, none⟩ u) :=
  ⟨rfl, rfl, rfl, by simp, fun k hk hc => Below.heap_setCell _ _ _ _ (by rintro rfl; simp at hc; omega)⟩
theorem Only.of_all {w w' : World} {lo hi : Nat} (h : Below w.heap.size w w') : Only lo hi w w' := ⟨h.os, h.tape, h.output, h.size, fun k hk _ => h.block k hk⟩
def MInv (A : Option Addr) (n c BA : Nat) (ls : List Lay) (rise run d limit : Int) (g0 g1 : Nat) (W : World) : Prop :=
  ∃ m : Int, Blk W g1 56 #[.slice A n c, .int .i64 rise, .int .i64 run, .int .i64 d, .int .i64 m] ∧ Blk W g0 2 #[.int .i64 limit] ∧ Reads W BA 7 A n (lays ls) ∧ BA ≤ g0 ∧ g0 < g1
theorem MInv.alloc {A : Option Addr} {n c BA g0 g1 : Nat} {ls : List Lay} {rise run d limit : Int} {W : World} (h : MInv A n c BA ls rise run d limit g0 g1 W) (o : Obj) : MInv A n c BA ls rise run d limit g0 g1 (W.alloc o) := by
  obtain ⟨m, k1, k0, hr, h1, h2⟩ := h
  exact ⟨m, k1.alloc o, k0.alloc o, hr.alloc (by have := k1.lt; omega) o, h1, h2⟩
theorem moreLoad1_c (A : Option Addr) (n c BA : Nat) (ls : List Lay) (rise run d limit : Int) (g0 g1 : Nat) (hnc : n ≤ c) (hp : proB ls = true) (h1 : slopeB rise run = true) (h2 : doubtB d = true) :
    FClos 50 #[.pointer (some ⟨g1, 0, none⟩), .pointer (some ⟨g0, 0, none⟩)] (fun z => !stabV ls z rise run d limit) 1000000 g1 (g1 + 1) (MInv A n c BA ls rise run d limit g0 g1) := by
  refine ⟨enters_of Try.func50 (by kernel_rfl) rfl, fun z W z1 z2 ⟨m, k1, k0, hr, hb0, h01⟩ => ?_⟩
  have HS := Lib.hid fun W' hB (hr : Reads W' BA 7 A n (lays ls)) => stable_c A n c BA ls z rise run d limit W' hr hB hnc hp (args_of (by omega) (by omega) h1 h2)
  simp only [slabV] at HS
  have K1 := Lib.hid (k1.set_ 4 (.int .i64 z))
  have HR := Lib.hid (hr.setCell (p := ⟨g1, 4, none⟩) (by show BA ≤ g1; omega) (.int .i64 z))
  have K0 := Lib.hid (k0.far (p := ⟨g1, 4, none⟩) (by show g0 ≠ g1; omega) (.int .i64 z))
  have hlt := k1.lt
  have x4 : W.cell? ⟨g1, 4, none⟩ = some (.int .i64 m) := k1.cell 4
  have f4 := k1.frozen 4
  have hO := Lib.hid (only_set W g1 4 (.int .i64 z))
  have hsz : (W.setCell ⟨g1, 4, none⟩ (.int .i64 z)).heap.size = W.heap.size := by simp
  obtain ⟨W1, hW1⟩ : ∃ W1, W1 = W.setCell ⟨g1, 4, none⟩ (.int .i64 z) := ⟨_, rfl⟩
  rw [← hW1] at K1 HR K0 hO hsz
  clear k1 k0 hr hp h1 h2
  have HW1 := Lib.hid hW1; clear hW1
  have HSZ := Lib.hid hsz; clear hsz
  show Calls _ _ #[_, _, _] _ _
  go_enter Try.func50, Try.ntmps50
  go_upto_region 2 with (fail)
  rw [← HW1.out]
  clear x4 f4
  have x0 : W1.cell? ⟨g1, 0, none⟩ = some (.slice A n c) := K1.out.cell 0
  have x1 : W1.cell? ⟨g1, 1, none⟩ = some (.int .i64 rise) := K1.out.cell 1
  have x2 : W1.cell? ⟨g1, 2, none⟩ = some (.int .i64 run) := K1.out.cell 2
  have x3 : W1.cell? ⟨g1, 3, none⟩ = some (.int .i64 d) := K1.out.cell 3
  have x4 : W1.cell? ⟨g1, 4, none⟩ = some (.int .i64 z) := K1.out.cell 4
  have y0 : W1.cell? ⟨g0, 0, none⟩ = some (.int .i64 limit) := K0.out.cell 0
  go_wp2_with fail
  refine (HS.out W1 (by rw [HSZ.out]; omega) HR.out).mono ?_
  rintro e w1 ⟨rfl, hb1⟩
  have HB := Lib.hid hb1
  clear hb1 x0 x1 x2 x3 x4 y0
  go_wp2
  go_ret
  have hl1 := HSZ.out
  exact ⟨rfl, ⟨z, K1.out.below HB.out (by omega), K0.out.below HB.out (by omega), HR.out.below (HB.out.mono (by omega)), hb0, h01⟩, hO.out.trans (.of_all HB.out)⟩
end Go.Proofs.Ytipchejcgbmpgaa
