/- FnRegions: what the law draws. -/
import Derived.Test.YteklfeeamjgplaaGreatDoorFrE
namespace Go.Proofs.YteklfeeamjgplaaGreatDoor
open Go.ChangeShapes Go.WideShapes Go.ChangeAt Go.RowKit
set_option linter.unusedVariables false
def names7 : List ByteArray := [⟨#[101, 97, 115, 116]⟩, ⟨#[108, 97, 107, 101]⟩, ⟨#[110, 111, 114, 116, 104]⟩, ⟨#[114, 105, 100, 103, 101]⟩, ⟨#[115, 111, 117, 116, 104]⟩, ⟨#[119, 101, 115, 116]⟩, ⟨#[122, 122]⟩]
theorem l18DrawId_c (g M : Nat) (w : World) (h : Src w g M) (hM : M ≤ 100000000000000000) :
    Calls Tryz.prog 34 #[.pointer (some ⟨g, 0, none⟩)] w (fun e w' => ∃ s : ByteArray, e = .returned (.string s) ∧ s ∈ names7 ∧ Src w' g (M + 2) ∧ Only g (g + 1) w w') := by
  have HS := Lib.hid h
  have hg := h.lt
  clear h
  go_enter Tryz.func34, Tryz.ntmps34
  go_wp2_with fail
  refine (text_c g w.heap.size M 7 names7 _ (HS.out.alloc _) (Blk.new _ _ _) (by omega) rfl (by omega) (by omega) (by omega)).mono ?_
  rintro e w1 ⟨s, rfl, mm, S1, Y1⟩
  have HS1 := Lib.hid S1
  have HY1 := Lib.hid (((Only.refl g (g + 1) w).alloc' (.cells #[.string ⟨#[101, 97, 115, 116]⟩, .string ⟨#[108, 97, 107, 101]⟩, .string ⟨#[110, 111, 114, 116, 104]⟩, .string ⟨#[114, 105, 100, 103, 101]⟩, .string ⟨#[115, 111, 117, 116, 104]⟩, .string ⟨#[119, 101, 115, 116]⟩, .string ⟨#[122, 122]⟩] 9)).trans Y1)
  clear S1 Y1 HS
  go_wp2
  go_ret
  exact ⟨s, rfl, mm, HS1.out, HY1.out⟩
/-- drawn regions -/
def Drawn (w w' : World) (v : Value) (n : Nat) (rs : List Rg) : Prop :=
  OwnRegs w' w.heap.size w'.heap.size v n rs ∧ n ≤ 9 ∧ (∀ x ∈ rs, x.n ≤ 200) ∧ Below w.heap.size w w'
set_option maxHeartbeats 1000000 in
theorem drawJoined_c (A : Option Addr) (n c : Nat) (bs : List Int) (w : World) (ha : Bytes w w.heap.size A n bs) (hn : n ≤ 1048576) :
    Calls Tryz.prog 5 #[.slice A n c] w fun e w' => ∃ D m d rs, e = .returned (.slice D m d) ∧ Drawn w w' (.slice D m d) m rs := by
  have HF := Lib.hid (l00From_c A n c bs w ha (by omega))
  clear ha
  go_enter Tryz.func5, Tryz.ntmps5
  go_wp2_with fail
  refine HF.out.mono ?_
  rintro e w1 ⟨rfl, S1, B1, hs1⟩
  have HB1 := Lib.hid B1
  have HS1 := Lib.hid S1
  have HZ1 := Lib.hid hs1
  clear S1 B1 HF hs1
  go_wp2_with fail
  refine (l18Draw_c w.heap.size 0 w1 HS1.out (by omega)).mono ?_
  rintro e w2 ⟨v, m, rs, rfl, D2, hm⟩
  obtain ⟨D, d, rfl, _, _⟩ := D2.own.row.slice
  have HD2 := Lib.hid D2
  clear D2 HS1
  go_wp2
  go_ret
  exact ⟨D, m, d, rs, rfl, ⟨HD2.out.own.widen (by have := HZ1.out; omega) (Nat.le_refl _), hm, HD2.out.few, HB1.out.trans (HD2.out.only.below (B := w.heap.size) (Nat.le_refl _) (by have := HZ1.out; omega))⟩⟩
set_option maxHeartbeats 1000000 in
theorem drawSpread_c (A : Option Addr) (n c : Nat) (bs : List Int) (w : World) (ha : Bytes w w.heap.size A n bs) (hn : n ≤ 1048576) :
    Calls Tryz.prog 14 #[.slice A n c] w fun e w' => ∃ D m d rs id, e = .returned (.tuple #[.slice D m d, .string id]) ∧ Drawn w w' (.slice D m d) m rs ∧ id ∈ names7 := by
  have HF := Lib.hid (l00From_c A n c bs w ha (by omega))
  clear ha
  go_enter Tryz.func14, Tryz.ntmps14
  go_wp2_with fail
  refine HF.out.mono ?_
  rintro e w1 ⟨rfl, S1, B1, hs1⟩
  have HB1 := Lib.hid B1
  have HS1 := Lib.hid S1
  have HZ1 := Lib.hid hs1
  clear S1 B1 HF hs1
  go_wp2_with fail
  refine (l18Draw_c w.heap.size 0 w1 HS1.out (by omega)).mono ?_
  rintro e w2 ⟨v, m, rs, rfl, D2, hm⟩
  obtain ⟨D, d, rfl, _, _⟩ := D2.own.row.slice
  have HD2 := Lib.hid D2
  clear D2 HS1
  go_wp2_with fail
  refine (l18DrawId_c w.heap.size 300 w2 HD2.out.src (by omega)).mono ?_
  rintro e w3 ⟨s, rfl, mm, S3, Y3⟩
  have HD3 := Lib.hid (HD2.out.turn S3 Y3)
  clear S3 Y3 HD2
  go_wp2
  go_ret2
  exact ⟨D, m, d, rs, s, rfl, ⟨HD3.out.own.widen (by have := HZ1.out; omega) (Nat.le_refl _), hm, HD3.out.few, HB1.out.trans (HD3.out.only.below (B := w.heap.size) (Nat.le_refl _) (by have := HZ1.out; omega))⟩, mm⟩
end Go.Proofs.YteklfeeamjgplaaGreatDoor
