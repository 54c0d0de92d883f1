/- Sentences: patterns, words and numbers, by the program. -/
import Derived.Test.YthbnliepgjjbdaaGreatDoorSnA
import Derived.Test.YthbnliepgjjbdaaGreatDoorRgA
import Derived.Test.YthbnliepgjjbdaaGreatDoorSh
import Derived.BigQuiet
import Derived.Lib.QuietBelow
import Derived.Lib.AppendIntMem
import Derived.Lib.LaidTab
import Derived.Deep.WholeRow
import Derived.Great.Walk
namespace Go.Proofs.YthbnliepgjjbdaaGreatDoor
open Go.ChangeShapes Go.WideShapes Go.ChangeAt Go.RowKit
set_option linter.unusedVariables false
theorem tab_below {w w' : World} {B g : Nat} {name : String} {k : IntKind} {zs : List Int} (h : Lib.TabIs Tryz.prog w name k zs) (hg : Tryz.prog.globalNamed name = some g) (hb : Below B w w') (hB : g < B) : Lib.TabIs Tryz.prog w' name k zs := by
  unfold Lib.TabIs World.var? at h ⊢
  rw [hg] at h ⊢
  simp only [Option.bind_some] at h ⊢
  rw [hb.block g hB]; exact h
/-- what the program's numbers lean on: a library table -/
def Tab10 (w : World) : Prop := Lib.TabIs Tryz.prog w "internal/strconv.uint64pow10" .u64 Lib.pow10Tab
theorem gTab10 : Tryz.prog.globalNamed "internal/strconv.uint64pow10" = some 3 := by kernel_rfl
theorem Tab10.below {w w' : World} (h : Tab10 w) (hb : Below w.heap.size w w') : Tab10 w' := by
  have hg := gTab10
  refine tab_below h hg hb ?_
  unfold Tab10 Lib.TabIs World.var? at h
  rw [hg] at h
  simp only [Option.bind_some] at h
  cases hq : w.heap[3]? with
  | none => rw [hq] at h; cases h
  | some o => exact (Array.getElem?_eq_some_iff.1 hq).1
theorem iDecimal_c (n : Nat) (w : World) (hn : n ≤ 9223372036854775807) (ht : Tab10 w) : Calls Tryz.prog 37 #[.int .i64 n] w fun e w' => e = .returned (.string (decB n)) ∧ Below w.heap.size w w' := by
  have HF := Lib.hid (Tryz.strconv_FormatInt_10 (n : Int) (by omega) (by omega) w ht)
  have HV : Hid ((⟨(Lib.itoa (n : Int)).toArray⟩ : ByteArray) = decB n) := Lib.hid (by unfold decB Lib.itoa; rw [if_neg (by omega), Int.toNat_natCast])
  clear ht
  go_enter Tryz.func37, Tryz.ntmps37
  go_wp2_with fail
  refine HF.out.mono ?_
  rintro e w' ⟨rfl, k, os, rfl⟩
  rw [HV.out]
  go_wp2
  go_ret
  exact ⟨rfl, Lib.below_grow _ _ (Nat.le_refl _) _ _⟩
def PatAt (W : World) (g : Nat) : Prop := ∀ k l : Nat, 1 ≤ k → k ≤ 7 → 1 ≤ l → l ≤ 4 → W.cell? ⟨g, 4 * k + (l - 1), none⟩ = some (.string ⟨(patT k l).toArray⟩)
theorem patAt_blk {W : World} {g : Nat} {T : TypeId} {cs : Array Value} (h : Blk W g T cs) (hc : ∀ k l : Nat, 1 ≤ k → k ≤ 7 → 1 ≤ l → l ≤ 4 → cs[4 * k + (l - 1)]? = some (.string ⟨(patT k l).toArray⟩)) : PatAt W g :=
  fun k l h1 h2 h3 h4 => (h.cell _).trans (hc k l h1 h2 h3 h4)
set_option maxHeartbeats 4000000 in
set_option maxRecDepth 100000 in
theorem sentencePattern_c (k l : Nat) (hk : 1 ≤ k ∧ k ≤ 7) (hl : 1 ≤ l ∧ l ≤ 4) (w : World) : Calls Tryz.prog 39 #[.int .i64 k, .int .i64 l] w fun e w' => e = .returned (.string ⟨(patT k l).toArray⟩) ∧ Below w.heap.size w w' := by
  go_enter Tryz.func39, Tryz.ntmps39
  generalize h11 : (⟨#[84, 104, 101, 32, 100, 97, 110, 103, 101, 114, 32, 108, 101, 118, 101, 108, 32, 105, 115, 32, 60, 65, 62, 46]⟩ : ByteArray) = s11
  generalize h12 : (⟨#[68, 105, 101, 32, 71, 101, 102, 97, 104, 114, 101, 110, 115, 116, 117, 102, 101, 32, 105, 115, 116, 32, 60, 65, 62, 46]⟩ : ByteArray) = s12
  generalize h13 : (⟨#[76, 101, 32, 110, 105, 118, 101, 97, 117, 32, 100, 101, 32, 100, 97, 110, 103, 101, 114, 32, 101, 115, 116, 32, 60, 65, 62, 46]⟩ : ByteArray) = s13
  generalize h14 : (⟨#[73, 108, 32, 103, 114, 97, 100, 111, 32, 100, 105, 32, 112, 101, 114, 105, 99, 111, 108, 111, 32, 118, 97, 108, 101, 32, 60, 65, 62, 46]⟩ : ByteArray) = s14
  generalize h21 : (⟨#[84, 104, 101, 32, 100, 97, 110, 103, 101, 114, 32, 60, 65, 62, 46]⟩ : ByteArray) = s21
  generalize h22 : (⟨#[68, 105, 101, 32, 71, 101, 102, 97, 104, 114, 32, 60, 65, 62, 46]⟩ : ByteArray) = s22
  generalize h23 : (⟨#[76, 101, 32, 100, 97, 110, 103, 101, 114, 32, 60, 65, 62, 46]⟩ : ByteArray) = s23
  generalize h24 : (⟨#[73, 108, 32, 112, 101, 114, 105, 99, 111, 108, 111, 32, 60, 65, 62, 46]⟩ : ByteArray) = s24
  generalize h31 : (⟨#[84, 97, 107, 101, 32, 99, 97, 114, 101, 32, 97, 98, 111, 118, 101, 32, 60, 65, 62, 32, 109, 101, 116, 114, 101, 115, 46]⟩ : ByteArray) = s31
  generalize h32 : (⟨#[86, 111, 114, 115, 105, 99, 104, 116, 32, 111, 98, 101, 114, 104, 97, 108, 98, 32, 118, 111, 110, 32, 60, 65, 62, 32, 77, 101, 116, 101, 114, 110, 46]⟩ : ByteArray) = s32
  generalize h33 : (⟨#[65, 116, 116, 101, 110, 116, 105, 111, 110, 32, 97, 117, 45, 100, 101, 115, 115, 117, 115, 32, 100, 101, 32, 60, 65, 62, 32, 109, 101, 116, 114, 101, 115, 46]⟩ : ByteArray) = s33
  generalize h34 : (⟨#[65, 116, 116, 101, 110, 122, 105, 111, 110, 101, 32, 115, 111, 112, 114, 97, 32, 105, 32, 60, 65, 62, 32, 109, 101, 116, 114, 105, 46]⟩ : ByteArray) = s34
  generalize h41 : (⟨#[84, 97, 107, 101, 32, 99, 97, 114, 101, 32, 111, 110, 32, 115, 108, 111, 112, 101, 115, 32, 102, 114, 111, 109, 32, 60, 65, 62, 32, 116, 111, 32, 60, 66, 62, 46]⟩ : ByteArray) = s41
  generalize h42 : (⟨#[86, 111, 114, 115, 105, 99, 104, 116, 32, 97, 110, 32, 76, 97, 103, 101, 110, 32, 118, 111, 110, 32, 60, 65, 62, 32, 98, 105, 115, 32, 60, 66, 62, 46]⟩ : ByteArray) = s42
  generalize h43 : (⟨#[65, 116, 116, 101, 110, 116, 105, 111, 110, 32, 115, 117, 114, 32, 108, 101, 115, 32, 112, 101, 110, 116, 101, 115, 32, 100, 101, 32, 60, 65, 62, 32, 101, 110, 32, 60, 66, 62, 46]⟩ : ByteArray) = s43
  generalize h44 : (⟨#[65, 116, 116, 101, 110, 122, 105, 111, 110, 101, 32, 115, 117, 105, 32, 112, 101, 110, 100, 105, 105, 32, 100, 97, 32, 60, 65, 62, 32, 102, 105, 110, 111, 32, 97, 32, 60, 66, 62, 46]⟩ : ByteArray) = s44
  generalize h51 : (⟨#[78, 101, 119, 32, 115, 110, 111, 119, 58, 32, 60, 65, 62, 32, 99, 101, 110, 116, 105, 109, 101, 116, 114, 101, 115, 46]⟩ : ByteArray) = s51
  generalize h52 : (⟨#[78, 101, 117, 115, 99, 104, 110, 101, 101, 58, 32, 60, 65, 62, 32, 90, 101, 110, 116, 105, 109, 101, 116, 101, 114, 46]⟩ : ByteArray) = s52
  generalize h53 : (⟨#[78, 101, 105, 103, 101, 32, 102, 114, 97, 105, 99, 104, 101, 58, 32, 60, 65, 62, 32, 99, 101, 110, 116, 105, 109, 101, 116, 114, 101, 115, 46]⟩ : ByteArray) = s53
  generalize h54 : (⟨#[78, 101, 118, 101, 32, 102, 114, 101, 115, 99, 97, 58, 32, 60, 65, 62, 32, 99, 101, 110, 116, 105, 109, 101, 116, 114, 105, 46]⟩ : ByteArray) = s54
  generalize h61 : (⟨#[65, 32, 119, 101, 97, 107, 32, 108, 97, 121, 101, 114, 32, 108, 105, 101, 115, 32, 60, 65, 62, 32, 99, 101, 110, 116, 105, 109, 101, 116, 114, 101, 115, 32, 100, 101, 101, 112, 46]⟩ : ByteArray) = s61
  generalize h62 : (⟨#[69, 105, 110, 101, 32, 115, 99, 104, 119, 97, 99, 104, 101, 32, 83, 99, 104, 105, 99, 104, 116, 32, 108, 105, 101, 103, 116, 32, 60, 65, 62, 32, 90, 101, 110, 116, 105, 109, 101, 116, 101, 114, 32, 116, 105, 101, 102, 46]⟩ : ByteArray) = s62
  generalize h63 : (⟨#[85, 110, 101, 32, 99, 111, 117, 99, 104, 101, 32, 102, 114, 97, 103, 105, 108, 101, 32, 101, 115, 116, 32, 97, 32, 60, 65, 62, 32, 99, 101, 110, 116, 105, 109, 101, 116, 114, 101, 115, 32, 115, 111, 117, 115, 32, 108, 97, 32, 115, 117, 114, 102, 97, 99, 101, 46]⟩ : ByteArray) = s63
  generalize h64 : (⟨#[85, 110, 111, 32, 115, 116, 114, 97, 116, 111, 32, 100, 101, 98, 111, 108, 101, 32, 115, 116, 97, 32, 97, 32, 60, 65, 62, 32, 99, 101, 110, 116, 105, 109, 101, 116, 114, 105, 32, 115, 111, 116, 116, 111, 32, 108, 97, 32, 115, 117, 112, 101, 114, 102, 105, 99, 105, 101, 46]⟩ : ByteArray) = s64
  generalize h71 : (⟨#[84, 104, 101, 32, 119, 105, 110, 100, 32, 99, 111, 109, 101, 115, 32, 102, 114, 111, 109, 32, 60, 65, 62, 46]⟩ : ByteArray) = s71
  generalize h72 : (⟨#[68, 101, 114, 32, 87, 105, 110, 100, 32, 107, 111, 109, 109, 116, 32, 97, 117, 115, 32, 60, 65, 62, 46]⟩ : ByteArray) = s72
  generalize h73 : (⟨#[76, 101, 32, 118, 101, 110, 116, 32, 118, 105, 101, 110, 116, 32, 100, 101, 32, 60, 65, 62, 46]⟩ : ByteArray) = s73
  generalize h74 : (⟨#[73, 108, 32, 118, 101, 110, 116, 111, 32, 118, 105, 101, 110, 101, 32, 100, 97, 32, 60, 65, 62, 46]⟩ : ByteArray) = s74
  go_upto_region 1 with (fail)
  go_cut [5] (fun p wx => p = .pointer (some ⟨w.heap.size, 0, none⟩) ∧ Hid (PatAt wx w.heap.size) ∧ Hid (Below w.heap.size w wx))
  case first =>
    refine wp_region_lit ?_
    refine Go.Great.wpList_runTo rfl (some 6) rfl (.agg #[.string s11, .string s12, .string s13, .string s14]) w (by kernel_rfl) ?_
    refine Go.Great.wpList_runTo rfl (some 7) rfl (.agg #[.string s21, .string s22, .string s23, .string s24]) w (by kernel_rfl) ?_
    refine Go.Great.wpList_runTo rfl (some 8) rfl (.agg #[.string s31, .string s32, .string s33, .string s34]) w (by kernel_rfl) ?_
    refine Go.Great.wpList_runTo rfl (some 9) rfl (.agg #[.string s41, .string s42, .string s43, .string s44]) w (by kernel_rfl) ?_
    refine Go.Great.wpList_runTo rfl (some 10) rfl (.agg #[.string s51, .string s52, .string s53, .string s54]) w (by kernel_rfl) ?_
    refine Go.Great.wpList_runTo rfl (some 11) rfl (.agg #[.string s61, .string s62, .string s63, .string s64]) w (by kernel_rfl) ?_
    refine Go.Great.wpList_runTo rfl (some 12) rfl (.agg #[.string s71, .string s72, .string s73, .string s74]) w (by kernel_rfl) ?_
    refine Go.Great.wpList_runTo rfl (some 13) rfl (.agg #[.string ⟨#[]⟩, .string ⟨#[]⟩, .string ⟨#[]⟩, .string ⟨#[]⟩, .string s11, .string s12, .string s13, .string s14, .string s21, .string s22, .string s23, .string s24, .string s31, .string s32, .string s33, .string s34, .string s41, .string s42, .string s43, .string s44, .string s51, .string s52, .string s53, .string s54, .string s61, .string s62, .string s63, .string s64, .string s71, .string s72, .string s73, .string s74]) w (by kernel_rfl) ?_
    refine Go.Great.wpList_runTo rfl (some 5) rfl (.pointer (some ⟨w.heap.size, 0, none⟩)) (w.alloc (.cells #[.string ⟨#[]⟩, .string ⟨#[]⟩, .string ⟨#[]⟩, .string ⟨#[]⟩, .string ⟨#[]⟩, .string ⟨#[]⟩, .string ⟨#[]⟩, .string ⟨#[]⟩, .string ⟨#[]⟩, .string ⟨#[]⟩, .string ⟨#[]⟩, .string ⟨#[]⟩, .string ⟨#[]⟩, .string ⟨#[]⟩, .string ⟨#[]⟩, .string ⟨#[]⟩, .string ⟨#[]⟩, .string ⟨#[]⟩, .string ⟨#[]⟩, .string ⟨#[]⟩, .string ⟨#[]⟩, .string ⟨#[]⟩, .string ⟨#[]⟩, .string ⟨#[]⟩, .string ⟨#[]⟩, .string ⟨#[]⟩, .string ⟨#[]⟩, .string ⟨#[]⟩, .string ⟨#[]⟩, .string ⟨#[]⟩, .string ⟨#[]⟩, .string ⟨#[]⟩] 86)) (by kernel_rfl) ?_
    refine wpList_store_row rfl _ _ _ rfl w.heap.size #[.string ⟨#[]⟩, .string ⟨#[]⟩, .string ⟨#[]⟩, .string ⟨#[]⟩, .string s11, .string s12, .string s13, .string s14, .string s21, .string s22, .string s23, .string s24, .string s31, .string s32, .string s33, .string s34, .string s41, .string s42, .string s43, .string s44, .string s51, .string s52, .string s53, .string s54, .string s61, .string s62, .string s63, .string s64, .string s71, .string s72, .string s73, .string s74] (by kernel_rfl) (by kernel_rfl) 86 #[.string ⟨#[]⟩, .string ⟨#[]⟩, .string ⟨#[]⟩, .string ⟨#[]⟩, .string ⟨#[]⟩, .string ⟨#[]⟩, .string ⟨#[]⟩, .string ⟨#[]⟩, .string ⟨#[]⟩, .string ⟨#[]⟩, .string ⟨#[]⟩, .string ⟨#[]⟩, .string ⟨#[]⟩, .string ⟨#[]⟩, .string ⟨#[]⟩, .string ⟨#[]⟩, .string ⟨#[]⟩, .string ⟨#[]⟩, .string ⟨#[]⟩, .string ⟨#[]⟩, .string ⟨#[]⟩, .string ⟨#[]⟩, .string ⟨#[]⟩, .string ⟨#[]⟩, .string ⟨#[]⟩, .string ⟨#[]⟩, .string ⟨#[]⟩, .string ⟨#[]⟩, .string ⟨#[]⟩, .string ⟨#[]⟩, .string ⟨#[]⟩, .string ⟨#[]⟩] (heap_alloc_new _ _) (by kernel_rfl) (by kernel_rfl) (by kernel_rfl) ?_
    rw [World.setRow_alloc_new]
    generalize (Value.agg #[.string s11, .string s12, .string s13, .string s14]) = q6
    generalize (Value.agg #[.string s21, .string s22, .string s23, .string s24]) = q7
    generalize (Value.agg #[.string s31, .string s32, .string s33, .string s34]) = q8
    generalize (Value.agg #[.string s41, .string s42, .string s43, .string s44]) = q9
    generalize (Value.agg #[.string s51, .string s52, .string s53, .string s54]) = q10
    generalize (Value.agg #[.string s61, .string s62, .string s63, .string s64]) = q11
    generalize (Value.agg #[.string s71, .string s72, .string s73, .string s74]) = q12
    generalize (Value.agg #[.string ⟨#[]⟩, .string ⟨#[]⟩, .string ⟨#[]⟩, .string ⟨#[]⟩, .string s11, .string s12, .string s13, .string s14, .string s21, .string s22, .string s23, .string s24, .string s31, .string s32, .string s33, .string s34, .string s41, .string s42, .string s43, .string s44, .string s51, .string s52, .string s53, .string s54, .string s61, .string s62, .string s63, .string s64, .string s71, .string s72, .string s73, .string s74]) = q13
    refine wpList_nil ?_
    go_simp
    go_wp2_with fail
    go_meet
    refine ⟨rfl, Lib.hid (patAt_blk (Blk.new _ _ _) (fun k l h1 h2 h3 h4 => ?_)), Lib.hid ((Below.refl _ _).alloc (Nat.le_refl _) _)⟩
    have hk7 : k = 1 ∨ k = 2 ∨ k = 3 ∨ k = 4 ∨ k = 5 ∨ k = 6 ∨ k = 7 := by omega
    have hl4 : l = 1 ∨ l = 2 ∨ l = 3 ∨ l = 4 := by omega
    rcases hk7 with rfl | rfl | rfl | rfl | rfl | rfl | rfl <;> rcases hl4 with rfl | rfl | rfl | rfl
    · rw [← h11]; rfl
    · rw [← h12]; rfl
    · rw [← h13]; rfl
    · rw [← h14]; rfl
    · rw [← h21]; rfl
    · rw [← h22]; rfl
    · rw [← h23]; rfl
    · rw [← h24]; rfl
    · rw [← h31]; rfl
    · rw [← h32]; rfl
    · rw [← h33]; rfl
    · rw [← h34]; rfl
    · rw [← h41]; rfl
    · rw [← h42]; rfl
    · rw [← h43]; rfl
    · rw [← h44]; rfl
    · rw [← h51]; rfl
    · rw [← h52]; rfl
    · rw [← h53]; rfl
    · rw [← h54]; rfl
    · rw [← h61]; rfl
    · rw [← h62]; rfl
    · rw [← h63]; rfl
    · rw [← h64]; rfl
    · rw [← h71]; rfl
    · rw [← h72]; rfl
    · rw [← h73]; rfl
    · rw [← h74]; rfl
  case rest =>
    obtain ⟨rfl, HP, HB⟩ := hcut
    have hc := HP.out k l hk.1 hk.2 hl.1 hl.2
    have hk7 : k = 1 ∨ k = 2 ∨ k = 3 ∨ k = 4 ∨ k = 5 ∨ k = 6 ∨ k = 7 := by omega
    have hl4 : l = 1 ∨ l = 2 ∨ l = 3 ∨ l = 4 := by omega
    obtain ⟨pt, hpt⟩ : ∃ b : ByteArray, b = ⟨(patT k l).toArray⟩ := ⟨_, rfl⟩
    rw [← hpt] at hc
    have HPT := Lib.hid hpt
    clear hpt
    rcases hk7 with rfl | rfl | rfl | rfl | rfl | rfl | rfl <;> rcases hl4 with rfl | rfl | rfl | rfl
    all_goals
      simp only [Nat.reduceMul, Nat.reduceSub, Nat.reduceAdd] at hc
      go_wp2
      go_ret
      exact ⟨by rw [← HPT.out]; rfl, HB.out⟩
end Go.Proofs.YthbnliepgjjbdaaGreatDoor
