/- Lists of structs Layer (all fields int64): words and the laws' own helpers. (Written by wip/tools/structs.py.) -/
import Derived.Test.YtipchejcgbmpgaaOwn
import Derived.Deep.LoopGhost
namespace Go.Proofs.Ytipchejcgbmpgaa
open Go.ChangeShapes Go.WideShapes Go.ChangeAt Go.RowKit
set_option linter.unusedVariables false

structure Lay where
  form : Int
  ice : Int
  water : Int
  density : Int
  degrees : Int
  hardness : Int
  age : Int
def Lay.cells (s : Lay) : List Value := [.int .i64 s.form, .int .i64 s.ice, .int .i64 s.water, .int .i64 s.density, .int .i64 s.degrees, .int .i64 s.hardness, .int .i64 s.age]
def Lay.val (s : Lay) : Value := .agg #[.int .i64 s.form, .int .i64 s.ice, .int .i64 s.water, .int .i64 s.density, .int .i64 s.degrees, .int .i64 s.hardness, .int .i64 s.age]
def lays (ss : List Lay) : List Value := ss.flatMap Lay.cells
theorem lays_len (ss : List Lay) : (lays ss).length = ss.length * 7 := by
  induction ss with
  | nil => rfl
  | cons s r ih => simp only [lays, List.flatMap_cons, List.length_append, List.length_cons] at ih ⊢; rw [ih]; simp [Lay.cells]; omega
theorem lays_app (a b : List Lay) : lays (a ++ b) = lays a ++ lays b := by simp [lays]
theorem lays_cons (s : Lay) (r : List Lay) : lays (s :: r) = s.cells ++ lays r := by simp [lays]
theorem lays_drop (ss : List Lay) (i : Nat) : (lays ss).drop (i * 7) = lays (ss.drop i) := by
  induction ss generalizing i with
  | nil => simp [lays]
  | cons s r ih =>
    cases i with
    | zero => simp
    | succ i =>
      rw [lays_cons, List.drop_succ_cons, ← ih i, List.drop_append, List.drop_of_length_le (by simp [Lay.cells]; omega)]
      simp only [List.nil_append]
      congr 1
      simp [Lay.cells]; omega
theorem lays_one (ss : List Lay) : ∀ u ∈ lays ss, u.oneCell' = true := by
  intro u hu
  simp only [lays, List.mem_flatMap, Lay.cells] at hu
  obtain ⟨s, _, hu⟩ := hu
  simp only [List.mem_cons, List.not_mem_nil, or_false] at hu
  rcases hu with rfl | rfl | rfl | rfl | rfl | rfl | rfl <;> simp [Value.oneCell']
theorem lays_get {ss : List Lay} {i : Nat} {s : Lay} (h : ss[i]? = some s) :
    (lays ss)[i * 7]? = some (.int .i64 s.form) ∧ (lays ss)[i * 7 + 1]? = some (.int .i64 s.ice) ∧ (lays ss)[i * 7 + 2]? = some (.int .i64 s.water) ∧ (lays ss)[i * 7 + 3]? = some (.int .i64 s.density) ∧ (lays ss)[i * 7 + 4]? = some (.int .i64 s.degrees) ∧ (lays ss)[i * 7 + 5]? = some (.int .i64 s.hardness) ∧ (lays ss)[i * 7 + 6]? = some (.int .i64 s.age) := by
  have e := drop_cons_get' h
  have hl : (lays (ss.take i)).length = i * 7 := by
    rw [lays_len, List.length_take]
    have := (List.getElem?_eq_some_iff.1 h).1
    omega
  rw [e, lays_app, lays_cons]
  refine ⟨?_, ?_, ?_, ?_, ?_, ?_, ?_⟩ <;> rw [List.getElem?_append_right (by omega), hl]
  · rw [show i * 7 - i * 7 = 0 from by omega]; rfl
  · rw [show i * 7 + 1 - i * 7 = 1 from by omega]; rfl
  · rw [show i * 7 + 2 - i * 7 = 2 from by omega]; rfl
  · rw [show i * 7 + 3 - i * 7 = 3 from by omega]; rfl
  · rw [show i * 7 + 4 - i * 7 = 4 from by omega]; rfl
  · rw [show i * 7 + 5 - i * 7 = 5 from by omega]; rfl
  · rw [show i * 7 + 6 - i * 7 = 6 from by omega]; rfl
theorem addr_field' (a : Addr) (i j : Nat) (hj : 0 < j) : (⟨(a.add i).block, (a.add i).off + j, none⟩ : Addr) = a.add (i + j) := by
  unfold Addr.add
  by_cases hi : i = 0
  · subst hi; rw [if_pos rfl, if_neg (by omega), Nat.zero_add]
  · rw [if_neg hi, if_neg (by omega)]; simp; omega
/-- element k at the address ad is s -/
def LayAt (w : World) (ad : Addr) (k : Nat) (s : Lay) : Prop := w.cell? (ad.add (k * 7)) = some (.int .i64 s.form) ∧ w.cell? ⟨(ad.add (k * 7)).block, (ad.add (k * 7)).off + 1, none⟩ = some (.int .i64 s.ice) ∧ w.cell? ⟨(ad.add (k * 7)).block, (ad.add (k * 7)).off + 2, none⟩ = some (.int .i64 s.water) ∧ w.cell? ⟨(ad.add (k * 7)).block, (ad.add (k * 7)).off + 3, none⟩ = some (.int .i64 s.density) ∧ w.cell? ⟨(ad.add (k * 7)).block, (ad.add (k * 7)).off + 4, none⟩ = some (.int .i64 s.degrees) ∧ w.cell? ⟨(ad.add (k * 7)).block, (ad.add (k * 7)).off + 5, none⟩ = some (.int .i64 s.hardness) ∧ w.cell? ⟨(ad.add (k * 7)).block, (ad.add (k * 7)).off + 6, none⟩ = some (.int .i64 s.age)
theorem Reads.layLen {w : World} {B n : Nat} {A : Option Addr} {ss : List Lay} (h : Reads w B 7 A n (lays ss)) : ss.length = n := by
  have := h.1; rw [lays_len] at this; omega
/-- element k of a list in memory: its cells, at the walk's own addresses -/
theorem Reads.lay {w : World} {B n k : Nat} {A : Option Addr} {ss : List Lay} (h : Reads w B 7 A n (lays ss)) (hk : k < n) :
    ∃ ad s, A = some ad ∧ ad.block < B ∧ ss[k]? = some s ∧ LayAt w ad k s := by
  obtain ⟨ad, rfl, hb, hc⟩ := h.2 (by omega)
  have hl := h.layLen
  have hs : ss[k]? = some ss[k] := List.getElem?_eq_getElem (by omega)
  obtain ⟨h0, h1, h2, h3, h4, h5, h6⟩ := lays_get hs
  refine ⟨ad, ss[k], rfl, hb, hs, hc _ _ h0, ?_, ?_, ?_, ?_, ?_, ?_⟩
  · rw [addr_field' _ _ _ (by omega)]; exact hc _ _ h1
  · rw [addr_field' _ _ _ (by omega)]; exact hc _ _ h2
  · rw [addr_field' _ _ _ (by omega)]; exact hc _ _ h3
  · rw [addr_field' _ _ _ (by omega)]; exact hc _ _ h4
  · rw [addr_field' _ _ _ (by omega)]; exact hc _ _ h5
  · rw [addr_field' _ _ _ (by omega)]; exact hc _ _ h6
/-- it stays so in every world that keeps what lies below B -/
theorem Reads.layKept {w : World} {B n k : Nat} {A : Option Addr} {ss : List Lay} (h : Reads w B 7 A n (lays ss)) (hk : k < n) :
    ∃ ad s, A = some ad ∧ ss[k]? = some s ∧ ∀ W, Below B w W → LayAt W ad k s := by
  obtain ⟨ad, s, rfl, hb, hs, _⟩ := h.lay hk
  refine ⟨ad, s, rfl, hs, fun W hW => ?_⟩
  obtain ⟨ad', s', e, _, hs', hc⟩ := (h.below hW).lay hk
  obtain rfl : ad = ad' := by injection e
  obtain rfl : s = s' := by rw [hs] at hs'; injection hs'
  exact hc
theorem Reads.layCut {w : World} {B n k cap : Nat} {A : Option Addr} {ss : List Lay} (h : Reads w B 7 A n (lays ss)) (hk : k ≤ n) (hc : n ≤ cap) :
    Reads w B 7 (if cap = k then A else A.map (·.add (k * 7))) (n - k) (lays (ss.drop k)) := by
  rw [← lays_drop]; exact h.cut hk hc

set_option maxHeartbeats 1000000 in
theorem eqLayer_self (s : Lay) (w : World) : Calls Try.prog 43 #[s.val, s.val] w fun e w' => e = .returned (.bool true) ∧ Below w.heap.size w w' := by
  obtain ⟨x0, x1, x2, x3, x4, x5, x6⟩ := s
  simp only [Lay.val]
  go_enter Try.func43, Try.ntmps43
  go_wp2
  go_ret
  exact ⟨rfl, by go_grown⟩
set_option maxHeartbeats 2000000 in
theorem eqLayerS_same (A D : Option Addr) (n m c d BA BD : Nat) (ss : List Lay) (w : World) (ha : Reads w BA 7 A n (lays ss)) (hd : Reads w BD 7 D m (lays ss)) (hA : BA ≤ w.heap.size) (hD : BD ≤ w.heap.size) (hn : n ≤ 1152921504606846976) :
    Calls Try.prog 14 #[.slice A n c, .slice D m d] w fun e w' => e = .returned (.bool true) ∧ Below w.heap.size w w' := by
  obtain rfl : n = m := by rw [← ha.layLen, hd.layLen]
  go_enter Try.func14, Try.ntmps14
  go_wp2
  go_loopw [5] (fun i wr => ∃ k : Nat, k ≤ n ∧ i = .int .i64 k ∧ Hid (Below w.heap.size w wr)) (fun i _ => n - (intOf i).toNat)
  case atStart => exact ⟨0, Nat.zero_le _, rfl, Lib.hid (Below.refl _ _)⟩
  case round =>
    obtain ⟨k, hk, rfl, HT⟩ := hrel
    by_cases hlt : k < n
    · obtain ⟨ad, s, rfl, _, hs, hc⟩ := (ha.below (HT.out.mono hA)).lay hlt
      obtain ⟨ad', t, rfl, _, ht, hd'⟩ := (hd.below (HT.out.mono hD)).lay hlt
      obtain rfl : s = t := by rw [hs] at ht; injection ht
      unfold LayAt at hc hd'
      obtain ⟨c0, c1, c2, c3, c4, c5, c6⟩ := hc
      obtain ⟨d0, d1, d2, d3, d4, d5, d6⟩ := hd'
      have hself := fun W => eqLayer_self s W
      simp only [Lay.val] at hself
      clear ha hd hs ht
      go_wp2
      have qc0 := cell_regrown c0
      have qc1 := cell_regrown c1
      have qc2 := cell_regrown c2
      have qc3 := cell_regrown c3
      have qc4 := cell_regrown c4
      have qc5 := cell_regrown c5
      have qc6 := cell_regrown c6
      have qd0 := cell_regrown d0
      have qd1 := cell_regrown d1
      have qd2 := cell_regrown d2
      have qd3 := cell_regrown d3
      have qd4 := cell_regrown d4
      have qd5 := cell_regrown d5
      have qd6 := cell_regrown d6
      refine wp_region_quiet_below (by kernel_rfl) (by kernel_rfl) ?_
      repeat (first | go_big_quiet_step ((go_at_call 43; exact Calls.regrown_of (hself _))) | quiet_step ((go_at_call 43; exact Calls.regrown_of (hself _))))
      refine wpQuiet_nil ?_
      intro W2 B2
      replace B2 := Lib.hid (show Below (wr).heap.size (wr) W2 from by obtain ⟨pq, rfl⟩ := B2; exact below_regrown _ _ _)
      clear qc0 qc1 qc2 qc3 qc4 qc5 qc6 qd0 qd1 qd2 qd3 qd4 qd5 qd6
      clear hself
      go_wp2
      go_roundw
      case rel => exact ⟨k + 1, by omega, by go_num, Lib.hid (HT.out.trans (B2.out.mono HT.out.size))⟩
      case measure => simp [intOf]; omega
    · clear ha hd
      go_wp2
      go_ret
      exact ⟨rfl, HT.out⟩
theorem szLayerS_c (A : Option Addr) (n c : Nat) (left : Int) (w : World) (h0 : 0 ≤ left) (h1 : left ≤ 1048576) (hn : n ≤ 9223372036854775807) :
    Calls Try.prog 10 #[.slice A n c, .int .i64 left] w fun e w' => e = .returned (.int .i64 (if left < n then -1 else left - n)) ∧ w = w' := by
  by_cases h : left < (n : Int)
  · rw [if_pos h]
    go_enter Try.func10, Try.ntmps10
    go_wp2
    go_ret
    exact ⟨rfl, rfl⟩
  · rw [if_neg h]
    go_enter Try.func10, Try.ntmps10
    go_wp2
    go_ret
    exact ⟨rfl, rfl⟩
theorem toLayer_c (s : Lay) (w : World) :
    Calls Try.prog 40 #[.agg #[.int .i64 s.form, .int .i64 s.ice, .int .i64 s.water, .int .i64 s.density, .int .i64 s.degrees, .int .i64 s.hardness, .int .i64 s.age]] w fun e w' => e = .returned (.agg #[.int .i64 s.form, .int .i64 s.ice, .int .i64 s.water, .int .i64 s.density, .int .i64 s.degrees, .int .i64 s.hardness, .int .i64 s.age]) ∧ Below w.heap.size w w' := by
  obtain ⟨x0, x1, x2, x3, x4, x5, x6⟩ := s
  go_enter Try.func40, Try.ntmps40
  go_wp2
  go_returns
  exact ⟨rfl, by go_grown⟩
theorem info_lay : (Try.prog.info? 52).map (fun i => (i.zero, i.size, i.bytes)) = some (some (.agg #[.int .i64 0, .int .i64 0, .int .i64 0, .int .i64 0, .int .i64 0, .int .i64 0, .int .i64 0]), 7, 56) := by kernel_rfl
/-- what a row of n elements holds when the first k have been copied -/
def partLay (ss : List Lay) (n k : Nat) : Array Value := (lays (ss.take k) ++ List.replicate ((n - k) * 7) (Value.int .i64 0)).toArray
theorem partLay_zero (ss : List Lay) (n : Nat) : partLay ss n 0 = madeCells #[.int .i64 0, .int .i64 0, .int .i64 0, .int .i64 0, .int .i64 0, .int .i64 0, .int .i64 0] (n * 7) := by
  apply Array.ext'
  simp only [partLay, List.take_zero, lays, List.flatMap_nil, List.nil_append, Nat.sub_zero]
  apply List.ext_getElem?
  intro j
  by_cases hj : j < n * 7
  · have h3 : j % 7 = 0 ∨ j % 7 = 1 ∨ j % 7 = 2 ∨ j % 7 = 3 ∨ j % 7 = 4 ∨ j % 7 = 5 ∨ j % 7 = 6 := by omega
    simp [madeCells, hj]
    rcases h3 with h | h | h | h | h | h | h <;> simp [h]
  · simp [madeCells, hj]
theorem partLay_get {ss : List Lay} {n k j : Nat} (hl : ss.length = n) (hk : k < n) (hj : j < 7) : (partLay ss n k)[k * 7 + j]? = some (.int .i64 0) := by
  simp only [partLay, List.getElem?_toArray]
  have : (lays (ss.take k)).length = k * 7 := by rw [lays_len, List.length_take]; omega
  rw [List.getElem?_append_right (by omega), this, List.getElem?_replicate, if_pos (by omega)]
theorem partLay_set {ss : List Lay} {n k : Nat} {s : Lay} (hl : ss.length = n) (hk : k < n) (hs : ss[k]? = some s) :
    ((((((((partLay ss n k).setIfInBounds (k * 7) (.int .i64 s.form)).setIfInBounds (k * 7 + 1) (.int .i64 s.ice)).setIfInBounds (k * 7 + 2) (.int .i64 s.water)).setIfInBounds (k * 7 + 3) (.int .i64 s.density)).setIfInBounds (k * 7 + 4) (.int .i64 s.degrees)).setIfInBounds (k * 7 + 5) (.int .i64 s.hardness)).setIfInBounds (k * 7 + 6) (.int .i64 s.age)) = partLay ss n (k + 1) := by
  simp only [partLay, List.setIfInBounds_toArray]
  congr 1
  have hlen : (lays (ss.take k)).length = k * 7 := by rw [lays_len, List.length_take]; omega
  have e : (n - k) * 7 = (n - (k + 1)) * 7 + 1 + 1 + 1 + 1 + 1 + 1 + 1 := by omega
  have ht : ss.take (k + 1) = ss.take k ++ [s] := by rw [List.take_add_one, hs]; rfl
  rw [ht, lays_app, e, List.replicate_succ, List.replicate_succ, List.replicate_succ, List.replicate_succ, List.replicate_succ, List.replicate_succ, List.replicate_succ]
  rw [List.set_append_right _ _ (by omega), List.set_append_right _ _ (by omega), List.set_append_right _ _ (by omega), List.set_append_right _ _ (by omega), List.set_append_right _ _ (by omega), List.set_append_right _ _ (by omega), List.set_append_right _ _ (by omega), hlen,
    show k * 7 - k * 7 = 0 from by omega, show k * 7 + 1 - k * 7 = 1 from by omega, show k * 7 + 2 - k * 7 = 2 from by omega, show k * 7 + 3 - k * 7 = 3 from by omega, show k * 7 + 4 - k * 7 = 4 from by omega, show k * 7 + 5 - k * 7 = 5 from by omega, show k * 7 + 6 - k * 7 = 6 from by omega]
  simp [lays, Lay.cells]
theorem partLay_all (ss : List Lay) (n : Nat) (hl : ss.length = n) : partLay ss n n = (lays ss).toArray := by
  simp [partLay, List.take_of_length_le (show ss.length ≤ n by omega)]
set_option maxHeartbeats 2000000 in
theorem toLayerS_c (A : Option Addr) (n c BA : Nat) (ss : List Lay) (w : World) (ha : Reads w BA 7 A n (lays ss)) (hB : BA ≤ w.heap.size) (hn : n ≤ 1048576) :
    Calls Try.prog 12 #[.slice A n c] w fun e w' => e = .returned (.slice (some ⟨w.heap.size, 0, none⟩) n n) ∧ Blk w' w.heap.size 52 (lays ss).toArray ∧ Below w.heap.size w w' := by
  obtain ⟨i0, hi, hz, hs, hb⟩ := info_parts info_lay
  have hmk : ∀ W : World, (Instr.makeSlice 25 (.int .i64 (n : Int)) (.int .i64 (n : Int))).run Try.prog W = .ok (.slice (some ⟨W.heap.size, 0, none⟩) n n) (W.alloc (.cells (madeCells #[.int .i64 0, .int .i64 0, .int .i64 0, .int .i64 0, .int .i64 0, .int .i64 0, .int .i64 0] (n * 7)) 52)) := fun W => by
    have h := run_make_rowN (P := Try.prog) 25 52 i0 _ Try.underlying25 hi hz .i64 .i64 n n (Nat.le_refl _) (by rw [hb]; omega) (by omega) W
    rw [hs] at h
    exact h
  have hlen := Lib.hid ha.layLen
  clear hi hz hs hb i0
  go_enter Try.func12, Try.ntmps12
  go_wp2
  clear hmk
  go_loopw [4] (fun i wr => ∃ k : Nat, k ≤ n ∧ i = .int .i64 k ∧ Hid (Blk wr w.heap.size 52 (partLay ss n k)) ∧ Hid (Below w.heap.size w wr)) (fun i _ => n - (intOf i).toNat)
  case atStart => exact ⟨0, Nat.zero_le _, rfl, Lib.hid (by rw [partLay_zero]; exact Blk.new _ _ _), Lib.hid ((Below.refl _ _).alloc (Nat.le_refl _) _)⟩
  case round =>
    obtain ⟨k, hk, rfl, HB, HW⟩ := hrel
    by_cases hlt : k < n
    · obtain ⟨ad, s, rfl, hbl, hsk, hc⟩ := (ha.below (HW.out.mono hB)).lay hlt
      unfold LayAt at hc
      obtain ⟨c0, c1, c2, c3, c4, c5, c6⟩ := hc
      have HS := Lib.hid hsk
      have HKL := Lib.hid HB.out.lt
      clear hsk ha
      go_wp2_with fail
      refine (toLayer_c s _).mono ?_
      rintro e w1 ⟨rfl, B1⟩
      have HB1 := Lib.hid (HB.out.below B1 HKL.out)
      have HW1 := Lib.hid (HW.out.trans (B1.mono HW.out.size))
      have g0 : w1.cell? ⟨w.heap.size, k * 7, none⟩ = some (.int .i64 0) := (HB1.out.cell (k * 7)).trans (partLay_get (j := 0) hlen.out hlt (by omega))
      have f0 := HB1.out.frozen (k * 7)
      have g1 : w1.cell? ⟨w.heap.size, k * 7 + 1, none⟩ = some (.int .i64 0) := (HB1.out.cell (k * 7 + 1)).trans (partLay_get hlen.out hlt (by omega))
      have f1 := HB1.out.frozen (k * 7 + 1)
      have g2 : w1.cell? ⟨w.heap.size, k * 7 + 2, none⟩ = some (.int .i64 0) := (HB1.out.cell (k * 7 + 2)).trans (partLay_get hlen.out hlt (by omega))
      have f2 := HB1.out.frozen (k * 7 + 2)
      have g3 : w1.cell? ⟨w.heap.size, k * 7 + 3, none⟩ = some (.int .i64 0) := (HB1.out.cell (k * 7 + 3)).trans (partLay_get hlen.out hlt (by omega))
      have f3 := HB1.out.frozen (k * 7 + 3)
      have g4 : w1.cell? ⟨w.heap.size, k * 7 + 4, none⟩ = some (.int .i64 0) := (HB1.out.cell (k * 7 + 4)).trans (partLay_get hlen.out hlt (by omega))
      have f4 := HB1.out.frozen (k * 7 + 4)
      have g5 : w1.cell? ⟨w.heap.size, k * 7 + 5, none⟩ = some (.int .i64 0) := (HB1.out.cell (k * 7 + 5)).trans (partLay_get hlen.out hlt (by omega))
      have f5 := HB1.out.frozen (k * 7 + 5)
      have g6 : w1.cell? ⟨w.heap.size, k * 7 + 6, none⟩ = some (.int .i64 0) := (HB1.out.cell (k * 7 + 6)).trans (partLay_get hlen.out hlt (by omega))
      have f6 := HB1.out.frozen (k * 7 + 6)
      clear B1 c0 c1 c2 c3 c4 c5 c6 HB HW HKL
      go_wp2
      go_roundw
      case rel =>
        refine ⟨k + 1, by omega, by go_num, Lib.hid ?_, Lib.hid (((((((HW1.out.setCell (Nat.le_refl _) _).setCell (Nat.le_refl _) _).setCell (Nat.le_refl _) _).setCell (Nat.le_refl _) _).setCell (Nat.le_refl _) _).setCell (Nat.le_refl _) _).setCell (Nat.le_refl _) _)⟩
        rw [← partLay_set hlen.out hlt HS.out]
        exact (((((((HB1.out.set_ (k * 7) _).set_ (k * 7 + 1) _).set_ (k * 7 + 2) _).set_ (k * 7 + 3) _).set_ (k * 7 + 4) _).set_ (k * 7 + 5) _).set_ (k * 7 + 6) _)
      case measure => simp [intOf]; omega
    · obtain rfl : k = n := by omega
      clear ha
      go_wp2
      go_ret
      exact ⟨rfl, by rw [← partLay_all ss k hlen.out]; exact HB.out, HW.out⟩
theorem toLayerS_own (A : Option Addr) (n c BA : Nat) (ss : List Lay) (w : World) (ha : Reads w BA 7 A n (lays ss)) (hB : BA ≤ w.heap.size) (hn : n ≤ 1048576) :
    Calls Try.prog 12 #[.slice A n c] w fun e w' => ∃ D d, e = .returned (.slice D n d) ∧ Own w' w.heap.size w'.heap.size 52 7 (.slice D n d) n (lays ss) ∧ Below w.heap.size w w' :=
  (toLayerS_c A n c BA ss w ha hB hn).mono fun e w' h => ⟨_, _, h.1, by
    have := Own.of_blk (lo := w.heap.size) (hi := w'.heap.size) (n := n) (s := 7) h.2.1 (by simp [lays_len, ha.layLen]) (Nat.le_refl _) h.2.1.lt (by simp [maxLen]; omega)
    simpa using this, h.2.2⟩
end Go.Proofs.Ytipchejcgbmpgaa
