/- Lists of sentences: the laws' own helpers. -/
import Derived.Test.YthbnliepgjjbdaaDoorSen
import Derived.Deep.RegionHeld3
import Derived.Deep.LoopGhost
namespace Go.Proofs.YthbnliepgjjbdaaDoor
open Go.ChangeShapes Go.WideShapes Go.ChangeAt Go.RowKit
set_option linter.unusedVariables false

/-- a sentence: kind and two numbers -/
structure Sen where
  k : Int
  a : Int
  b : Int
instance Sen.decEq : DecidableEq Sen := fun s t =>
  if h : s.k = t.k ∧ s.a = t.a ∧ s.b = t.b then isTrue (by cases s; cases t; obtain ⟨h1, h2, h3⟩ := h; cases h1; cases h2; cases h3; rfl)
  else isFalse (fun e => by subst e; exact h ⟨rfl, rfl, rfl⟩)
def Sen.cells (s : Sen) : List Value := [.int .i64 s.k, .int .i64 s.a, .int .i64 s.b]
def Sen.val (s : Sen) : Value := .agg #[.int .i64 s.k, .int .i64 s.a, .int .i64 s.b]
def sens (ss : List Sen) : List Value := ss.flatMap Sen.cells
def Sen.ok (s : Sen) : Bool := okS s.k s.a s.b
theorem sens_len (ss : List Sen) : (sens ss).length = ss.length * 3 := by
  induction ss with
  | nil => rfl
  | cons s r ih => simp only [sens, List.flatMap_cons, List.length_append, List.length_cons] at ih ⊢; rw [ih]; simp [Sen.cells]; omega
theorem sens_app (a b : List Sen) : sens (a ++ b) = sens a ++ sens b := by simp [sens]
theorem sens_cons (s : Sen) (r : List Sen) : sens (s :: r) = s.cells ++ sens r := by simp [sens]
theorem sens_get {ss : List Sen} {i : Nat} {s : Sen} (h : ss[i]? = some s) :
    (sens ss)[i * 3]? = some (.int .i64 s.k) ∧ (sens ss)[i * 3 + 1]? = some (.int .i64 s.a) ∧ (sens ss)[i * 3 + 2]? = some (.int .i64 s.b) := by
  have e := drop_cons_get' h
  have hl : (sens (ss.take i)).length = i * 3 := by
    rw [sens_len, List.length_take]
    have := (List.getElem?_eq_some_iff.1 h).1
    omega
  rw [e, sens_app, sens_cons]
  refine ⟨?_, ?_, ?_⟩ <;> rw [List.getElem?_append_right (by omega), hl]
  · rw [show i * 3 - i * 3 = 0 from by omega]; rfl
  · rw [show i * 3 + 1 - i * 3 = 1 from by omega]; rfl
  · rw [show i * 3 + 2 - i * 3 = 2 from by omega]; rfl
theorem addr_field (a : Addr) (i j : Nat) (hj : 0 < j) : (⟨(a.add i).block, (a.add i).off + j, none⟩ : Addr) = a.add (i + j) := by
  unfold Addr.add
  by_cases hi : i = 0
  · subst hi; rw [if_pos rfl, if_neg (by omega), Nat.zero_add]
  · rw [if_neg hi, if_neg (by omega)]; simp; omega
/-- element k of a list of sentences in memory: its three cells, at the walk's own addresses -/
theorem Reads.sen {w : World} {B n k : Nat} {A : Option Addr} {ss : List Sen} (h : Reads w B 3 A n (sens ss)) (hk : k < n) :
    ∃ ad s, A = some ad ∧ ad.block < B ∧ ss[k]? = some s ∧ w.cell? (ad.add (k * 3)) = some (.int .i64 s.k) ∧ w.cell? ⟨(ad.add (k * 3)).block, (ad.add (k * 3)).off + 1, none⟩ = some (.int .i64 s.a) ∧
      w.cell? ⟨(ad.add (k * 3)).block, (ad.add (k * 3)).off + 2, none⟩ = some (.int .i64 s.b) := by
  obtain ⟨ad, rfl, hb, hc⟩ := h.2 (by omega)
  have hl : ss.length = n := by have := h.1; rw [sens_len] at this; omega
  have hs : ss[k]? = some ss[k] := List.getElem?_eq_getElem (by omega)
  obtain ⟨h0, h1, h2⟩ := sens_get hs
  refine ⟨ad, ss[k], rfl, hb, hs, hc _ _ h0, ?_, ?_⟩
  · rw [addr_field _ _ _ (by omega)]; exact hc _ _ h1
  · rw [addr_field _ _ _ (by omega)]; exact hc _ _ h2
/-- element k at the address ad is the sentence s -/
def SenAt (w : World) (ad : Addr) (k : Nat) (s : Sen) : Prop := w.cell? (ad.add (k * 3)) = some (.int .i64 s.k) ∧ w.cell? ⟨(ad.add (k * 3)).block, (ad.add (k * 3)).off + 1, none⟩ = some (.int .i64 s.a) ∧
      w.cell? ⟨(ad.add (k * 3)).block, (ad.add (k * 3)).off + 2, none⟩ = some (.int .i64 s.b)
/-- it stays so in every world that keeps what lies below B -/
theorem Reads.senKept {w : World} {B n k : Nat} {A : Option Addr} {ss : List Sen} (h : Reads w B 3 A n (sens ss)) (hk : k < n) :
    ∃ ad s, A = some ad ∧ ss[k]? = some s ∧ ∀ W, Below B w W → SenAt W ad k s := by
  obtain ⟨ad, s, rfl, hb, hs, _⟩ := h.sen hk
  refine ⟨ad, s, rfl, hs, fun W hW => ?_⟩
  obtain ⟨ad', s', e, _, hs', hc⟩ := (h.below hW).sen hk
  obtain rfl : ad = ad' := by injection e
  obtain rfl : s = s' := by rw [hs] at hs'; injection hs'
  exact hc
theorem Reads.senLen {w : World} {B n : Nat} {A : Option Addr} {ss : List Sen} (h : Reads w B 3 A n (sens ss)) : ss.length = n := by
  have := h.1; rw [sens_len] at this; omega

def eqSen (s t : Sen) : Bool := decide (s = t)
set_option maxHeartbeats 1000000 in
theorem eqSentence_c (s t : Sen) (w : World) :
    Calls Tryd.prog 27 #[s.val, t.val] w fun e w' => e = .returned (.bool (eqSen s t)) ∧ Below w.heap.size w w' := by
  obtain ⟨k, a, b⟩ := s
  obtain ⟨k', a', b'⟩ := t
  simp only [Sen.val]
  go_enter Tryd.func27, Tryd.ntmps27
  go_wp2
  all_goals go_ret
  all_goals (refine ⟨ret_bool ?_, by go_grown⟩; simp_all [eqSen])
theorem eqSentence_self (s : Sen) (w : World) : Calls Tryd.prog 27 #[s.val, s.val] w fun e w' => e = .returned (.bool true) ∧ Below w.heap.size w w' :=
  (eqSentence_c s s w).mono fun e w' h => by simpa [eqSen] using h
set_option maxHeartbeats 1000000 in
theorem eqSentenceS_same (A D : Option Addr) (n m c d BA BD : Nat) (ss : List Sen) (w : World) (ha : Reads w BA 3 A n (sens ss)) (hd : Reads w BD 3 D m (sens ss)) (hA : BA ≤ w.heap.size) (hD : BD ≤ w.heap.size) (hn : n ≤ 1152921504606846976) :
    Calls Tryd.prog 17 #[.slice A n c, .slice D m d] w fun e w' => e = .returned (.bool true) ∧ Below w.heap.size w w' := by
  obtain rfl : n = m := by rw [← ha.senLen, hd.senLen]
  go_enter Tryd.func17, Tryd.ntmps17
  go_wp2
  go_loopw [5] (fun i wr => ∃ k : Nat, k ≤ n ∧ i = .int .i64 k ∧ Hid (Below w.heap.size w wr)) (fun i _ => n - (intOf i).toNat)
  case atStart => exact ⟨0, Nat.zero_le _, rfl, Lib.hid (Below.refl _ _)⟩
  case round =>
    obtain ⟨k, hk, rfl, HT⟩ := hrel
    by_cases hlt : k < n
    · obtain ⟨ad, s, rfl, hs, hc⟩ := ha.senKept hlt
      obtain ⟨ad', t, rfl, ht, hd'⟩ := hd.senKept hlt
      obtain rfl : s = t := by rw [hs] at ht; injection ht
      have HS : Hid (∀ W', Below wr.heap.size wr W' → (SenAt W' ad k s ∧ SenAt W' ad' k s)) := Lib.hid fun W' hW => by
        have hT := HT.out.trans (hW.mono HT.out.size)
        exact ⟨hc _ (hT.mono hA), hd' _ (hT.mono hD)⟩
      have h0 := HS.out wr (Below.refl _ _)
      unfold SenAt at h0
      obtain ⟨⟨c0, c1, c2⟩, d0, d1, d2⟩ := h0
      have hB := Below.refl wr.heap.size wr
      clear ha hd hs ht hc hd'
      go_wp2
      go_region_held3 (fun w' => Below wr.heap.size wr w' ∧ (w'.cell? (ad.add (k * 3)) = some (.int .i64 s.k) ∧ w'.cell? ⟨(ad.add (k * 3)).block, (ad.add (k * 3)).off + 1, none⟩ = some (.int .i64 s.a) ∧
          w'.cell? ⟨(ad.add (k * 3)).block, (ad.add (k * 3)).off + 2, none⟩ = some (.int .i64 s.b)) ∧ w'.cell? (ad'.add (k * 3)) = some (.int .i64 s.k) ∧ w'.cell? ⟨(ad'.add (k * 3)).block, (ad'.add (k * 3)).off + 1, none⟩ = some (.int .i64 s.a) ∧
          w'.cell? ⟨(ad'.add (k * 3)).block, (ad'.add (k * 3)).off + 2, none⟩ = some (.int .i64 s.b)) (first | exact keepB HS.out (by assumption) (by first | assumption | exact And.left (by assumption)) | exact keepD HS.out (by assumption) | (go_keep; done))
        (first | (go_at_call 27; refine (eqSentence_self s _).mono ?_; rintro e w1 ⟨rfl, hb⟩))
      replace hb := Lib.hid (HT.out.drew.trans (hb.mono HT.out.size))
      clear hB c0 c1 c2 d0 d1 d2 HS
      go_wp2
      go_roundw
      case rel => exact ⟨k + 1, by omega, by go_num, hb⟩
      case measure => simp [intOf]; omega
    · clear ha hd
      go_wp2
      go_ret
      exact ⟨rfl, HT.out⟩
theorem szSentenceS_c (A : Option Addr) (n c : Nat) (left : Int) (w : World) (h0 : 0 ≤ left) (h1 : left ≤ 1048576) (hn : n ≤ 9223372036854775807) :
    Calls Tryd.prog 13 #[.slice A n c, .int .i64 left] w fun e w' => e = .returned (.int .i64 (if left < n then -1 else left - n)) ∧ w = w' := by
  by_cases h : left < (n : Int)
  · rw [if_pos h]
    go_enter Tryd.func13, Tryd.ntmps13
    go_wp2
    go_ret
    exact ⟨rfl, rfl⟩
  · rw [if_neg h]
    go_enter Tryd.func13, Tryd.ntmps13
    go_wp2
    go_ret
    exact ⟨rfl, rfl⟩
theorem info_sen : (Tryd.prog.info? 26).map (fun i => (i.zero, i.size, i.bytes)) = some (some (.agg #[.int .i64 0, .int .i64 0, .int .i64 0]), 3, 24) := by kernel_rfl
/-- what a row of n sentences holds when the first k have been copied -/
def partSens (ss : List Sen) (n k : Nat) : Array Value := (sens (ss.take k) ++ List.replicate ((n - k) * 3) (Value.int .i64 0)).toArray
theorem partSens_zero (ss : List Sen) (n : Nat) : partSens ss n 0 = madeCells #[.int .i64 0, .int .i64 0, .int .i64 0] (n * 3) := by
  apply Array.ext'
  simp only [partSens, List.take_zero, sens, List.flatMap_nil, List.nil_append, Nat.sub_zero]
  apply List.ext_getElem?
  intro j
  by_cases hj : j < n * 3
  · have h3 : j % 3 = 0 ∨ j % 3 = 1 ∨ j % 3 = 2 := by omega
    simp [madeCells, hj]
    rcases h3 with h | h | h <;> simp [h]
  · simp [madeCells, hj]
theorem partSens_get {ss : List Sen} {n k j : Nat} (hl : ss.length = n) (hk : k < n) (hj : j < 3) : (partSens ss n k)[k * 3 + j]? = some (.int .i64 0) := by
  simp only [partSens, List.getElem?_toArray]
  have : (sens (ss.take k)).length = k * 3 := by rw [sens_len, List.length_take]; omega
  rw [List.getElem?_append_right (by omega), this, List.getElem?_replicate, if_pos (by omega)]
theorem partSens_set {ss : List Sen} {n k : Nat} {s : Sen} (hl : ss.length = n) (hk : k < n) (hs : ss[k]? = some s) :
    (((partSens ss n k).setIfInBounds (k * 3) (.int .i64 s.k)).setIfInBounds (k * 3 + 1) (.int .i64 s.a)).setIfInBounds (k * 3 + 2) (.int .i64 s.b) = partSens ss n (k + 1) := by
  simp only [partSens, List.setIfInBounds_toArray]
  congr 1
  have hlen : (sens (ss.take k)).length = k * 3 := by rw [sens_len, List.length_take]; omega
  have e : (n - k) * 3 = (n - (k + 1)) * 3 + 1 + 1 + 1 := by omega
  have ht : ss.take (k + 1) = ss.take k ++ [s] := by rw [List.take_add_one, hs]; rfl
  rw [ht, sens_app, e, List.replicate_succ, List.replicate_succ, List.replicate_succ]
  rw [List.set_append_right _ _ (by omega), List.set_append_right _ _ (by omega), List.set_append_right _ _ (by omega), hlen,
    show k * 3 - k * 3 = 0 from by omega, show k * 3 + 1 - k * 3 = 1 from by omega, show k * 3 + 2 - k * 3 = 2 from by omega]
  simp [sens, Sen.cells]
theorem partSens_all (ss : List Sen) (n : Nat) (hl : ss.length = n) : partSens ss n n = (sens ss).toArray := by
  simp [partSens, List.take_of_length_le (show ss.length ≤ n by omega)]
set_option maxHeartbeats 1000000 in
theorem toSentenceS_c (A : Option Addr) (n c BA : Nat) (ss : List Sen) (w : World) (ha : Reads w BA 3 A n (sens ss)) (hB : BA ≤ w.heap.size) (hn : n ≤ 1048576) :
    Calls Tryd.prog 15 #[.slice A n c] w fun e w' => e = .returned (.slice (some ⟨w.heap.size, 0, none⟩) n n) ∧ Blk w' w.heap.size 26 (sens ss).toArray ∧ Below w.heap.size w w' := by
  obtain ⟨i0, hi, hz, hs, hb⟩ := info_parts info_sen
  have hmk : ∀ W : World, (Instr.makeSlice 32 (.int .i64 (n : Int)) (.int .i64 (n : Int))).run Tryd.prog W = .ok (.slice (some ⟨W.heap.size, 0, none⟩) n n) (W.alloc (.cells (madeCells #[.int .i64 0, .int .i64 0, .int .i64 0] (n * 3)) 26)) := fun W => by
    have h := run_make_rowN (P := Tryd.prog) 32 26 i0 _ Tryd.underlying32 hi hz .i64 .i64 n n (Nat.le_refl _) (by rw [hb]; omega) (by omega) W
    rw [hs] at h
    exact h
  have hlen := Lib.hid ha.senLen
  clear hi hz hs hb i0
  go_enter Tryd.func15, Tryd.ntmps15
  go_wp2
  clear hmk
  go_loopw [4] (fun i wr => ∃ k : Nat, k ≤ n ∧ i = .int .i64 k ∧ Hid (Blk wr w.heap.size 26 (partSens ss n k)) ∧ Hid (Below w.heap.size w wr)) (fun i _ => n - (intOf i).toNat)
  case atStart => exact ⟨0, Nat.zero_le _, rfl, Lib.hid (by rw [partSens_zero]; exact Blk.new _ _ _), Lib.hid ((Below.refl _ _).alloc (Nat.le_refl _) _)⟩
  case round =>
    obtain ⟨k, hk, rfl, HB, HW⟩ := hrel
    by_cases hlt : k < n
    · obtain ⟨ad, s, rfl, hbl, hsk, c0, c1, c2⟩ := (ha.below (HW.out.mono hB)).sen hlt
      have HS := Lib.hid hsk
      have HKL := Lib.hid HB.out.lt
      clear hsk ha
      go_wp2_with fail
      refine (toSentence_c s.k s.a s.b _).mono ?_
      rintro e w1 ⟨rfl, B1⟩
      have HB1 := Lib.hid (HB.out.below B1 HKL.out)
      have HW1 := Lib.hid (HW.out.trans (B1.mono HW.out.size))
      have g0 : w1.cell? ⟨w.heap.size, k * 3, none⟩ = some (.int .i64 0) := (HB1.out.cell (k * 3)).trans (partSens_get (j := 0) hlen.out hlt (by omega))
      have g1 : w1.cell? ⟨w.heap.size, k * 3 + 1, none⟩ = some (.int .i64 0) := (HB1.out.cell (k * 3 + 1)).trans (partSens_get hlen.out hlt (by omega))
      have g2 : w1.cell? ⟨w.heap.size, k * 3 + 2, none⟩ = some (.int .i64 0) := (HB1.out.cell (k * 3 + 2)).trans (partSens_get hlen.out hlt (by omega))
      have f0 := HB1.out.frozen (k * 3)
      have f1 := HB1.out.frozen (k * 3 + 1)
      have f2 := HB1.out.frozen (k * 3 + 2)
      clear B1 c0 c1 c2 HB HW HKL
      go_wp2
      go_roundw
      case rel =>
        refine ⟨k + 1, by omega, by go_num, Lib.hid ?_, Lib.hid (((HW1.out.setCell (Nat.le_refl _) _).setCell (Nat.le_refl _) _).setCell (Nat.le_refl _) _)⟩
        rw [← partSens_set hlen.out hlt HS.out]
        exact ((HB1.out.set_ (k * 3) _).set_ (k * 3 + 1) _).set_ (k * 3 + 2) _
      case measure => simp [intOf]; omega
    · obtain rfl : k = n := by omega
      clear ha
      go_wp2
      go_ret
      exact ⟨rfl, by rw [← partSens_all ss k hlen.out]; exact HB.out, HW.out⟩
theorem toSentenceS_own (A : Option Addr) (n c BA : Nat) (ss : List Sen) (w : World) (ha : Reads w BA 3 A n (sens ss)) (hB : BA ≤ w.heap.size) (hn : n ≤ 1048576) :
    Calls Tryd.prog 15 #[.slice A n c] w fun e w' => ∃ D d, e = .returned (.slice D n d) ∧ Own w' w.heap.size w'.heap.size 26 3 (.slice D n d) n (sens ss) ∧ Below w.heap.size w w' :=
  (toSentenceS_c A n c BA ss w ha hB hn).mono fun e w' h => ⟨_, _, h.1, by
    have := Own.of_blk (lo := w.heap.size) (hi := w'.heap.size) (n := n) (s := 3) h.2.1 (by simp [sens_len, ha.senLen]) (Nat.le_refl _) h.2.1.lt (by simp [maxLen]; omega)
    simpa using this, h.2.2⟩
end Go.Proofs.YthbnliepgjjbdaaDoor
