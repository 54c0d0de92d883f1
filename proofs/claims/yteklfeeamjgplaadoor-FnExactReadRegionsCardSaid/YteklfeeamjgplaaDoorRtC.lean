/- Regions read from a text (plain). -/
import Derived.Test.YteklfeeamjgplaaDoorRtA
namespace Go.Proofs.YteklfeeamjgplaaDoor
open Go.ChangeShapes Go.WideShapes Go.ChangeAt Go.RowKit
set_option linter.unusedVariables false
theorem valid_dat {ds : List Dat} (h : validD ds = true) : ds.length ≤ 8 ∧ ∀ d ∈ ds, nameV d.1 = true ∧ (1 ≤ d.2.1 ∧ d.2.1 ≤ 5) ∧ ∀ m ∈ d.2.2, nameV m = true := by
  unfold validD at h
  obtain ⟨h1, h2⟩ := valid_facts h
  rw [List.length_map] at h1
  exact ⟨h1, fun d hd => h2 (unD d) (List.mem_map_of_mem hd)⟩
theorem decZ_dec {z : Int} (h : 1 ≤ z ∧ z ≤ 5) : decZ z = decB z.toNat := by unfold decZ decB; rw [(decZ_one h).2.2]
theorem decZ_inj {y z : Int} (hy : 1 ≤ y ∧ y ≤ 5) (hz : 1 ≤ z ∧ z ≤ 5) (h : decZ y = decZ z) : y = z := by
  rw [decZ_dec hy, decZ_dec hz] at h
  have h2 := congrArg (fun b : ByteArray => b.data.toList) h
  have h3 : y.toNat = z.toNat := dec_inj (by simpa [decB] using h2)
  omega
/-- a number that a reader makes of a text, as far as levels go -/
def digD (s : ByteArray) (z : Int) : Prop := (1 ≤ z ∧ z ≤ 5 → s = decZ z) ∧ ∀ y, 1 ≤ y ∧ y ≤ 5 → s = decZ y → z = y
theorem digD_prog {s : ByteArray} {z : Int} (h : rdV s = (z, true)) : digD s z := by
  refine ⟨fun hz => ?_, fun y hy e => ?_⟩
  · unfold rdV at h
    split at h
    · rename_i v hv
      split at h
      · rename_i hc
        injection h with h1 h2
        subst h1
        unfold decZ
        rw [hc.2]
      · injection h with h1 h2; cases h2
    · injection h with h1 h2; cases h2
  · rw [e, decZ_dec hy, rd_dec (by omega)] at h
    injection h with h1 h2
    omega
theorem rd_fail {s : ByteArray} (h : (rdV s).2 = false) : ∀ y, 1 ≤ y ∧ y ≤ 5 → s ≠ decZ y := by
  intro y hy e
  rw [e, decZ_dec hy, rd_dec (by omega)] at h
  cases h
theorem wordsD_inj {d e : Dat} (hd : 1 ≤ d.2.1 ∧ d.2.1 ≤ 5) (he : 1 ≤ e.2.1 ∧ e.2.1 ≤ 5) (h : wordsD d = wordsD e) : d = e := by
  unfold wordsD at h
  injection h with h1 h2
  injection h2 with h2 h3
  have h4 := decZ_inj hd he h2
  obtain ⟨a, b, c⟩ := d
  obtain ⟨a', b', c'⟩ := e
  simp only at h1 h3 h4
  rw [h1, h3, h4]
def RdOk (s : ByteArray) (L : List Dat) : Prop := (splitS s 47).map (fun p => splitS p 32) = L.map wordsD ∧ validD L = true
theorem map_words_inj : ∀ {L M : List Dat}, (∀ d ∈ L, 1 ≤ d.2.1 ∧ d.2.1 ≤ 5) → (∀ d ∈ M, 1 ≤ d.2.1 ∧ d.2.1 ≤ 5) → L.map wordsD = M.map wordsD → L = M
  | [], [], _, _, _ => rfl
  | [], _ :: _, _, _, h => by simp at h
  | _ :: _, [], _, _, h => by simp at h
  | d :: L, e :: M, h1, h2, h => by
    simp only [List.map_cons, List.cons.injEq] at h
    rw [wordsD_inj (h1 d (by simp)) (h2 e (by simp)) h.1, map_words_inj (fun x hx => h1 x (List.mem_cons_of_mem _ hx)) (fun x hx => h2 x (List.mem_cons_of_mem _ hx)) h.2]
theorem rdOk_uniq {s : ByteArray} {L M : List Dat} (h : RdOk s L) (h' : RdOk s M) : L = M :=
  map_words_inj (fun d hd => ((valid_dat h.2).2 d hd).2.1) (fun d hd => ((valid_dat h'.2).2 d hd).2.1) (h.1.symm.trans h'.1)
open Classical in
noncomputable def rrV (s : ByteArray) : List Dat × Bool := if s.size = 0 then ([], true) else if h : ∃ L, RdOk s L then (Classical.choose h, true) else ([], false)
theorem rrV_ok {s : ByteArray} {L : List Dat} (h0 : s.size ≠ 0) (h : RdOk s L) : rrV s = (L, true) := by
  have hx : ∃ L, RdOk s L := ⟨L, h⟩
  unfold rrV
  rw [if_neg h0, dif_pos hx, rdOk_uniq (Classical.choose_spec hx) h]
theorem rrV_no {s : ByteArray} (h0 : s.size ≠ 0) (h : ∀ L, ¬ RdOk s L) : rrV s = ([], false) := by
  unfold rrV
  rw [if_neg h0, dif_neg (fun ⟨L, hL⟩ => h L hL)]
theorem rrV_nil {s : ByteArray} (h0 : s.size = 0) : rrV s = ([], true) := by unfold rrV; rw [if_pos h0]
/-- what has been read of the parts so far -/
def PartD (p : ByteArray) (d : Dat) : Prop := ∃ lv, splitS p 32 = d.1 :: lv :: d.2.2 ∧ digD lv d.2.1
/-- parts and data, one by one -/
def PartsD : List ByteArray → List Dat → Prop
  | [], [] => True
  | p :: P, d :: L => PartD p d ∧ PartsD P L
  | _, _ => False
theorem PartsD.nil : PartsD [] [] := trivial
theorem PartsD.snoc : ∀ {P : List ByteArray} {L : List Dat} {p : ByteArray} {d : Dat}, PartsD P L → PartD p d → PartsD (P ++ [p]) (L ++ [d])
  | [], [], _, _, _, h => ⟨h, trivial⟩
  | [], _ :: _, _, _, h1, _ => h1.elim
  | _ :: _, [], _, _, h1, _ => h1.elim
  | _ :: _, _ :: _, _, _, h1, h => ⟨h1.1, PartsD.snoc h1.2 h⟩
theorem PartsD.words : ∀ {P : List ByteArray} {L : List Dat}, PartsD P L → (∀ d ∈ L, 1 ≤ d.2.1 ∧ d.2.1 ≤ 5) → P.map (fun p => splitS p 32) = L.map wordsD
  | [], [], _, _ => rfl
  | [], _ :: _, h, _ => h.elim
  | _ :: _, [], h, _ => h.elim
  | _ :: _, d :: _, h0, h => by
    obtain ⟨lv, e1, e2⟩ := h0.1
    have e3 := e2.1 (h d (by simp))
    rw [List.map_cons, List.map_cons, PartsD.words h0.2 (fun x hx => h x (List.mem_cons_of_mem _ hx)), e1, e3]; rfl
theorem PartsD.uniq : ∀ {P : List ByteArray} {L M : List Dat}, PartsD P L → (∀ d ∈ M, 1 ≤ d.2.1 ∧ d.2.1 ≤ 5) → P.map (fun p => splitS p 32) = M.map wordsD → L = M
  | [], [], [], _, _, _ => rfl
  | [], _ :: _, _, h, _, _ => h.elim
  | _ :: _, [], _, h, _, _ => h.elim
  | [], [], _ :: _, _, _, h => by simp at h
  | _ :: _, _ :: _, [], _, _, h => by simp at h
  | _ :: _, d :: _, e :: M, h0, hl, h => by
    obtain ⟨lv, e1, e2⟩ := h0.1
    simp only [List.map_cons, List.cons.injEq] at h
    rw [PartsD.uniq h0.2 (fun x hx => hl x (List.mem_cons_of_mem _ hx)) h.2]
    have h3 := h.1
    rw [e1] at h3
    unfold wordsD at h3
    injection h3 with g1 g2
    injection g2 with g2 g3
    have g4 := e2.2 e.2.1 (hl e (by simp)) g2
    obtain ⟨a, b, c⟩ := d
    obtain ⟨a', b', c'⟩ := e
    simp only at g1 g3 g4
    rw [g1, g3, g4]
theorem PartsD.len : ∀ {P : List ByteArray} {L : List Dat}, PartsD P L → L.length = P.length
  | [], [], _ => rfl
  | [], _ :: _, h => h.elim
  | _ :: _, [], h => h.elim
  | _ :: _, _ :: _, h => by rw [List.length_cons, List.length_cons, PartsD.len h.2]
/-- the reference: all parts read -/
theorem ref_done {s : ByteArray} {L : List Dat} (h0 : s.size ≠ 0) (h : PartsD (splitS s 47) L) : rrV s = if validD L = true then (L, true) else ([], false) := by
  by_cases hv : validD L = true
  · rw [if_pos hv]
    exact rrV_ok h0 ⟨h.words (fun d hd => ((valid_dat hv).2 d hd).2.1), hv⟩
  · rw [if_neg hv]
    refine rrV_no h0 fun M hM => hv ?_
    rw [h.uniq (fun d hd => ((valid_dat hM.2).2 d hd).2.1) hM.1]
    exact hM.2
theorem ref_bad {s : ByteArray} (h0 : s.size ≠ 0) {p : ByteArray} (hp : p ∈ splitS s 47) (h : ∀ d : Dat, 1 ≤ d.2.1 ∧ d.2.1 ≤ 5 → splitS p 32 ≠ wordsD d) : rrV s = ([], false) := by
  refine rrV_no h0 fun M hM => ?_
  have h1 : splitS p 32 ∈ M.map wordsD := by rw [← hM.1]; exact List.mem_map_of_mem (f := fun p => splitS p 32) hp
  obtain ⟨d, hd, e⟩ := List.mem_map.1 h1
  exact h d ((valid_dat hM.2).2 d hd).2.1 e.symm
/-! ### the program's parts: nine at most -/
def parts9 (s : ByteArray) : List ByteArray := Lib.splitB ⟨#[47]⟩ 0 (min 9 (s.size + 1) - 1) s
theorem splitK_len (c : UInt8) : ∀ (k : Nat) (l : List UInt8), k ≤ l.count c → (Lib.splitK [c] 0 k l).length = k + 1
  | 0, l, _ => by simp [Lib.splitK]
  | k + 1, l, h => by
    unfold Lib.splitK
    rcases idx_cases c l with ⟨h1, h2⟩ | ⟨i, h1, h2, h3, h4⟩
    · rw [List.count_eq_zero.2 h2] at h; omega
    · have hb := ne_m1 i
      rw [h1, hb]
      simp only [Int.toNat_natCast, Nat.add_zero, Bool.false_eq_true, if_false, List.length_cons, List.length_nil, Nat.zero_add]
      have hc : l.count c = (l.drop (i + 1)).count c + 1 := by
        conv => lhs; rw [h3]
        rw [List.count_append, List.count_cons_self, List.count_eq_zero.2 h4]; omega
      rw [splitK_len c k _ (by omega)]
theorem parts9_eq {s : ByteArray} (h : (parts9 s).length ≤ 8 ∨ (splitS s 47).length ≤ 8) : parts9 s = splitS s 47 := by
  have htl : tlZ (parts9 s) = Lib.splitK [47] 0 (min 9 (s.size + 1) - 1) s.data.toList := Lib.splitB_data ⟨#[47]⟩ 0 _ s
  obtain ⟨g1, g2⟩ := splitK_join 47 (min 9 (s.size + 1) - 1) s.data.toList
  obtain ⟨h1, h2, h3⟩ := splitS_ok s 47
  rcases splitK_no 47 (min 9 (s.size + 1) - 1) s.data.toList with hk | hk
  · rw [← htl] at g1 g2 hk
    exact tlZ_inj (join_uniq g1 h1 hk h2 (by rw [g2, h3]))
  · exfalso
    have hcn : s.data.toList.count 47 ≤ s.size := by
      have h := List.count_le_length (a := (47 : UInt8)) (l := s.data.toList)
      have := size_l s
      omega
    have hl1 := splitK_len 47 (min 9 (s.size + 1) - 1) s.data.toList (by omega)
    rw [← htl] at hl1
    have hl2 : (tlZ (parts9 s)).length = (parts9 s).length := by simp [tlZ]
    have hl3 : (tlZ (splitS s 47)).length = (splitS s 47).length := by simp [tlZ]
    rcases count_join h2 with hc | hc
    · rw [h3] at hc; omega
    · exact h1 hc
/-- the program: all of its parts read -/
theorem prog_done {s : ByteArray} {L : List Dat} (h0 : s.size ≠ 0) (h : PartsD (parts9 s) L) : (validD L = true → rrV s = (L, true) ∧ rgT L = s) ∧ (validD L = false → rrV s = ([], false)) := by
  refine ⟨fun hv => ?_, fun hv => ?_⟩
  · have hl := (valid_dat hv).1
    have e := parts9_eq (s := s) (.inl (by rw [← h.len]; exact hl))
    rw [e] at h
    have hw := h.words (fun d hd => ((valid_dat hv).2 d hd).2.1)
    refine ⟨rrV_ok h0 ⟨hw, hv⟩, ?_⟩
    have hreg : L.map regT = splitS s 47 := by
      have h2 : L.map regT = (L.map wordsD).map fun ws => (⟨(Lib.join (tlZ ws) [32]).toArray⟩ : ByteArray) := by rw [List.map_map]; rfl
      rw [h2, ← hw, List.map_map]
      conv => rhs; rw [← List.map_id (splitS s 47)]
      refine List.map_congr_left fun p hp => ?_
      show (⟨(Lib.join (tlZ (splitS p 32)) [32]).toArray⟩ : ByteArray) = p
      rw [(splitS_ok p 32).2.2]
    unfold rgT
    rw [hreg, (splitS_ok s 47).2.2]
  · refine rrV_no h0 fun M hM => ?_
    have hl : (splitS s 47).length ≤ 8 := by
      have h1 := congrArg List.length hM.1
      rw [List.length_map, List.length_map] at h1
      have := (valid_dat hM.2).1
      omega
    rw [parts9_eq (.inr hl)] at h
    rw [h.uniq (fun d hd => ((valid_dat hM.2).2 d hd).2.1) hM.1, hM.2] at hv
    cases hv
theorem prog_bad {s : ByteArray} (h0 : s.size ≠ 0) {p : ByteArray} (hp : p ∈ parts9 s) (h : ∀ d : Dat, 1 ≤ d.2.1 ∧ d.2.1 ≤ 5 → splitS p 32 ≠ wordsD d) : rrV s = ([], false) := by
  refine rrV_no h0 fun M hM => ?_
  have hl : (splitS s 47).length ≤ 8 := by
    have h1 := congrArg List.length hM.1
    rw [List.length_map, List.length_map] at h1
    have := (valid_dat hM.2).1
    omega
  rw [parts9_eq (.inr hl)] at hp
  have h1 : splitS p 32 ∈ M.map wordsD := by rw [← hM.1]; exact List.mem_map_of_mem (f := fun p => splitS p 32) hp
  obtain ⟨d, hd, e⟩ := List.mem_map.1 h1
  exact h d ((valid_dat hM.2).2 d hd).2.1 e.symm
end Go.Proofs.YteklfeeamjgplaaDoor
