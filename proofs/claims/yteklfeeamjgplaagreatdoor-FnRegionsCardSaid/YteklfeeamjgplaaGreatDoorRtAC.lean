/- XRtA, XRtC, XRtD: merged texts. -/
import Derived.Test.YteklfeeamjgplaaGreatDoorRgP
import Derived.Test.YteklfeeamjgplaaGreatDoorNmA
/- Texts of regions (plain): what a valid list's names are; the text of a list. -/
namespace Go.Proofs.YteklfeeamjgplaaGreatDoor
open Go.ChangeShapes Go.WideShapes Go.ChangeAt Go.RowKit
set_option linter.unusedVariables false
theorem eqS_eq {a b : ByteArray} (h : eqS a b = true) : a = b := by
  unfold eqS at h
  rw [ByteArray.toList_eq, ByteArray.toList_eq, beq_iff_eq] at h
  obtain ⟨⟨a⟩⟩ := a
  obtain ⟨⟨b⟩⟩ := b
  simp at h
  rw [h]
theorem byteAt_list {s : ByteArray} {c : UInt8} (h : c ∈ s.data.toList) : ∃ k, k < s.size ∧ byteAt s k = (c.toNat : Nat) := by
  obtain ⟨k, hk⟩ := List.getElem?_of_mem h
  have hlt := (List.getElem?_eq_some_iff.1 hk).1
  rw [size_l] at hlt
  refine ⟨k, hlt, ?_⟩
  rw [← byteAt_eq hlt]
  have h2 : s.data.toList[k]? = some (s[k]'hlt) := by rw [Array.getElem?_toList, Array.getElem?_eq_getElem hlt]; rfl
  rw [hk] at h2
  injection h2 with h2
  rw [h2]
theorem name_facts {s : ByteArray} (h : nameV s = true) : 1 ≤ s.size ∧ s.size ≤ 10 ∧ (32 : UInt8) ∉ s.data.toList ∧ (47 : UInt8) ∉ s.data.toList := by
  unfold nameV at h
  simp only [Bool.and_eq_true, decide_eq_true_eq] at h
  obtain ⟨⟨h1, _⟩, h3⟩ := h
  have hb : ∀ c ∈ s.data.toList, okU (c.toNat : Nat) = true := fun c hc => by
    obtain ⟨k, hk, e⟩ := byteAt_list hc
    rw [← e]
    exact List.all_eq_true.1 h3 k (List.mem_range.2 hk)
  refine ⟨h1.1, h1.2, fun hc => ?_, fun hc => ?_⟩
  · have := hb _ hc; revert this; decide
  · have := hb _ hc; revert this; decide
theorem valid_facts {rs : List Rg} (h : validR rs = true) : rs.length ≤ 8 ∧ ∀ x ∈ rs, nameV x.id = true ∧ (1 ≤ x.lv ∧ x.lv ≤ 5) ∧ ∀ m ∈ x.near, nameV m = true := by
  unfold validR at h
  simp only [Bool.and_eq_true, decide_eq_true_eq] at h
  obtain ⟨h1, h2⟩ := h
  have hid : ∀ y ∈ rs, nameV y.id = true := fun y hy => by
    obtain ⟨i, hi⟩ := List.getElem?_of_mem hy
    have h3 := okTo_at h2 (List.getElem?_eq_some_iff.1 hi).1
    rw [okAt_some hi] at h3
    simp only [Bool.and_eq_true] at h3
    exact h3.1.1.1
  refine ⟨h1, fun x hx => ?_⟩
  obtain ⟨i, hi⟩ := List.getElem?_of_mem hx
  have h3 := okTo_at h2 (List.getElem?_eq_some_iff.1 hi).1
  rw [okAt_some hi] at h3
  simp only [Bool.and_eq_true] at h3
  obtain ⟨⟨⟨_, h4⟩, _⟩, h5⟩ := h3
  refine ⟨hid x hx, by unfold inB at h4; simpa using h4, fun m hm => ?_⟩
  obtain ⟨k, hk⟩ := List.getElem?_of_mem hm
  have h6 := List.all_eq_true.1 h5 k (List.mem_range.2 (List.getElem?_eq_some_iff.1 hk).1)
  unfold okIn at h6
  simp only [Bool.and_eq_true] at h6
  have h7 := h6.2
  rw [sAt_get hk] at h7
  unfold isNearR at h7
  split at h7
  · cases h7
  · rename_i h8
    obtain ⟨y, g1, g2, _⟩ := idxOf_spec (findP m) rs (by unfold findR at h8; omega)
    have h9 := eqS_eq g2
    rw [← h9]
    exact hid y (List.mem_of_getElem? g1)
/-- the words of a region, its text, the text of a list -/
def decZ (z : Int) : ByteArray := ⟨(Lib.itoa z).toArray⟩
def wordsD (d : Dat) : List ByteArray := d.1 :: decZ d.2.1 :: d.2.2
def regT (d : Dat) : ByteArray := ⟨(Lib.join (tlZ (wordsD d)) [32]).toArray⟩
def rgT (ds : List Dat) : ByteArray := ⟨(Lib.join (tlZ (ds.map regT)) [47]).toArray⟩
def rtV (ds : List Dat) : ByteArray := if validD ds = true then rgT ds else ⟨#[]⟩
theorem decZ_one {z : Int} (h : 1 ≤ z ∧ z ≤ 5) : (decZ z).size = 1 ∧ (Lib.itoa z).length = 1 ∧ Lib.itoa z = Lib.decDigits z.toNat := by
  have e : Lib.itoa z = Lib.decDigits z.toNat := by unfold Lib.itoa; rw [if_neg (by omega)]
  have e2 : Lib.decDigits z.toNat = [UInt8.ofNat (48 + z.toNat)] := Lib.decDigits_one (by omega)
  have h1 : (Lib.itoa z).length = 1 := by rw [e, e2]; rfl
  exact ⟨h1, h1, e⟩
theorem join_bound (c : UInt8) (N : Nat) : ∀ P : List (List UInt8), (∀ p ∈ P, p.length ≤ N) → (Lib.join P [c]).length ≤ (N + 1) * P.length
  | [], _ => by simp [Lib.join]
  | [x], h => by
    rw [Lib.join_one]
    have := h x (by simp)
    simp; omega
  | x :: y :: r, h => by
    have ih := join_bound c N (y :: r) (fun p hp => h p (List.mem_cons_of_mem _ hp))
    have h1 := h x (by simp)
    rw [join_two, List.length_append, List.length_cons]
    have e : (N + 1) * (x :: y :: r).length = (N + 1) + (N + 1) * (y :: r).length := by simp only [List.length_cons]; rw [Nat.mul_add, Nat.mul_one, Nat.add_comm]
    rw [e]; omega
theorem regT_size {x : Rg} (hn : nameV x.id = true) (hl : 1 ≤ x.lv ∧ x.lv ≤ 5) (hm : ∀ m ∈ x.near, nameV m = true) : (regT x.dat).size ≤ 11 * (x.near.length + 2) := by
  show (Lib.join (tlZ (wordsD x.dat)) [32]).length ≤ _
  have h := join_bound 32 10 (tlZ (wordsD x.dat)) (fun p hp => by
    unfold tlZ at hp
    obtain ⟨b, hb, rfl⟩ := List.mem_map.1 hp
    rw [size_l]
    unfold wordsD Rg.dat at hb
    rcases List.mem_cons.1 hb with rfl | hb
    · exact (name_facts hn).2.1
    · rcases List.mem_cons.1 hb with rfl | hb
      · have := (decZ_one hl).1; simp only; omega
      · exact (name_facts (hm b hb)).2.1)
  have hl2 : (tlZ (wordsD x.dat)).length = x.near.length + 2 := by simp [tlZ, wordsD, Rg.dat]
  rw [hl2] at h
  exact h
end Go.Proofs.YteklfeeamjgplaaGreatDoor

/- Regions read from a text (plain). -/
namespace Go.Proofs.YteklfeeamjgplaaGreatDoor
open Go.ChangeShapes Go.WideShapes Go.ChangeAt Go.RowKit
set_option linter.unusedVariables false
theorem valid_dat {ds : List Dat} (h : validD ds = true) : ds.length ≤ 8 ∧ ∀ d ∈ ds, nameV d.1 = true ∧ (1 ≤ d.2.1 ∧ d.2.1 ≤ 5) ∧ ∀ m ∈ d.2.2, nameV m = true := by
  unfold validD at h
  obtain ⟨h1, h2⟩ := valid_facts h
  rw [List.length_map] at h1
  exact ⟨h1, fun d hd => h2 (unD d) (List.mem_map_of_mem hd)⟩
theorem decZ_dec {z : Int} (h : 1 ≤ z ∧ z ≤ 5) : decZ z = decB z.toNat := by unfold decZ decB; rw [(decZ_one h).2.2]
theorem decZ_inj {y z : Int} (hy : 1 ≤ y ∧ y ≤ 5) (hz : 1 ≤ z ∧ z ≤ 5) (h : decZ y = decZ z) : y = z := by
  rw [decZ_dec hy, decZ_dec hz] at h
  have h2 := congrArg (fun b : ByteArray => b.data.toList) h
  have h3 : y.toNat = z.toNat := dec_inj (by simpa [decB] using h2)
  omega
/-- a number that a reader makes of a text, as far as levels go -/
def digD (s : ByteArray) (z : Int) : Prop := (1 ≤ z ∧ z ≤ 5 → s = decZ z) ∧ ∀ y, 1 ≤ y ∧ y ≤ 5 → s = decZ y → z = y
theorem digD_prog {s : ByteArray} {z : Int} (h : rdV s = (z, true)) : digD s z := by
  refine ⟨fun hz => ?_, fun y hy e => ?_⟩
  · unfold rdV at h
    split at h
    · rename_i v hv
      split at h
      · rename_i hc
        injection h with h1 h2
        subst h1
        unfold decZ
        rw [hc.2]
      · injection h with h1 h2; cases h2
    · injection h with h1 h2; cases h2
  · rw [e, decZ_dec hy, rd_dec (by omega)] at h
    injection h with h1 h2
    omega
theorem rd_fail {s : ByteArray} (h : (rdV s).2 = false) : ∀ y, 1 ≤ y ∧ y ≤ 5 → s ≠ decZ y := by
  intro y hy e
  rw [e, decZ_dec hy, rd_dec (by omega)] at h
  cases h
theorem wordsD_inj {d e : Dat} (hd : 1 ≤ d.2.1 ∧ d.2.1 ≤ 5) (he : 1 ≤ e.2.1 ∧ e.2.1 ≤ 5) (h : wordsD d = wordsD e) : d = e := by
  unfold wordsD at h
  injection h with h1 h2
  injection h2 with h2 h3
  have h4 := decZ_inj hd he h2
  obtain ⟨a, b, c⟩ := d
  obtain ⟨a', b', c'⟩ := e
  simp only at h1 h3 h4
  rw [h1, h3, h4]
def RdOk (s : ByteArray) (L : List Dat) : Prop := (splitS s 47).map (fun p => splitS p 32) = L.map wordsD ∧ validD L = true
theorem map_words_inj : ∀ {L M : List Dat}, (∀ d ∈ L, 1 ≤ d.2.1 ∧ d.2.1 ≤ 5) → (∀ d ∈ M, 1 ≤ d.2.1 ∧ d.2.1 ≤ 5) → L.map wordsD = M.map wordsD → L = M
  | [], [], _, _, _ => rfl
  | [], _ :: _, _, _, h => by simp at h
  | _ :: _, [], _, _, h => by simp at h
  | d :: L, e :: M, h1, h2, h => by
    simp only [List.map_cons, List.cons.injEq] at h
    rw [wordsD_inj (h1 d (by simp)) (h2 e (by simp)) h.1, map_words_inj (fun x hx => h1 x (List.mem_cons_of_mem _ hx)) (fun x hx => h2 x (List.mem_cons_of_mem _ hx)) h.2]
theorem rdOk_uniq {s : ByteArray} {L M : List Dat} (h : RdOk s L) (h' : RdOk s M) : L = M :=
  map_words_inj (fun d hd => ((valid_dat h.2).2 d hd).2.1) (fun d hd => ((valid_dat h'.2).2 d hd).2.1) (h.1.symm.trans h'.1)
open Classical in
noncomputable def rrV (s : ByteArray) : List Dat × Bool := if s.size = 0 then ([], true) else if h : ∃ L, RdOk s L then (Classical.choose h, true) else ([], false)
theorem rrV_ok {s : ByteArray} {L : List Dat} (h0 : s.size ≠ 0) (h : RdOk s L) : rrV s = (L, true) := by
  have hx : ∃ L, RdOk s L := ⟨L, h⟩
  unfold rrV
  rw [if_neg h0, dif_pos hx, rdOk_uniq (Classical.choose_spec hx) h]
theorem rrV_no {s : ByteArray} (h0 : s.size ≠ 0) (h : ∀ L, ¬ RdOk s L) : rrV s = ([], false) := by
  unfold rrV
  rw [if_neg h0, dif_neg (fun ⟨L, hL⟩ => h L hL)]
theorem rrV_nil {s : ByteArray} (h0 : s.size = 0) : rrV s = ([], true) := by unfold rrV; rw [if_pos h0]
/-- what has been read of the parts so far -/
def PartD (p : ByteArray) (d : Dat) : Prop := ∃ lv, splitS p 32 = d.1 :: lv :: d.2.2 ∧ digD lv d.2.1
/-- parts and data, one by one -/
def PartsD : List ByteArray → List Dat → Prop
  | [], [] => True
  | p :: P, d :: L => PartD p d ∧ PartsD P L
  | _, _ => False
theorem PartsD.nil : PartsD [] [] := trivial
theorem PartsD.snoc : ∀ {P : List ByteArray} {L : List Dat} {p : ByteArray} {d : Dat}, PartsD P L → PartD p d → PartsD (P ++ [p]) (L ++ [d])
  | [], [], _, _, _, h => ⟨h, trivial⟩
  | [], _ :: _, _, _, h1, _ => h1.elim
  | _ :: _, [], _, _, h1, _ => h1.elim
  | _ :: _, _ :: _, _, _, h1, h => ⟨h1.1, PartsD.snoc h1.2 h⟩
theorem PartsD.words : ∀ {P : List ByteArray} {L : List Dat}, PartsD P L → (∀ d ∈ L, 1 ≤ d.2.1 ∧ d.2.1 ≤ 5) → P.map (fun p => splitS p 32) = L.map wordsD
  | [], [], _, _ => rfl
  | [], _ :: _, h, _ => h.elim
  | _ :: _, [], h, _ => h.elim
  | _ :: _, d :: _, h0, h => by
    obtain ⟨lv, e1, e2⟩ := h0.1
    have e3 := e2.1 (h d (by simp))
    rw [List.map_cons, List.map_cons, PartsD.words h0.2 (fun x hx => h x (List.mem_cons_of_mem _ hx)), e1, e3]; rfl
theorem PartsD.uniq : ∀ {P : List ByteArray} {L M : List Dat}, PartsD P L → (∀ d ∈ M, 1 ≤ d.2.1 ∧ d.2.1 ≤ 5) → P.map (fun p => splitS p 32) = M.map wordsD → L = M
  | [], [], [], _, _, _ => rfl
  | [], _ :: _, _, h, _, _ => h.elim
  | _ :: _, [], _, h, _, _ => h.elim
  | [], [], _ :: _, _, _, h => by simp at h
  | _ :: _, _ :: _, [], _, _, h => by simp at h
  | _ :: _, d :: _, e :: M, h0, hl, h => by
    obtain ⟨lv, e1, e2⟩ := h0.1
    simp only [List.map_cons, List.cons.injEq] at h
    rw [PartsD.uniq h0.2 (fun x hx => hl x (List.mem_cons_of_mem _ hx)) h.2]
    have h3 := h.1
    rw [e1] at h3
    unfold wordsD at h3
    injection h3 with g1 g2
    injection g2 with g2 g3
    have g4 := e2.2 e.2.1 (hl e (by simp)) g2
    obtain ⟨a, b, c⟩ := d
    obtain ⟨a', b', c'⟩ := e
    simp only at g1 g3 g4
    rw [g1, g3, g4]
theorem PartsD.len : ∀ {P : List ByteArray} {L : List Dat}, PartsD P L → L.length = P.length
  | [], [], _ => rfl
  | [], _ :: _, h => h.elim
  | _ :: _, [], h => h.elim
  | _ :: _, _ :: _, h => by rw [List.length_cons, List.length_cons, PartsD.len h.2]
/-- the reference: all parts read -/
theorem ref_done {s : ByteArray} {L : List Dat} (h0 : s.size ≠ 0) (h : PartsD (splitS s 47) L) : rrV s = if validD L = true then (L, true) else ([], false) := by
  by_cases hv : validD L = true
  · rw [if_pos hv]
    exact rrV_ok h0 ⟨h.words (fun d hd => ((valid_dat hv).2 d hd).2.1), hv⟩
  · rw [if_neg hv]
    refine rrV_no h0 fun M hM => hv ?_
    rw [h.uniq (fun d hd => ((valid_dat hM.2).2 d hd).2.1) hM.1]
    exact hM.2
theorem ref_bad {s : ByteArray} (h0 : s.size ≠ 0) {p : ByteArray} (hp : p ∈ splitS s 47) (h : ∀ d : Dat, 1 ≤ d.2.1 ∧ d.2.1 ≤ 5 → splitS p 32 ≠ wordsD d) : rrV s = ([], false) := by
  refine rrV_no h0 fun M hM => ?_
  have h1 : splitS p 32 ∈ M.map wordsD := by rw [← hM.1]; exact List.mem_map_of_mem (f := fun p => splitS p 32) hp
  obtain ⟨d, hd, e⟩ := List.mem_map.1 h1
  exact h d ((valid_dat hM.2).2 d hd).2.1 e.symm
/-! ### the program's parts: nine at most -/
def parts9 (s : ByteArray) : List ByteArray := Lib.splitB ⟨#[47]⟩ 0 (min 9 (s.size + 1) - 1) s
theorem splitK_len (c : UInt8) : ∀ (k : Nat) (l : List UInt8), k ≤ l.count c → (Lib.splitK [c] 0 k l).length = k + 1
  | 0, l, _ => by simp [Lib.splitK]
  | k + 1, l, h => by
    unfold Lib.splitK
    rcases idx_cases c l with ⟨h1, h2⟩ | ⟨i, h1, h2, h3, h4⟩
    · rw [List.count_eq_zero.2 h2] at h; omega
    · have hb := ne_m1 i
      rw [h1, hb]
      simp only [Int.toNat_natCast, Nat.add_zero, Bool.false_eq_true, if_false, List.length_cons, List.length_nil, Nat.zero_add]
      have hc : l.count c = (l.drop (i + 1)).count c + 1 := by
        conv => lhs; rw [h3]
        rw [List.count_append, List.count_cons_self, List.count_eq_zero.2 h4]; omega
      rw [splitK_len c k _ (by omega)]
theorem parts9_eq {s : ByteArray} (h : (parts9 s).length ≤ 8 ∨ (splitS s 47).length ≤ 8) : parts9 s = splitS s 47 := by
  have htl : tlZ (parts9 s) = Lib.splitK [47] 0 (min 9 (s.size + 1) - 1) s.data.toList := Lib.splitB_data ⟨#[47]⟩ 0 _ s
  obtain ⟨g1, g2⟩ := splitK_join 47 (min 9 (s.size + 1) - 1) s.data.toList
  obtain ⟨h1, h2, h3⟩ := splitS_ok s 47
  rcases splitK_no 47 (min 9 (s.size + 1) - 1) s.data.toList with hk | hk
  · rw [← htl] at g1 g2 hk
    exact tlZ_inj (join_uniq g1 h1 hk h2 (by rw [g2, h3]))
  · exfalso
    have hcn : s.data.toList.count 47 ≤ s.size := by
      have h := List.count_le_length (a := (47 : UInt8)) (l := s.data.toList)
      have := size_l s
      omega
    have hl1 := splitK_len 47 (min 9 (s.size + 1) - 1) s.data.toList (by omega)
    rw [← htl] at hl1
    have hl2 : (tlZ (parts9 s)).length = (parts9 s).length := by simp [tlZ]
    have hl3 : (tlZ (splitS s 47)).length = (splitS s 47).length := by simp [tlZ]
    rcases count_join h2 with hc | hc
    · rw [h3] at hc; omega
    · exact h1 hc
/-- the program: all of its parts read -/
theorem prog_done {s : ByteArray} {L : List Dat} (h0 : s.size ≠ 0) (h : PartsD (parts9 s) L) : (validD L = true → rrV s = (L, true) ∧ rgT L = s) ∧ (validD L = false → rrV s = ([], false)) := by
  refine ⟨fun hv => ?_, fun hv => ?_⟩
  · have hl := (valid_dat hv).1
    have e := parts9_eq (s := s) (.inl (by rw [← h.len]; exact hl))
    rw [e] at h
    have hw := h.words (fun d hd => ((valid_dat hv).2 d hd).2.1)
    refine ⟨rrV_ok h0 ⟨hw, hv⟩, ?_⟩
    have hreg : L.map regT = splitS s 47 := by
      have h2 : L.map regT = (L.map wordsD).map fun ws => (⟨(Lib.join (tlZ ws) [32]).toArray⟩ : ByteArray) := by rw [List.map_map]; rfl
      rw [h2, ← hw, List.map_map]
      conv => rhs; rw [← List.map_id (splitS s 47)]
      refine List.map_congr_left fun p hp => ?_
      show (⟨(Lib.join (tlZ (splitS p 32)) [32]).toArray⟩ : ByteArray) = p
      rw [(splitS_ok p 32).2.2]
    unfold rgT
    rw [hreg, (splitS_ok s 47).2.2]
  · refine rrV_no h0 fun M hM => ?_
    have hl : (splitS s 47).length ≤ 8 := by
      have h1 := congrArg List.length hM.1
      rw [List.length_map, List.length_map] at h1
      have := (valid_dat hM.2).1
      omega
    rw [parts9_eq (.inr hl)] at h
    rw [h.uniq (fun d hd => ((valid_dat hM.2).2 d hd).2.1) hM.1, hM.2] at hv
    cases hv
theorem prog_bad {s : ByteArray} (h0 : s.size ≠ 0) {p : ByteArray} (hp : p ∈ parts9 s) (h : ∀ d : Dat, 1 ≤ d.2.1 ∧ d.2.1 ≤ 5 → splitS p 32 ≠ wordsD d) : rrV s = ([], false) := by
  refine rrV_no h0 fun M hM => ?_
  have hl : (splitS s 47).length ≤ 8 := by
    have h1 := congrArg List.length hM.1
    rw [List.length_map, List.length_map] at h1
    have := (valid_dat hM.2).1
    omega
  rw [parts9_eq (.inr hl)] at hp
  have h1 : splitS p 32 ∈ M.map wordsD := by rw [← hM.1]; exact List.mem_map_of_mem (f := fun p => splitS p 32) hp
  obtain ⟨d, hd, e⟩ := List.mem_map.1 h1
  exact h d ((valid_dat hM.2).2 d hd).2.1 e.symm
end Go.Proofs.YteklfeeamjgplaaGreatDoor

/- The text of regions, piece by piece (plain). -/
namespace Go.Proofs.YteklfeeamjgplaaGreatDoor
open Go.ChangeShapes Go.WideShapes Go.ChangeAt Go.RowKit
set_option linter.unusedVariables false
theorem ba_ext {a b : ByteArray} (h : a.data.toList = b.data.toList) : a = b := by
  obtain ⟨⟨a⟩⟩ := a
  obtain ⟨⟨b⟩⟩ := b
  simp at h
  rw [h]
theorem ba_app (a b : ByteArray) : (a ++ b).data.toList = a.data.toList ++ b.data.toList := by
  rw [ByteArray.data_append, Array.toList_append]
def outK (ds : List Dat) (k : Nat) : ByteArray := rgT (ds.take k)
def regK (d : Dat) (j : Nat) : ByteArray := ⟨(Lib.join (tlZ (d.1 :: decZ d.2.1 :: d.2.2.take j)) [32]).toArray⟩
theorem tlZ_app (P Q : List ByteArray) : tlZ (P ++ Q) = tlZ P ++ tlZ Q := by simp [tlZ]
theorem regK_zero (d : Dat) : regK d 0 = (d.1 ++ ⟨#[32]⟩) ++ decZ d.2.1 := by
  apply ba_ext
  rw [ba_app, ba_app]
  show Lib.join [d.1.data.toList, (decZ d.2.1).data.toList] [32] = _
  rw [join_two, Lib.join_one, List.append_assoc]; rfl
theorem regK_succ {d : Dat} {j : Nat} {m : ByteArray} (h : d.2.2[j]? = some m) : regK d (j + 1) = regK d j ++ (⟨#[32]⟩ ++ m) := by
  apply ba_ext
  rw [ba_app, ba_app]
  show Lib.join (tlZ (d.1 :: decZ d.2.1 :: d.2.2.take (j + 1))) [32] = Lib.join (tlZ (d.1 :: decZ d.2.1 :: d.2.2.take j)) [32] ++ ([32] ++ m.data.toList)
  have e : d.1 :: decZ d.2.1 :: d.2.2.take (j + 1) = (d.1 :: decZ d.2.1 :: d.2.2.take j) ++ [m] := by rw [List.take_add_one, h]; rfl
  rw [e, tlZ_app]
  exact join_snoc 32 _ _ (by simp [tlZ])
theorem regK_all (d : Dat) : regK d d.2.2.length = regT d := by unfold regK regT wordsD; rw [List.take_length]
def preK (ds : List Dat) (k : Nat) : ByteArray := if k = 0 then ⟨#[]⟩ else outK ds k ++ ⟨#[47]⟩
theorem outK_succ {ds : List Dat} {k : Nat} {d : Dat} (h : ds[k]? = some d) : outK ds (k + 1) = preK ds k ++ regT d := by
  have e : ds.take (k + 1) = ds.take k ++ [d] := by rw [List.take_add_one, h]; rfl
  apply ba_ext
  rw [ba_app]
  show Lib.join (tlZ ((ds.take (k + 1)).map regT)) [47] = _
  rw [e, List.map_append, tlZ_app]
  unfold preK
  split
  · rename_i h0
    subst h0
    rw [List.take_zero]
    show Lib.join [(regT d).data.toList] [47] = _
    rw [Lib.join_one]; rfl
  · rename_i h0
    rw [ba_app]
    have hn : tlZ ((ds.take k).map regT) ≠ [] := by
      intro e2
      have h2 := congrArg List.length e2
      have h3 := (List.getElem?_eq_some_iff.1 h).1
      rw [show (tlZ ((ds.take k).map regT)).length = min k ds.length by simp [tlZ], List.length_nil] at h2
      omega
    show Lib.join (tlZ ((ds.take k).map regT) ++ [(regT d).data.toList]) [47] = _
    rw [join_snoc 47 _ _ hn, List.append_assoc]; rfl
theorem outK_all (ds : List Dat) : outK ds ds.length = rgT ds := by unfold outK; rw [List.take_length]
theorem outK_zero (ds : List Dat) : outK ds 0 = ⟨#[]⟩ := rfl
theorem regK_size {x : Rg} (hn : nameV x.id = true) (hl : 1 ≤ x.lv ∧ x.lv ≤ 5) (hm : ∀ m ∈ x.near, nameV m = true) (j : Nat) : (regK x.dat j).size ≤ 11 * (x.near.length + 2) := by
  have h := regT_size (x := ⟨x.id, x.lv, x.A, x.n, x.c, x.near.take j⟩) hn hl (fun m h => hm m (List.mem_of_mem_take h))
  have h2 : (x.near.take j).length ≤ x.near.length := by rw [List.length_take]; omega
  exact Nat.le_trans (show (regK x.dat j).size ≤ 11 * ((x.near.take j).length + 2) from h) (by omega)
theorem outK_size {rs : List Rg} {N : Nat} (h : ∀ x ∈ rs, nameV x.id = true ∧ (1 ≤ x.lv ∧ x.lv ≤ 5) ∧ ∀ m ∈ x.near, nameV m = true) (hN : ∀ x ∈ rs, x.near.length ≤ N) (k : Nat) : (outK (rs.map Rg.dat) k).size ≤ (11 * (N + 2) + 1) * k := by
  have h1 := join_bound 47 (11 * (N + 2)) (tlZ (((rs.map Rg.dat).take k).map regT)) (fun p hp => by
    unfold tlZ at hp
    obtain ⟨b, hb, rfl⟩ := List.mem_map.1 hp
    obtain ⟨d, hd, rfl⟩ := List.mem_map.1 hb
    obtain ⟨x, hx, rfl⟩ := List.mem_map.1 (List.mem_of_mem_take hd)
    rw [size_l]
    obtain ⟨a1, a2, a3⟩ := h x hx
    have := regT_size a1 a2 a3
    have := hN x hx
    omega)
  refine Nat.le_trans (show (outK (rs.map Rg.dat) k).size ≤ (11 * (N + 2) + 1) * (tlZ (((rs.map Rg.dat).take k).map regT)).length from h1) (Nat.mul_le_mul_left _ ?_)
  simp [tlZ, List.length_take]
  omega
end Go.Proofs.YteklfeeamjgplaaGreatDoor
