/- Texts of zones: plain mathematics of parts and of joining them. -/
import Derived.Lib.Split
import Derived.Lib.Join
namespace Go.Proofs.YteklfeeamjgplaaGreatDoor
open Go
set_option linter.unusedVariables false
theorem ne_m1 (i : Nat) : ((i : Int) == -1) = false := by simp
theorem size_l (s : ByteArray) : s.data.toList.length = s.size := by show s.data.toList.length = s.data.size; exact Array.length_toList
theorem idx_cases (c : UInt8) : ∀ l : List UInt8, (Lib.index l [c] = -1 ∧ c ∉ l) ∨ ∃ i : Nat, Lib.index l [c] = i ∧ i < l.length ∧ l = l.take i ++ c :: l.drop (i + 1) ∧ c ∉ l.take i
  | [] => .inl ⟨by simp [Lib.index], by simp⟩
  | b :: l => by
    by_cases e : c = b
    · subst e
      refine .inr ⟨0, ?_, Nat.succ_pos _, rfl, List.not_mem_nil⟩
      unfold Lib.index
      simp
    · have hp : ([c] : List UInt8).isPrefixOf (b :: l) = false := by
        show (c == b && ([] : List UInt8).isPrefixOf l) = false
        rw [show (c == b) = false from by simpa using e]; rfl
      rcases idx_cases c l with ⟨h1, h2⟩ | ⟨i, h1, h2, h3, h4⟩
      · refine .inl ⟨?_, ?_⟩
        · unfold Lib.index
          rw [hp, h1]; rfl
        · rw [List.mem_cons]; rintro (h | h)
          · exact e h
          · exact h2 h
      · refine .inr ⟨i + 1, ?_, by rw [List.length_cons]; omega, ?_, ?_⟩
        · unfold Lib.index
          have hb := ne_m1 i
          rw [hp, h1, hb]; simp
        · simp only [List.take_succ_cons, List.drop_succ_cons, List.cons_append]
          rw [← h3]
        · rw [List.take_succ_cons, List.mem_cons]; rintro (h | h)
          · exact e h
          · exact h4 h
theorem join_two (x y : List UInt8) (r : List (List UInt8)) (c : UInt8) : Lib.join (x :: y :: r) [c] = x ++ c :: Lib.join (y :: r) [c] := by
  rw [Lib.join_cons, Lib.join_cons]; simp [Lib.joinTail]
theorem join_snoc (c : UInt8) (y : List UInt8) : ∀ P : List (List UInt8), P ≠ [] → Lib.join (P ++ [y]) [c] = Lib.join P [c] ++ c :: y
  | [], h => absurd rfl h
  | [x], _ => by rw [List.singleton_append, join_two, Lib.join_one, Lib.join_one]
  | x :: z :: r, _ => by
    have ih := join_snoc c y (z :: r) (by simp)
    rw [List.cons_append, List.cons_append, join_two, join_two, ← List.cons_append, ih]; simp
theorem join_last (c b : UInt8) (x : List UInt8) : ∀ P : List (List UInt8), Lib.join (P ++ [x ++ [b]]) [c] = Lib.join (P ++ [x]) [c] ++ [b]
  | [] => by rw [List.nil_append, List.nil_append, Lib.join_one, Lib.join_one]
  | p :: P => by rw [join_snoc c _ (p :: P) (by simp), join_snoc c _ (p :: P) (by simp)]; simp
theorem splitK_join (c : UInt8) : ∀ (k : Nat) (l : List UInt8), Lib.splitK [c] 0 k l ≠ [] ∧ Lib.join (Lib.splitK [c] 0 k l) [c] = l
  | 0, l => ⟨by simp [Lib.splitK], by simp [Lib.splitK, Lib.join_one]⟩
  | k + 1, l => by
    unfold Lib.splitK
    rcases idx_cases c l with ⟨h1, h2⟩ | ⟨i, h1, h2, h3, h4⟩
    · rw [h1]; simp [Lib.join_one]
    · have hb := ne_m1 i
      rw [h1, hb]
      obtain ⟨g1, g2⟩ := splitK_join c k (l.drop (i + 1))
      refine ⟨by simp, ?_⟩
      simp only [Int.toNat_natCast, Nat.add_zero, Bool.false_eq_true, if_false, List.length_singleton]
      generalize Lib.splitK [c] 0 k (l.drop (i + 1)) = Q at *
      cases Q with
      | nil => exact absurd rfl g1
      | cons y r => rw [join_two, g2]; exact h3.symm
theorem splitK_no (c : UInt8) : ∀ (k : Nat) (l : List UInt8), (∀ p ∈ Lib.splitK [c] 0 k l, c ∉ p) ∨ k < l.count c
  | 0, l => by
    by_cases h : c ∈ l
    · exact .inr (List.count_pos_iff.2 h)
    · exact .inl (by simpa [Lib.splitK] using h)
  | k + 1, l => by
    unfold Lib.splitK
    rcases idx_cases c l with ⟨h1, h2⟩ | ⟨i, h1, h2, h3, h4⟩
    · rw [h1]; exact .inl (by simpa using h2)
    · have hb := ne_m1 i
      rw [h1, hb]
      simp only [Int.toNat_natCast, Nat.add_zero, Bool.false_eq_true, if_false, List.length_singleton]
      have hc : l.count c = (l.drop (i + 1)).count c + 1 := by
        conv => lhs; rw [h3]
        rw [List.count_append, List.count_cons_self, List.count_eq_zero.2 h4]; omega
      rcases splitK_no c k (l.drop (i + 1)) with h | h
      · refine .inl fun p hp => ?_
        rcases List.mem_cons.1 hp with rfl | hp
        · exact h4
        · exact h p hp
      · exact .inr (by omega)
theorem app_uniq {c : UInt8} : ∀ {x y A B : List UInt8}, c ∉ x → c ∉ y → x ++ c :: A = y ++ c :: B → x = y ∧ A = B
  | [], [], A, B, _, _, h => ⟨rfl, by simpa using h⟩
  | [], b :: y, A, B, _, hy, h => by simp at h; exact absurd h.1 (fun e => hy (by rw [e]; exact List.mem_cons_self ..))
  | a :: x, [], A, B, hx, _, h => by simp at h; exact absurd h.1 (fun e => hx (by rw [← e]; exact List.mem_cons_self ..))
  | a :: x, b :: y, A, B, hx, hy, h => by
    simp only [List.cons_append, List.cons.injEq] at h
    obtain ⟨e1, e2⟩ := app_uniq (fun q => hx (List.mem_cons_of_mem _ q)) (fun q => hy (List.mem_cons_of_mem _ q)) h.2
    exact ⟨by rw [h.1, e1], e2⟩
theorem join_uniq {c : UInt8} : ∀ {P Q : List (List UInt8)}, P ≠ [] → Q ≠ [] → (∀ p ∈ P, c ∉ p) → (∀ p ∈ Q, c ∉ p) → Lib.join P [c] = Lib.join Q [c] → P = Q
  | [], _, h, _, _, _, _ => absurd rfl h
  | _ :: _, [], _, h, _, _, _ => absurd rfl h
  | [x], [y], _, _, _, _, h => by rw [Lib.join_one, Lib.join_one] at h; rw [h]
  | [x], y :: z :: r, _, _, hP, _, h => by
    rw [Lib.join_one, join_two] at h
    exact absurd (by rw [h]; simp) (hP x (by simp))
  | x :: z :: r, [y], _, _, _, hQ, h => by
    rw [Lib.join_one, join_two] at h
    exact absurd (by rw [← h]; simp) (hQ y (by simp))
  | x :: x' :: r, y :: y' :: r', _, _, hP, hQ, h => by
    rw [join_two, join_two] at h
    obtain ⟨e1, e2⟩ := app_uniq (hP x (by simp)) (hQ y (by simp)) h
    have ih := join_uniq (P := x' :: r) (Q := y' :: r') (by simp) (by simp) (fun p hp => hP p (List.mem_cons_of_mem _ hp)) (fun p hp => hQ p (List.mem_cons_of_mem _ hp)) e2
    rw [e1, ih]
theorem count_join {c : UInt8} : ∀ {P : List (List UInt8)}, (∀ p ∈ P, c ∉ p) → (Lib.join P [c]).count c + 1 = P.length ∨ P = []
  | [], _ => .inr rfl
  | [x], h => .inl (by rw [Lib.join_one, List.count_eq_zero.2 (h x (by simp))]; rfl)
  | x :: y :: r, h => by
    rcases count_join (P := y :: r) (fun p hp => h p (List.mem_cons_of_mem _ hp)) with e | e
    · refine .inl ?_
      rw [join_two, List.count_append, List.count_cons_self, List.count_eq_zero.2 (h x (by simp))]
      rw [List.length_cons, ← e]; omega
    · cases e
/-! ### the parts, byte by byte -/
def spB (s : ByteArray) (c : UInt8) : Nat → List ByteArray × Nat
  | 0 => ([], 0)
  | k + 1 => if s.data.toList[k]? = some c then ((spB s c k).1 ++ [s.extract (spB s c k).2 k], k + 1) else spB s c k
def splitS (s : ByteArray) (c : UInt8) : List ByteArray := (spB s c s.size).1 ++ [s.extract (spB s c s.size).2 s.size]
theorem ext_list (s : ByteArray) (a b : Nat) : (s.extract a b).data.toList = (s.data.toList.take b).drop a := by
  rw [Lib.extract_data]
  simp [List.drop_take]
def tlZ (L : List ByteArray) : List (List UInt8) := L.map (·.data.toList)
theorem tlZ_snoc (P : List ByteArray) (s : ByteArray) (a b : Nat) : tlZ (P ++ [s.extract a b]) = tlZ P ++ [(s.data.toList.take b).drop a] := by
  unfold tlZ; rw [List.map_append, List.map_singleton, ext_list]
structure SpInv (s : ByteArray) (c : UInt8) (k : Nat) (P : List ByteArray) (f : Nat) : Prop where
  le : f ≤ k
  no : ∀ p ∈ tlZ P, c ∉ p
  cur : c ∉ (s.data.toList.take k).drop f
  join : Lib.join (tlZ P ++ [(s.data.toList.take k).drop f]) [c] = s.data.toList.take k
theorem spB_inv (s : ByteArray) (c : UInt8) : ∀ k, k ≤ s.data.toList.length → SpInv s c k (spB s c k).1 (spB s c k).2
  | 0, _ => ⟨Nat.le_refl _, by simp [spB, tlZ], by simp, by simp [spB, tlZ, Lib.join_one]⟩
  | k + 1, h => by
    obtain ⟨h1, h2, h3, h4⟩ := spB_inv s c k (by omega)
    have hk : k < s.data.toList.length := by omega
    have hg : s.data.toList[k]? = some (s.data.toList[k]) := List.getElem?_eq_getElem hk
    have ht : s.data.toList.take (k + 1) = s.data.toList.take k ++ [s.data.toList[k]] := by rw [List.take_add_one, hg]; rfl
    rw [spB]
    by_cases e : s.data.toList[k]? = some c
    · rw [if_pos e]
      have ec : s.data.toList[k] = c := by rw [hg] at e; exact Option.some.inj e
      simp only
      have hd : (s.data.toList.take (k + 1)).drop (k + 1) = [] := List.drop_of_length_le (by rw [List.length_take]; omega)
      have htl : tlZ ((spB s c k).1 ++ [s.extract (spB s c k).2 k]) = tlZ (spB s c k).1 ++ [(s.data.toList.take k).drop (spB s c k).2] := tlZ_snoc _ _ _ _
      refine ⟨Nat.le_refl _, ?_, by rw [hd]; simp, ?_⟩
      · rw [htl]; intro p hp
        rcases List.mem_append.1 hp with hp | hp
        · exact h2 p hp
        · rw [List.mem_singleton] at hp; rw [hp]; exact h3
      · rw [htl, hd, join_snoc c [] _ (by simp), h4, ht, ec]
    · rw [if_neg e]
      have hd : (s.data.toList.take (k + 1)).drop (spB s c k).2 = (s.data.toList.take k).drop (spB s c k).2 ++ [s.data.toList[k]] := by
        rw [ht, List.drop_append_of_le_length (by rw [List.length_take]; omega)]
      refine ⟨by omega, h2, ?_, ?_⟩
      · rw [hd, List.mem_append]; rintro (q | q)
        · exact h3 q
        · rw [List.mem_singleton] at q; exact e (by rw [hg, q])
      · rw [hd, join_last, h4, ht]
theorem spB_len (s : ByteArray) (c : UInt8) : ∀ k, (spB s c k).1.length ≤ k
  | 0 => by simp [spB]
  | k + 1 => by
    have := spB_len s c k
    rw [spB]; split
    · rw [List.length_append]; simp; omega
    · omega
theorem splitS_ok (s : ByteArray) (c : UInt8) : tlZ (splitS s c) ≠ [] ∧ (∀ p ∈ tlZ (splitS s c), c ∉ p) ∧ Lib.join (tlZ (splitS s c)) [c] = s.data.toList := by
  have hs := size_l s
  obtain ⟨h1, h2, h3, h4⟩ := spB_inv s c s.size (by omega)
  have htl : tlZ (splitS s c) = tlZ (spB s c s.size).1 ++ [(s.data.toList.take s.size).drop (spB s c s.size).2] := tlZ_snoc _ _ _ _
  have hta : s.data.toList.take s.size = s.data.toList := List.take_of_length_le (by omega)
  refine ⟨by rw [htl]; simp, ?_, ?_⟩
  · rw [htl]; intro p hp
    rcases List.mem_append.1 hp with hp | hp
    · exact h2 p hp
    · rw [List.mem_singleton] at hp; rw [hp]; exact h3
  · rw [htl, h4, hta]
theorem tlZ_inj {L Q : List ByteArray} (h : tlZ L = tlZ Q) : L = Q := by
  unfold tlZ at h
  refine (List.map_inj_right (f := fun b : ByteArray => b.data.toList) ?_).1 h
  rintro ⟨⟨a⟩⟩ ⟨⟨b⟩⟩ e
  simp at e
  rw [e]
/-! ### zones -/
def nameZ : Int → ByteArray
  | 0 => ⟨#[119, 104, 105, 116, 101]⟩
  | 1 => ⟨#[121, 101, 108, 108, 111, 119]⟩
  | 2 => ⟨#[98, 108, 117, 101]⟩
  | 3 => ⟨#[114, 101, 100]⟩
  | _ => ⟨#[]⟩
def zn (b : ByteArray) : Int := if nameZ 0 = b then 0 else if nameZ 1 = b then 1 else if nameZ 2 = b then 2 else if nameZ 3 = b then 3 else -1
theorem zn_bd (b : ByteArray) : -1 ≤ zn b ∧ zn b ≤ 3 := by
  unfold zn
  repeat (split; · omega)
  omega
theorem zn_name {b : ByteArray} (h : 0 ≤ zn b) : nameZ (zn b) = b := by
  unfold zn at h ⊢
  split
  · rename_i e; exact e
  · split
    · rename_i e; exact e
    · split
      · rename_i e; exact e
      · split
        · rename_i e; exact e
        · simp_all
theorem name_no {z : Int} : (32 : UInt8) ∉ (nameZ z).data.toList := by
  unfold nameZ
  split <;> decide
def specZ (s : ByteArray) : List Int × Bool :=
  if s.size = 0 then ([], true) else if ((splitS s 32).all fun b => decide (0 ≤ zn b)) && decide ((splitS s 32).length ≤ 64) then ((splitS s 32).map zn, true) else ([], false)
def sp1 : ByteArray := ⟨#[32]⟩
def partsZ (s : ByteArray) : List ByteArray := Lib.splitB sp1 0 (min 65 (s.size + 1) - 1) s
theorem partsZ_tl (s : ByteArray) : tlZ (partsZ s) = Lib.splitK [32] 0 (min 65 (s.size + 1) - 1) s.data.toList := Lib.splitB_data sp1 0 _ s
theorem partsZ_eq {s : ByteArray} (h : ∀ p ∈ tlZ (partsZ s), (32 : UInt8) ∉ p) : partsZ s = splitS s 32 := by
  obtain ⟨g1, g2⟩ := splitK_join 32 (min 65 (s.size + 1) - 1) s.data.toList
  obtain ⟨h1, h2, h3⟩ := splitS_ok s 32
  rw [← partsZ_tl] at g1 g2
  exact tlZ_inj (join_uniq g1 h1 h h2 (by rw [g2, h3]))
theorem zn_no {b : ByteArray} (h : 0 ≤ zn b) : (32 : UInt8) ∉ b.data.toList := by rw [← zn_name h]; exact name_no
/-- all parts are zones -/
theorem impl_all {s : ByteArray} (h0 : s.size ≠ 0) (h : ∀ b ∈ partsZ s, 0 ≤ zn b) : partsZ s = splitS s 32 ∧ Lib.join (tlZ (partsZ s)) [32] = s.data.toList ∧ specZ s = if (partsZ s).length ≤ 64 then ((partsZ s).map zn, true) else ([], false) := by
  have e : partsZ s = splitS s 32 := partsZ_eq fun p hp => by
    obtain ⟨b, hb, rfl⟩ := List.mem_map.1 hp
    exact zn_no (h b hb)
  refine ⟨e, by rw [e]; exact (splitS_ok s 32).2.2, ?_⟩
  rw [specZ, if_neg h0, ← e]
  have ha : ((partsZ s).all fun b => decide (0 ≤ zn b)) = true := by rw [List.all_eq_true]; exact fun b hb => decide_eq_true (h b hb)
  rw [ha, Bool.true_and]
  by_cases hl : (partsZ s).length ≤ 64
  · rw [if_pos hl, if_pos (by simpa using hl)]
  · rw [if_neg hl, if_neg (by simpa using hl)]
/-- some part is no zone -/
theorem impl_no {s : ByteArray} (h0 : s.size ≠ 0) {b : ByteArray} (hb : b ∈ partsZ s) (hz : zn b < 0) : specZ s = ([], false) := by
  rw [specZ, if_neg h0]
  by_cases hc : (((splitS s 32).all fun b => decide (0 ≤ zn b)) && decide ((splitS s 32).length ≤ 64)) = true
  · exfalso
    simp only [Bool.and_eq_true, List.all_eq_true, decide_eq_true_eq] at hc
    obtain ⟨h1, h2⟩ := hc
    obtain ⟨g1, g2, g3⟩ := splitS_ok s 32
    have hcj := count_join g2
    have hln : (tlZ (splitS s 32)).length = (splitS s 32).length := by simp [tlZ]
    have hcn : s.data.toList.count 32 ≤ s.size := by
      have h := List.count_le_length (a := (32 : UInt8)) (l := s.data.toList)
      have := size_l s
      omega
    rcases splitK_no 32 (min 65 (s.size + 1) - 1) s.data.toList with h | h
    · rw [← partsZ_tl] at h
      have e := partsZ_eq h
      rw [e] at hb
      have := h1 b hb
      omega
    · rcases hcj with hcj | hcj
      · rw [g3] at hcj; omega
      · exact g1 hcj
  · rw [if_neg hc]
end Go.Proofs.YteklfeeamjgplaaGreatDoor
