/- Bulletins: reading one from a text; plain facts, and words of memory. -/
import Derived.Test.YthbnliepgjjbdaaGreatDoorSnT
import Derived.Test.YthbnliepgjjbdaaGreatDoorComp
import Derived.Test.YthbnliepgjjbdaaGreatDoorBul
import Derived.Lib.SplitLaws
namespace Go.Proofs.YthbnliepgjjbdaaGreatDoor
open Go.ChangeShapes Go.WideShapes Go.ChangeAt Go.RowKit
set_option linter.unusedVariables false
theorem splitB_all (s : ByteArray) (c : UInt8) : Lib.splitB ⟨#[c]⟩ 0 (Lib.countB s ⟨#[c]⟩) s = splitS s c := by
  have hcn : Lib.countB s ⟨#[c]⟩ = s.data.toList.count c := Lib.count_one c s.data.toList
  have htl : tl (Lib.splitB ⟨#[c]⟩ 0 (Lib.countB s ⟨#[c]⟩) s) = Lib.splitK [c] 0 (Lib.countB s ⟨#[c]⟩) s.data.toList := Lib.splitB_data ⟨#[c]⟩ 0 _ s
  obtain ⟨g1, g2⟩ := splitK_join c (Lib.countB s ⟨#[c]⟩) s.data.toList
  obtain ⟨h1, h2, h3⟩ := splitS_ok s c
  rcases splitK_no c (Lib.countB s ⟨#[c]⟩) s.data.toList with h | h
  · rw [← htl] at g1 g2 h
    exact tl_inj (join_uniq g1 h1 h h2 (by rw [g2, h3]))
  · omega
theorem split_count (s : ByteArray) (c : UInt8) : Lib.countB s ⟨#[c]⟩ + 1 = (splitS s c).length := by
  have hcn : Lib.countB s ⟨#[c]⟩ = s.data.toList.count c := Lib.count_one c s.data.toList
  obtain ⟨h1, h2, h3⟩ := splitS_ok s c
  have hln : (tl (splitS s c)).length = (splitS s c).length := by simp [tl]
  rcases count_join h2 with h | h
  · rw [h3] at h; omega
  · exact absurd h h1
theorem join_mem_le (c : UInt8) : ∀ (P : List (List UInt8)) (p : List UInt8), p ∈ P → p.length ≤ (Lib.join P [c]).length
  | [], p, h => by cases h
  | [x], p, h => by rw [Lib.join_one]; rw [List.mem_singleton] at h; rw [h]; exact Nat.le_refl _
  | x :: y :: r, p, h => by
    rw [join_two, List.length_append, List.length_cons]
    rcases List.mem_cons.1 h with h | h
    · rw [h]; omega
    · have := join_mem_le c (y :: r) p h; omega
theorem part_size {s p : ByteArray} {c : UInt8} (h : p ∈ splitS s c) : p.size ≤ s.size := by
  have h1 := join_mem_le c (tl (splitS s c)) p.data.toList (List.mem_map.2 ⟨p, h, rfl⟩)
  rw [(splitS_ok s c).2.2, size_l, size_l] at h1
  exact h1
theorem split_len (s : ByteArray) (c : UInt8) : (splitS s c).length ≤ s.size + 1 := by
  unfold splitS
  rw [List.length_append]
  have := spB_len s c s.size
  simp; omega
noncomputable def rdP (l : Nat) (p : ByteArray) : Sen × Bool := readV l p.data.toList
noncomputable def rbL (l : Nat) (s : ByteArray) : List Sen := (splitS s 47).map fun p => (rdP l p).1
noncomputable def rbV (n : Int) (s : ByteArray) : List Sen × Int :=
  if inB n 1 4 = false then ([], 2) else if s = ⟨#[45]⟩ then ([], 0)
  else if (splitS s 47).all (fun p => (rdP n.toNat p).2) = true then (if bulB (rbL n.toNat s) = true then (rbL n.toNat s, 0) else ([], 9)) else ([], 8)
theorem rbV_lang {n : Int} (h : inB n 1 4 = false) (s : ByteArray) : rbV n s = ([], 2) := by unfold rbV; rw [if_pos h]
theorem rbV_dash {n : Int} (h : inB n 1 4 = true) {s : ByteArray} (hs : s = ⟨#[45]⟩) : rbV n s = ([], 0) := by unfold rbV; rw [if_neg (by rw [h]; simp), if_pos hs]
theorem rbV_bad {n : Int} (h : inB n 1 4 = true) {s : ByteArray} (hs : s ≠ ⟨#[45]⟩) {p : ByteArray} (hp : p ∈ splitS s 47) (hb : (rdP n.toNat p).2 = false) : rbV n s = ([], 8) := by
  unfold rbV
  rw [if_neg (by rw [h]; simp), if_neg hs, if_neg]
  intro ha
  rw [List.all_eq_true] at ha
  have := ha p hp
  rw [hb] at this; cases this
theorem rbV_good {n : Int} (h : inB n 1 4 = true) {s : ByteArray} (hs : s ≠ ⟨#[45]⟩) (ha : ∀ p ∈ splitS s 47, (rdP n.toNat p).2 = true) : rbV n s = if bulB (rbL n.toNat s) = true then (rbL n.toNat s, 0) else ([], 9) := by
  unfold rbV
  rw [if_neg (by rw [h]; simp), if_neg hs, if_pos (by rw [List.all_eq_true]; exact ha)]
theorem rbV_len (n : Int) (s : ByteArray) : (rbV n s).1.length ≤ 7 := by
  unfold rbV
  repeat' split
  all_goals first | simp | skip
  rename_i h
  exact (by
    unfold bulB at h
    simp only [Bool.and_eq_true, decide_eq_true_eq] at h
    exact h.2)
def RBPost (v : List Sen × Int) (w : World) (e : Ending) (w' : World) : Prop :=
  ∃ A c, e = .returned (.tuple #[.slice A v.1.length c, .int .i64 v.2]) ∧ Own w' w.heap.size w'.heap.size 38 3 (.slice A v.1.length c) v.1.length (sens v.1) ∧ Below w.heap.size w w'
theorem RBPost.nil {v : List Sen × Int} {z : Int} {w w' : World} (hv : v = ([], z)) (hb : Below w.heap.size w w') : RBPost v w (.returned (.tuple #[.slice none 0 0, .int .i64 z])) w' := by
  subst hv
  exact ⟨none, 0, rfl, Own.nil, hb⟩
theorem own_typesY {w : World} {lo lo' s s' n n' : Nat} {T T' : TypeId} {v v' : Value} {xs xs' : List Value} (h : w.ownsRow lo T s v n xs) (h' : w.ownsRow lo' T' s' v' n' xs') (hne : T ≠ T') : ∀ g, v.ownBlock = some g → some g ≠ v'.ownBlock := by
  intro g hg e
  rcases h.2 with ⟨rfl, _⟩ | ⟨g1, c1, cur1, rfl, _, h1, _⟩
  · simp [Value.ownBlock] at hg
  · rcases h'.2 with ⟨rfl, _⟩ | ⟨g2, c2, cur2, rfl, _, h2, _⟩
    · simp [Value.ownBlock] at e
    · have e1 : g1 = g := by simpa [Value.ownBlock] using hg
      have e2 : g = g2 := by simpa [Value.ownBlock] using e
      subst e1 e2
      rw [h1] at h2
      injection h2 with h2
      injection h2 with _ ht
      exact hne ht
theorem own_grownY {w w' : World} {lo hi s n : Nat} {T : TypeId} {v : Value} {xs : List Value} {row : Option Nat} (h : Own w lo hi T s v n xs) (hg : w.grownBy w' row) (hne : ∀ g, v.ownBlock = some g → some g ≠ row) : Own w' lo hi T s v n xs := by
  refine ⟨⟨h.1.1, ?_⟩, h.2⟩
  rcases h.1.2 with hn | ⟨g, cap, cur, rfl, hb, hgb, rest⟩
  · exact .inl hn
  · refine .inr ⟨g, cap, cur, rfl, hb, ?_, rest⟩
    rw [hg.block g (Array.getElem?_eq_some_iff.1 hgb).1 (hne g (by simp [Value.ownBlock]))]
    exact hgb
theorem sens_one (ss : List Sen) : ∀ u ∈ sens ss, u.oneCell' = true := by
  intro u hu
  unfold sens at hu
  rw [List.mem_flatMap] at hu
  obtain ⟨s, _, h⟩ := hu
  simp [Sen.cells] at h
  rcases h with rfl | rfl | rfl <;> simp [Value.oneCell']
theorem app_senk {ops : Array Oper} {rest : List Oper} {o : Oper} {a : Act} {Q : Exit → Act → World → Prop} {w : World} (hgd : o.guard = none) (s x : Operand)
    (ho : o.op = .call { callee := .builtin .append, args := #[s, x], argTypes := #[25, 25] })
    (lo : Nat) (v : Value) (n : Nat) (ss : List Sen) (z : Sen) (g : Nat) (hs : a.eval s = v) (hown : w.ownsRow lo 38 3 v n (sens ss))
    (hx : a.eval x = .slice (some ⟨g, 0, none⟩) 1 1) (hc : Blk w g 38 #[.int .i64 z.k, .int .i64 z.a, .int .i64 z.b])
    (hn : n ≤ 100000000000) (hlo : lo ≤ w.heap.size)
    (h : ∀ v' w', w'.ownsRow lo 38 3 v' (n + 1) (sens (ss ++ [z])) → w.grownBy w' v.ownBlock → (v'.ownBlock = v.ownBlock ∨ v'.ownBlock = some w.heap.size) → wpList Tryz.prog ops Q rest (a.put o.dst v') w') : wpList Tryz.prog ops Q (o :: rest) a w := by
  obtain ⟨i, hi, hz, hs', hb⟩ := info_parts info_sen
  refine wpList_append_any w hgd s x _ ho lo _ i _ 3 24 Tryz.underlying25 hi hz hs' hb rfl (by omega) v n (sens ss) hs hown w.heap.size (some ⟨g, 0, none⟩) 1 1 (sens [z]) hx
    ⟨rfl, fun _ => ⟨_, rfl, hc.lt, fun j u hu => ?_⟩⟩ (sens_one [z]) (by simp only [maxLen]; omega) (by omega) hlo ?_
  · have e : (⟨g, 0, none⟩ : Addr).add j = ⟨g, j, none⟩ := by unfold Addr.add; split <;> simp_all
    rw [e, hc.cell j]
    match j with
    | 0 => simpa [sens, Sen.cells] using hu
    | 1 => simpa [sens, Sen.cells] using hu
    | 2 => simpa [sens, Sen.cells] using hu
    | j + 3 => simp [sens, Sen.cells] at hu
  · intro v' w' h2 h3 h4
    exact h v' w' (by rw [sens_app]; exact h2) h3 h4
end Go.Proofs.YthbnliepgjjbdaaGreatDoor
