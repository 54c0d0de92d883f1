/- Rows that a call owns, by the range of their blocks; steps that write into one range alone. -/
import Derived.Test.YtjmnhmghpikknaaDoorInts
namespace Go.Proofs.YtjmnhmghpikknaaDoor
open Go.ChangeShapes Go.WideShapes Go.ChangeAt Go.RowKit
set_option linter.unusedVariables false

/-- The slice value v (n elements of s cells, element type T) owns a row that lies in a block from lo to below hi, or is nil; its cells are xs. -/
def Own (w : World) (lo hi : Nat) (T : TypeId) (s : Nat) (v : Value) (n : Nat) (xs : List Value) : Prop :=
  w.ownsRow lo T s v n xs ∧ ∀ g, v.ownBlock = some g → g < hi

/-- Of what was there, only blocks from lo to below hi may have turned. -/
structure Only (lo hi : Nat) (w w' : World) : Prop where
  os : w'.os = w.os
  tape : w'.tape = w.tape
  output : w'.output = w.output
  size : w.heap.size ≤ w'.heap.size
  block : ∀ k, k < w.heap.size → (k < lo ∨ hi ≤ k) → w'.heap[k]? = w.heap[k]?

section
variable {w w' w'' : World} {lo hi lo' hi' B s n : Nat} {T : TypeId} {v : Value} {xs : List Value}

theorem Only.refl (lo hi : Nat) (w : World) : Only lo hi w w := ⟨rfl, rfl, rfl, Nat.le_refl _, fun _ _ _ => rfl⟩
theorem Only.trans (h : Only lo hi w w') (k : Only lo hi w' w'') : Only lo hi w w'' :=
  ⟨k.os.trans h.os, k.tape.trans h.tape, k.output.trans h.output, Nat.le_trans h.size k.size, fun i hi' hc => (k.block i (Nat.lt_of_lt_of_le hi' h.size) hc).trans (h.block i hi' hc)⟩
theorem Only.below (h : Only lo hi w w') (hB : B ≤ lo) (hs : B ≤ w.heap.size) : Below B w w' :=
  ⟨h.os, h.tape, h.output, h.size, fun k hk => h.block k (by omega) (.inl (by omega))⟩
theorem Only.of_below (h : Below B w w') (_hh : w.heap.size ≤ hi) (hlo : lo ≤ B) : Only lo hi w w' :=
  ⟨h.os, h.tape, h.output, h.size, fun k hk hc => h.block k (by omega)⟩
theorem Only.of_grown {row : Option Nat} (hg : w.grownBy w' row) (hr : ∀ g, row = some g → lo ≤ g ∧ g < hi) : Only lo hi w w' :=
  ⟨hg.os, hg.tape, hg.output, hg.size, fun k hk hc => hg.block k hk (fun e => by have := hr k e.symm; omega)⟩

theorem Own.slice (h : Own w lo hi T s v n xs) : ∃ A c, v = .slice A n c ∧ n ≤ c ∧ c ≤ maxLen := by
  rcases h.1.2 with ⟨rfl, rfl⟩ | ⟨g, cap, cur, rfl, _, _, hn, hm, _⟩
  · exact ⟨none, 0, rfl, Nat.le_refl _, by simp [maxLen]⟩
  · exact ⟨_, _, rfl, hn, hm⟩
theorem Own.only (h : Own w lo hi T s v n xs) (ho : Only lo' hi' w w') (hd : hi ≤ lo' ∨ hi' ≤ lo) : Own w' lo hi T s v n xs := by
  refine ⟨⟨h.1.1, ?_⟩, h.2⟩
  rcases h.1.2 with hn | ⟨g, cap, cur, rfl, hb, hg, rest⟩
  · exact .inl hn
  · have hlt := h.2 g (by simp [Value.ownBlock])
    refine .inr ⟨g, cap, cur, rfl, hb, ?_, rest⟩
    rw [ho.block g (Array.getElem?_eq_some_iff.1 hg).1 (by omega)]
    exact hg
theorem Own.below (h : Own w lo hi T s v n xs) (hb : Below B w w') (hB : hi ≤ B) : Own w' lo hi T s v n xs := by
  refine ⟨⟨h.1.1, ?_⟩, h.2⟩
  rcases h.1.2 with hn | ⟨g, cap, cur, rfl, hb', hg, rest⟩
  · exact .inl hn
  · have hlt := h.2 g (by simp [Value.ownBlock])
    refine .inr ⟨g, cap, cur, rfl, hb', ?_, rest⟩
    rw [hb.block g (by omega)]
    exact hg
theorem Own.drewN (h : Own w lo hi T s v n xs) (q : Nat) : Own (w.drewN q) lo hi T s v n xs := h
theorem Own.drew (h : Own w lo hi T s v n xs) : Own w.drew lo hi T s v n xs := h
theorem Own.widen (h : Own w lo hi T s v n xs) (h1 : lo' ≤ lo) (h2 : hi ≤ hi') : Own w lo' hi' T s v n xs := by
  refine ⟨⟨h.1.1, ?_⟩, fun g hg => by have := h.2 g hg; omega⟩
  rcases h.1.2 with hn | ⟨g, cap, cur, rfl, hb, hg, rest⟩
  · exact .inl hn
  · exact .inr ⟨g, cap, cur, rfl, by omega, hg, rest⟩
theorem Own.of_owns (h : w.ownsRow lo T s v n xs) (hh : w.heap.size ≤ hi) : Own w lo hi T s v n xs := ⟨h, fun g hg => by have := (h.lt g hg).2; omega⟩
theorem Own.nil : Own w lo hi T s (.slice none 0 0) 0 [] := ⟨World.ownsRow_nil _ _ _ _, fun g hg => by simp [Value.ownBlock] at hg⟩
theorem Own.of_blk {g : Nat} {cs : Array Value} (h : Blk w g T cs) (hs : cs.size = n * s) (hb : lo ≤ g) (hh : g < hi) (hn : n ≤ maxLen) : Own w lo hi T s (.slice (some ⟨g, 0, none⟩) n n) n cs.toList :=
  ⟨⟨by simpa using hs, .inr ⟨g, n, cs, rfl, hb, h, Nat.le_refl _, hn, hs, List.take_of_length_le (by rw [Array.length_toList]; omega)⟩⟩, fun g' hg' => by simp [Value.ownBlock] at hg'; omega⟩
theorem Own.reads {A : Option Addr} {c : Nat} (h : Own w lo hi T s (.slice A n c) n xs) : Reads w hi s A n xs := by
  refine ⟨h.1.1, fun hn => ?_⟩
  obtain ⟨g, cap, hv, _, hlt⟩ := h.1.form hn
  have hA : A = some ⟨g, 0, none⟩ := by injection hv
  subst hA
  exact ⟨_, rfl, h.2 g (by simp [Value.ownBlock]), h.1.cells (g := g) rfl⟩
theorem Own.at_ {A : Option Addr} {c : Nat} (h : Own w lo hi T s (.slice A n c) n xs) (hn : 0 < n) : ∃ g, A = some ⟨g, 0, none⟩ ∧ lo ≤ g ∧ g < hi ∧ g < w.heap.size := by
  obtain ⟨g, cap, hv, h1, hlt⟩ := h.1.form hn
  have hA : A = some ⟨g, 0, none⟩ := by injection hv
  subst hA
  exact ⟨g, rfl, h1, h.2 g (by simp [Value.ownBlock]), hlt⟩
theorem Own.stored {g c j : Nat} (h : Own w lo hi T s (.slice (some ⟨g, 0, none⟩) n c) n xs) (u : Value) : Own (w.setCell ⟨g, j, none⟩ u) lo hi T s (.slice (some ⟨g, 0, none⟩) n c) n (xs.set j u) ∧ Only lo hi w (w.setCell ⟨g, j, none⟩ u) := by
  have hl := h.1.lt g (by simp [Value.ownBlock])
  have hh := h.2 g (by simp [Value.ownBlock])
  have hs := h.1.stored j u
  exact ⟨⟨hs.1, h.2⟩, .of_grown hs.2 (fun g' hg' => by injection hg'; omega)⟩
end

/-! ### append of one element to a row of the call's own -/
theorem app_gen {ops : Array Oper} {rest : List Oper} {o : Oper} {a : Act} {Q : Exit → Act → World → Prop} {w : World} (hgd : o.guard = none) (s x : Operand) (t : TypeId)
    (ho : o.op = .call { callee := .builtin .append, args := #[s, x], argTypes := #[t, t] })
    (lo : Nat) (e : TypeId) (z : Value) (size bytes : Nat) (ht : Tryd.prog.underlying t = some (.slice e)) (hinfo : (Tryd.prog.info? e).map (fun i => (i.zero, i.size, i.bytes)) = some (some z, size, bytes))
    (hzs : z.cells.size = size) (hsz : 0 < size) (hby : bytes ≤ 1000)
    (v : Value) (n : Nat) (xs : List Value) (us : List Value) (g : Nat) (hs : a.eval s = v) (hown : w.ownsRow lo e size v n xs)
    (hx : a.eval x = .slice (some ⟨g, 0, none⟩) 1 1) (hl : us.length = size) (h1 : ∀ u ∈ us, u.oneCell' = true) (hc : ∀ j u, us[j]? = some u → w.cell? ⟨g, j, none⟩ = some u)
    (hn : n ≤ 100000000000) (hlo : lo ≤ w.heap.size)
    (h : ∀ v' w', w'.ownsRow lo e size v' (n + 1) (xs ++ us) → Below lo w w' → w.heap.size ≤ w'.heap.size → wpList Tryd.prog ops Q rest (a.put o.dst v') w') : wpList Tryd.prog ops Q (o :: rest) a w := by
  obtain ⟨i, hi, hz, hs', hb⟩ := info_parts hinfo
  have hg : g < w.heap.size := World.block_lt_of_cell? w ⟨g, 0, none⟩ (hc 0 us[0] (List.getElem?_eq_getElem (by omega)))
  refine wpList_append_any w hgd s x t ho lo e i z size bytes ht hi hz hs' hb hzs hsz v n xs hs hown w.heap.size (some ⟨g, 0, none⟩) 1 1 us hx
    ⟨by simpa using hl, fun _ => ⟨_, rfl, hg, fun j u hu => ?_⟩⟩ h1 (by simp only [maxLen]; omega) ?_ hlo ?_
  · rw [show (⟨g, 0, none⟩ : Addr).add j = ⟨g, j, none⟩ from by unfold Addr.add; split <;> simp_all]
    exact hc j u hu
  · calc (n + 1) * bytes ≤ (n + 1) * 1000 := Nat.mul_le_mul_left _ hby
      _ ≤ _ := by omega
  · intro v' w' h2 h3 _
    exact h v' w' h2 ((Below.refl _ _).grown h3 hlo (fun k hk => (hown.lt k hk).1)) h3.size

theorem app_i64 {ops : Array Oper} {rest : List Oper} {o : Oper} {a : Act} {Q : Exit → Act → World → Prop} {w : World} (hgd : o.guard = none) (s x : Operand)
    (ho : o.op = .call { callee := .builtin .append, args := #[s, x], argTypes := #[27, 27] })
    (lo : Nat) (v : Value) (n : Nat) (zs : List Int) (z : Int) (g : Nat) (hs : a.eval s = v) (hown : w.ownsRow lo 2 1 v n (ints zs))
    (hx : a.eval x = .slice (some ⟨g, 0, none⟩) 1 1) (hc : w.cell? ⟨g, 0, none⟩ = some (.int .i64 z)) (hn : n ≤ 100000000000) (hlo : lo ≤ w.heap.size)
    (h : ∀ v' w', w'.ownsRow lo 2 1 v' (n + 1) (ints (zs ++ [z])) → Below lo w w' → w.heap.size ≤ w'.heap.size → wpList Tryd.prog ops Q rest (a.put o.dst v') w') : wpList Tryd.prog ops Q (o :: rest) a w := by
  refine app_gen hgd s x _ ho lo _ _ 1 8 Tryd.underlying27 info_i64 rfl (by omega) (by omega) v n (ints zs) [.int .i64 z] g hs hown hx rfl (by simp [Value.oneCell']) (fun j u hu => ?_) hn hlo (fun v' w' h1 h2 h3 => h v' w' (by simpa [ints] using h1) h2 h3)
  match j with
  | 0 => simp at hu; rw [hc, hu]
  | j + 1 => simp at hu

theorem ints_one (zs : List Int) : ∀ u ∈ ints zs, u.oneCell' = true := by
  intro u hu
  simp only [ints, List.mem_map] at hu
  obtain ⟨z, _, rfl⟩ := hu
  simp [Value.oneCell']
/-- append of a whole list of integers -/
theorem app_i64s {ops : Array Oper} {rest : List Oper} {o : Oper} {a : Act} {Q : Exit → Act → World → Prop} {w : World} (hgd : o.guard = none) (s x : Operand)
    (ho : o.op = .call { callee := .builtin .append, args := #[s, x], argTypes := #[27, 27] })
    (lo : Nat) (v : Value) (n : Nat) (zs us : List Int) (B : Nat) (A : Option Addr) (m c : Nat) (hs : a.eval s = v) (hown : w.ownsRow lo 2 1 v n (ints zs))
    (hx : a.eval x = .slice A m c) (hr : Reads w B 1 A m (ints us)) (hn : n + m ≤ 100000000000) (hlo : lo ≤ w.heap.size)
    (h : ∀ v' w', w'.ownsRow lo 2 1 v' (n + m) (ints (zs ++ us)) → Below lo w w' → w.heap.size ≤ w'.heap.size → wpList Tryd.prog ops Q rest (a.put o.dst v') w') : wpList Tryd.prog ops Q (o :: rest) a w := by
  obtain ⟨i, hi, hz, hs', hb⟩ := info_parts info_i64
  refine wpList_append_any w hgd s x _ ho lo _ i _ 1 8 Tryd.underlying27 hi hz hs' hb rfl (by omega) v n (ints zs) hs hown B A m c (ints us) hx hr (ints_one us) (by simp only [maxLen]; omega) (by omega) hlo ?_
  intro v' w' h2 h3 _
  exact h v' w' (by rw [ints_app]; exact h2) ((Below.refl _ _).grown h3 hlo (fun k hk => (hown.lt k hk).1)) h3.size



end Go.Proofs.YtjmnhmghpikknaaDoor
