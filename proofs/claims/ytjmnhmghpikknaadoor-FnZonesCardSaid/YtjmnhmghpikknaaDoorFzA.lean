/- FnZones: words of memory, rows of rows, small functions (cut from other texts by wip/tools/mk_fza.py). -/
import Derived.Test.YtjmnhmghpikknaaDoorZnC
namespace Go.Proofs.YtjmnhmghpikknaaDoor
open Go.ChangeShapes Go.WideShapes Go.ChangeAt Go.RowKit
set_option linter.unusedVariables false
set_option linter.unusedVariables false
theorem own_types_ne {w : World} {lo hi lo' hi' s s' n n' : Nat} {T T' : TypeId} {v v' : Value} {xs xs' : List Value} (h : Own w lo hi T s v n xs) (h' : Own w lo' hi' T' s' v' n' xs') (hne : T ≠ T') {g : Nat} (hg : v.ownBlock = some g) : v'.ownBlock ≠ some g := by
  intro hg'
  rcases h.1.2 with ⟨rfl, _⟩ | ⟨g1, cap, cur, rfl, _, hb, _⟩
  · simp [Value.ownBlock] at hg
  rcases h'.1.2 with ⟨rfl, _⟩ | ⟨g2, cap', cur', rfl, _, hb', _⟩
  · simp [Value.ownBlock] at hg'
  simp [Value.ownBlock] at hg hg'
  subst hg; subst hg'
  rw [hb] at hb'
  injection hb' with e
  injection e with _ e2
  exact hne e2
theorem Own.grownBy {w w' : World} {lo hi s n : Nat} {T : TypeId} {v : Value} {xs : List Value} {row : Option Nat} (h : Own w lo hi T s v n xs) (hg : w.grownBy w' row) (hne : ∀ g, v.ownBlock = some g → some g ≠ row) : Own w' lo hi T s v n xs := by
  refine ⟨⟨h.1.1, ?_⟩, h.2⟩
  rcases h.1.2 with hn | ⟨g, cap, cur, rfl, hb, hgb, rest⟩
  · exact .inl hn
  · refine .inr ⟨g, cap, cur, rfl, hb, ?_, rest⟩
    rw [hg.block g (Array.getElem?_eq_some_iff.1 hgb).1 (hne g (by simp [Value.ownBlock]))]
    exact hgb
theorem Own.away {w w' : World} {lo hi b d s n : Nat} {T : TypeId} {v : Value} {xs : List Value} (h : Own w lo hi T s v n xs) (ho : Only b d w w') (hne : ∀ g, v.ownBlock = some g → g < b ∨ d ≤ g) : Own w' lo hi T s v n xs := by
  refine ⟨⟨h.1.1, ?_⟩, h.2⟩
  rcases h.1.2 with hn | ⟨g, cap, cur, rfl, hb, hg, rest⟩
  · exact .inl hn
  · refine .inr ⟨g, cap, cur, rfl, hb, ?_, rest⟩
    rw [ho.block g (Array.getElem?_eq_some_iff.1 hg).1 (hne g (by simp [Value.ownBlock]))]
    exact hg
theorem Own.narrow {w : World} {lo hi s n : Nat} {T : TypeId} {v : Value} {xs : List Value} (h : Own w lo hi T s v n xs) :
    ∃ b d, Own w b d T s v n xs ∧ ((v.ownBlock = some b ∧ d = b + 1 ∧ lo ≤ b ∧ d ≤ hi ∧ d ≤ w.heap.size) ∨ (v.ownBlock = none ∧ b = 0 ∧ d = 0)) := by
  rcases h.1.2 with ⟨rfl, rfl⟩ | ⟨g, cap, cur, rfl, hb, hg, rest⟩
  · exact ⟨0, 0, ⟨⟨h.1.1, .inl ⟨rfl, rfl⟩⟩, fun g hg => by simp [Value.ownBlock] at hg⟩, .inr ⟨by simp [Value.ownBlock], rfl, rfl⟩⟩
  · have hlt := h.2 g (by simp [Value.ownBlock])
    have hgs := (Array.getElem?_eq_some_iff.1 hg).1
    exact ⟨g, g + 1, ⟨⟨h.1.1, .inr ⟨g, cap, cur, rfl, Nat.le_refl _, hg, rest⟩⟩, fun g' hg' => by simp [Value.ownBlock] at hg'; omega⟩, .inl ⟨by simp [Value.ownBlock], rfl, hb, by omega, by omega⟩⟩
theorem only_set (w : World) (p : Addr) (u : Value) : Only p.block (p.block + 1) w (w.setCell p u) := ⟨rfl, rfl, rfl, by simp, fun k hk hc => Below.heap_setCell _ _ _ _ (by omega)⟩
theorem Only.widen {lo hi lo' hi' : Nat} {w w' : World} (h : Only lo hi w w') (h1 : lo' ≤ lo) (h2 : hi ≤ hi') : Only lo' hi' w w' := ⟨h.os, h.tape, h.output, h.size, fun k hk hc => h.block k hk (by omega)⟩
theorem Only.none {lo hi : Nat} {w w' : World} (h : Only 0 0 w w') : Only lo hi w w' := ⟨h.os, h.tape, h.output, h.size, fun k hk hc => h.block k hk (by omega)⟩
structure GRow where
  A : Option Addr
  n : Nat
  c : Nat
  xs : List Value
def GRow.row (x : GRow) : Value := .slice x.A x.n x.c
def gcs (l : List GRow) : List Value := l.map GRow.row
theorem gcs_len (l : List GRow) : (gcs l).length = l.length := by simp [gcs]
theorem gcs_get {l : List GRow} {k : Nat} {x : GRow} (h : l[k]? = some x) : (gcs l)[k]? = some x.row := by simp [gcs, h]
theorem gcs_one (l : List GRow) : ∀ u ∈ gcs l, u.oneCell' = true := by
  intro u hu
  simp only [gcs, List.mem_map] at hu
  obtain ⟨x, _, rfl⟩ := hu
  simp [Value.oneCell', GRow.row]
/-- rows of the call's own: TR the type of a row, TE that of its elements -/
structure OwnG (TR TE : TypeId) (w : World) (lo hi : Nat) (v : Value) (n : Nat) (l : List GRow) : Prop where
  row : Own w lo hi TR 1 v n (gcs l)
  inn : ∀ x ∈ l, Own w lo hi TE 1 x.row x.n x.xs
  pw : l.Pairwise fun x y => ∀ g, x.row.ownBlock = some g → y.row.ownBlock ≠ some g
section
variable {TR TE : TypeId} {w w' : World} {lo hi lo' hi' B n : Nat} {v : Value} {l : List GRow}
theorem OwnG.below (h : OwnG TR TE w lo hi v n l) (hb : Below B w w') (hB : hi ≤ B) : OwnG TR TE w' lo hi v n l := ⟨h.row.below hb hB, fun x hx => (h.inn x hx).below hb hB, h.pw⟩
theorem OwnG.only (h : OwnG TR TE w lo hi v n l) (ho : Only lo' hi' w w') (hd : hi ≤ lo' ∨ hi' ≤ lo) : OwnG TR TE w' lo hi v n l := ⟨h.row.only ho hd, fun x hx => (h.inn x hx).only ho hd, h.pw⟩
theorem OwnG.widen (h : OwnG TR TE w lo hi v n l) (h1 : lo' ≤ lo) (h2 : hi ≤ hi') : OwnG TR TE w lo' hi' v n l := ⟨h.row.widen h1 h2, fun x hx => (h.inn x hx).widen h1 h2, h.pw⟩
theorem OwnG.len (h : OwnG TR TE w lo hi v n l) : l.length = n := by have := h.row.1.1; rw [gcs_len] at this; omega
theorem OwnG.nil : OwnG TR TE w lo hi (.slice none 0 0) 0 [] := ⟨Own.nil, fun x hx => by simp at hx, List.Pairwise.nil⟩
/-- element k of a row of rows, in memory -/
theorem OwnG.at_ {A : Option Addr} {c k : Nat} (h : OwnG TR TE w lo hi (.slice A n c) n l) (hk : k < n) :
    ∃ g x, A = some ⟨g, 0, none⟩ ∧ lo ≤ g ∧ g < hi ∧ l[k]? = some x ∧ w.cell? ⟨g, k, none⟩ = some (.slice x.A x.n x.c) ∧ Own w lo hi TE 1 x.row x.n x.xs := by
  obtain ⟨g, rfl, h1, h2, h3⟩ := h.row.at_ (by omega)
  have hl : l[k]? = some (l[k]'(by have := h.len; omega)) := List.getElem?_eq_getElem _
  refine ⟨g, _, rfl, h1, h2, hl, ?_, h.inn _ (List.mem_of_getElem? hl)⟩
  rw [h.row.1.cellAt k (by omega), gcs_get hl]; rfl
/-- one inner row turned -/
theorem OwnG.setIn {k b d : Nat} {x : GRow} {ys : List Value} (hne : TR ≠ TE) (h : OwnG TR TE w lo hi v n l) (hx : l[k]? = some x) (ho : Only b d w w') (hn : Own w' b d TE 1 x.row x.n ys)
    (hb : (x.row.ownBlock = some b ∧ d = b + 1 ∧ lo ≤ b ∧ d ≤ hi ∧ d ≤ w.heap.size) ∨ (x.row.ownBlock = none ∧ b = 0 ∧ d = 0)) :
    OwnG TR TE w' lo hi v n (l.set k { x with xs := ys }) ∧ Only lo hi w w' := by
  have hxm := List.mem_of_getElem? hx
  have hout : ∀ q : Nat, x.row.ownBlock ≠ some q → q < b ∨ d ≤ q := by
    intro q hq
    rcases hb with ⟨h1, h2, _⟩ | ⟨h1, h2, h3⟩
    · have : b ≠ q := fun e => hq (by subst e; exact h1)
      omega
    · omega
  have key : ∀ j (hj : j < (l.set k { x with xs := ys }).length) (hj' : j < l.length), ((l.set k { x with xs := ys })[j]).row = (l[j]).row := by
    intro j hj hj'
    rw [List.getElem_set]
    split
    · rename_i e; subst e
      have : l[k] = x := by have := List.getElem?_eq_getElem hj'; rw [hx] at this; injection this with this; exact this.symm
      rw [this]; rfl
    · rfl
  have hrow : gcs (l.set k { x with xs := ys }) = gcs l := by
    apply List.ext_getElem?
    intro j
    by_cases hj : j < l.length
    · have hj2 : j < (l.set k { x with xs := ys }).length := by simpa using hj
      rw [gcs_get (List.getElem?_eq_getElem hj2), gcs_get (List.getElem?_eq_getElem hj), key j hj2 hj]
    · rw [List.getElem?_eq_none (by rw [gcs_len]; simp; omega), List.getElem?_eq_none (by rw [gcs_len]; omega)]
  refine ⟨⟨?_, fun z hz => ?_, ?_⟩, ?_⟩
  · rw [hrow]
    exact h.row.away ho (fun q hq => hout q (fun e => own_types_ne h.row (h.inn x hxm) hne hq e))
  · obtain ⟨j, hj⟩ := List.getElem?_of_mem hz
    by_cases e : k = j
    · subst e
      rw [List.getElem?_set_self (List.getElem?_eq_some_iff.1 hx).1] at hj
      injection hj with hj; subst hj
      rcases hb with ⟨h1, h2, h3, h4, _⟩ | ⟨h1, h2, h3⟩
      · exact hn.widen h3 h4
      · rcases hn.1.2 with ⟨e1, e2⟩ | ⟨g, cap, cur, e1, _⟩
        · exact ⟨⟨hn.1.1, .inl ⟨e1, e2⟩⟩, fun g hg => by show g < hi; rw [show ({ x with xs := ys } : GRow).row = x.row from rfl, h1] at hg; cases hg⟩
        · rw [e1] at h1; simp [Value.ownBlock] at h1
    · rw [List.getElem?_set_ne e] at hj
      have hzm := List.mem_of_getElem? hj
      refine (h.inn z hzm).away ho (fun q hq => hout q (fun e2 => ?_))
      have hp := List.pairwise_iff_getElem.1 h.pw
      obtain ⟨hi1, hi2⟩ := List.getElem?_eq_some_iff.1 hx
      obtain ⟨hk1, hk2⟩ := List.getElem?_eq_some_iff.1 hj
      rcases Nat.lt_or_gt_of_ne e with hlt | hgt
      · exact hp k j hi1 hk1 hlt q (by rw [hi2]; exact e2) (by rw [hk2]; exact hq)
      · exact hp j k hk1 hi1 hgt q (by rw [hk2]; exact hq) (by rw [hi2]; exact e2)
  · have hp := h.pw
    rw [List.pairwise_iff_getElem] at hp ⊢
    intro a b' ha hb' hab q hq
    have ha' : a < l.length := by simpa using ha
    have hb'' : b' < l.length := by simpa using hb'
    rw [key a ha ha'] at hq
    rw [key b' hb' hb'']
    exact hp a b' ha' hb'' hab q hq
  · rcases hb with ⟨h1, h2, h3, h4, _⟩ | ⟨h1, h2, h3⟩
    · exact ho.widen h3 h4
    · subst h2; subst h3; exact ho.none
end
/-- append of one row to a row of rows -/
theorem OwnG.push {TR TE : TypeId} {wa X w2 : World} {lo k d : Nat} {v v2 : Value} {D : Option Addr} {l : List GRow} {m : Nat} {ys : List Value} (hne : TR ≠ TE) (h : OwnG TR TE wa lo wa.heap.size v k l)
    (ho : Own wa lo wa.heap.size TE 1 (.slice D m d) m ys) (hfr : ∀ x ∈ l, ∀ g, x.row.ownBlock = some g → (Value.slice D m d).ownBlock ≠ some g) (hX : Below wa.heap.size wa X) (ho2 : w2.ownsRow lo TR 1 v2 (k + 1) (gcs l ++ [.slice D m d])) (hg : X.grownBy w2 v.ownBlock) :
    OwnG TR TE w2 lo w2.heap.size v2 (k + 1) (l ++ [⟨D, m, d, ys⟩]) := by
  have hs2 := hX.size
  have hs3 := hg.size
  have hrX : Own X lo wa.heap.size TR 1 v k (gcs l) := h.row.below hX (Nat.le_refl _)
  have key : ∀ {lo hi n : Nat} {u : Value} {xs : List Value}, Own X lo hi TE 1 u n xs → Own w2 lo hi TE 1 u n xs := fun hu => hu.grownBy hg (fun g hgu e => own_types_ne hrX hu hne e.symm hgu)
  refine ⟨?_, ?_, ?_⟩
  · have h5 := Own.of_owns ho2 (Nat.le_refl w2.heap.size)
    simpa [gcs, GRow.row] using h5
  · intro y hy
    rcases List.mem_append.1 hy with h2 | h2
    · exact (key ((h.inn y h2).below hX (Nat.le_refl _))).widen (Nat.le_refl _) (by omega)
    · simp at h2; subst h2
      exact (key (ho.below hX (Nat.le_refl _))).widen (Nat.le_refl _) (by omega)
  · rw [List.pairwise_append]
    refine ⟨h.pw, by simp, ?_⟩
    intro a ha b hb2 q hq
    simp at hb2; subst hb2
    exact hfr a ha q hq
/-- append of one row to a row of rows of integers -/
theorem app_rows {ops : Array Oper} {rest : List Oper} {o : Oper} {a : Act} {Q : Exit → Act → World → Prop} {w : World} (hgd : o.guard = none) (s x : Operand)
    (ho : o.op = .call { callee := .builtin .append, args := #[s, x], argTypes := #[37, 37] })
    (lo : Nat) (v : Value) (n : Nat) (xs : List Value) (D : Option Addr) (m d : Nat) (g : Nat) (hs : a.eval s = v) (hown : w.ownsRow lo 27 1 v n xs)
    (hx : a.eval x = .slice (some ⟨g, 0, none⟩) 1 1) (hc : w.cell? ⟨g, 0, none⟩ = some (.slice D m d)) (hn : n ≤ 100000000000) (hlo : lo ≤ w.heap.size)
    (h : ∀ v' w', w'.ownsRow lo 27 1 v' (n + 1) (xs ++ [.slice D m d]) → w.grownBy w' v.ownBlock → wpList Tryd.prog ops Q rest (a.put o.dst v') w') : wpList Tryd.prog ops Q (o :: rest) a w := by
  have hinfo : (Tryd.prog.info? 27).map (fun i => (i.zero, i.size, i.bytes)) = some (some (.slice none 0 0), 1, 24) := by kernel_rfl
  obtain ⟨i, hi, hz, hs', hb⟩ := info_parts hinfo
  have hg : g < w.heap.size := World.block_lt_of_cell? w ⟨g, 0, none⟩ hc
  refine wpList_append_any w hgd s x _ ho lo _ i _ 1 24 Tryd.underlying37 hi hz hs' hb rfl (by omega) v n xs hs hown w.heap.size (some ⟨g, 0, none⟩) 1 1 [.slice D m d] hx
    ⟨rfl, fun _ => ⟨_, rfl, hg, fun j u hu => ?_⟩⟩ (by simp [Value.oneCell']) (by simp only [maxLen]; omega) (by omega) hlo ?_
  · match j with
    | 0 => simp at hu; subst hu; exact hc
    | j + 1 => simp at hu
  · intro v' w' h2 h3 _
    exact h v' w' h2 h3
def maxL : List Int → Int
  | [] => 0
  | z :: r => r.foldl max z
theorem maxL_snoc (l : List Int) (z : Int) (h : l ≠ []) : maxL (l ++ [z]) = max (maxL l) z := by
  cases l with
  | nil => exact absurd rfl h
  | cons a r => simp [maxL, List.foldl_append]
theorem maxL_ge (l : List Int) : ∀ z ∈ l, z ≤ maxL l := by
  suffices ∀ (r : List Int) (a : Int), a ≤ r.foldl max a ∧ ∀ z ∈ r, z ≤ r.foldl max a by
    cases l with
    | nil => simp
    | cons a r =>
      intro z hz
      rcases List.mem_cons.1 hz with rfl | h
      · exact (this r z).1
      · exact (this r a).2 z h
  intro r
  induction r with
  | nil => intro a; simp
  | cons b r ih =>
    intro a
    obtain ⟨h1, h2⟩ := ih (max a b)
    simp only [List.foldl_cons]
    refine ⟨by omega, fun z hz => ?_⟩
    rcases List.mem_cons.1 hz with rfl | h
    · omega
    · exact h2 z h
set_option maxHeartbeats 400000 in
theorem maxI_c (A : Option Addr) (n c BA : Nat) (zs : List Int) (w : World) (ha : Reads w BA 1 A n (ints zs)) (hn : n ≤ 1152921504606846976) (h0 : 0 < n) :
    Calls Tryd.prog 31 #[.slice A n c] w fun e w' => e = .returned (.int .i64 (maxL zs)) ∧ w = w' := by
  have HL := Lib.hid ha.len
  obtain ⟨ad, z0, rfl, _, hz0, hc0⟩ := ha.int h0
  have HZ0 := Lib.hid hz0; clear hz0
  have h1 : (1 : Int) ≤ (n : Int) := by omega
  have hc0' : w.cell? ad = some (.int .i64 z0) := by simpa [Addr.add] using hc0
  go_enter Tryd.func31, Tryd.ntmps31
  go_wp2
  go_loop [3, 4] (fun m i => ∃ (k : Nat), k ≤ n ∧ 1 ≤ k ∧ i = .int .i64 k ∧ m = .int .i64 (maxL (zs.take k))) (fun _ i => n - (intOf i).toNat)
  case atStart => exact ⟨1, by omega, by omega, rfl, by rw [take_snoc' HZ0.out]; rfl⟩
  case round =>
    obtain ⟨k, hk, hk1, rfl, rfl⟩ := hrel
    by_cases hlt : k < n
    · obtain ⟨ad', z, had, hbl, hzk, hck⟩ := ha.int hlt
      obtain rfl : ad = ad' := by injection had
      have HZK := Lib.hid hzk
      clear ha hzk had
      go_wp2
      go_round
      case rel =>
        refine ⟨k + 1, by omega, by omega, by go_num, ?_⟩
        rw [take_snoc' HZK.out, maxL_snoc _ _ (by intro h; have := congrArg List.length h; rw [List.length_take, List.length_nil] at this; have := HL.out; omega)]
        first | done | (congr 1; split <;> omega)
      case measure => simp [intOf]; omega
    · obtain rfl : k = n := by omega
      clear ha
      go_wp2
      go_ret
      exact ⟨ret_int (by rw [List.take_of_length_le (by have := HL.out; omega)]), rfl⟩
theorem indexValid_c (D : Option Addr) (m d : Nat) (z : Int) (w : World) (hm : m ≤ 1048576) : Calls Tryd.prog 29 #[.slice D m d, .int .i64 z] w fun e w' => e = .returned (.bool (inB z 0 ((m : Int) - 1))) ∧ w = w' := by
  go_enter Tryd.func29, Tryd.ntmps29
  go_wp2_with (go_at_call 17; refine (within_c _ _ _ _).mono ?_; rintro e w' ⟨rfl, rfl⟩)
  go_ret
  exact ⟨rfl, rfl⟩
set_option maxHeartbeats 2000000 in
set_option maxRecDepth 100000 in
theorem sclone_c (ad : Addr) (n c B : Nat) (l : List Int) (w : World) (ha : Reads w B 1 (some ad) n (ints l)) (hB : B ≤ w.heap.size) (hn : n ≤ 1048576) :
    Calls Tryd.prog 23 #[.slice (some ad) n c] w fun e w' => ∃ D d, e = .returned (.slice D n d) ∧ Own w' w.heap.size w'.heap.size 2 1 (.slice D n d) n (ints l) ∧ Below w.heap.size w w' := by
  have HA := Lib.hid ha
  clear ha
  have O1 : Hid ((w.alloc (.cells #[] 2)).ownsRow w.heap.size 2 1 (.slice (some ⟨w.heap.size, 0, none⟩) 0 0) 0 (ints [])) := Lib.hid (World.ownsRow_lit (w := w) (base := w.heap.size) (e := 2) (size := 1) #[] 0 (Nat.le_refl _) (by simp [maxLen]) (by simp))
  have hq : ∀ w : World, (Go.binOp .eql 27 (.slice (some ad) n c) (.slice none 0 0)).run Tryd.prog w = .ok (.bool false) w := fun w => by kernel_rfl
  go_enter Tryd.func23, Tryd.ntmps23
  go_wp2_with (at_builtin; refine app_i64s rfl (.tmp 5) (.tmp 6) rfl w.heap.size _ 0 [] l B (some ad) n c rfl O1.out rfl (HA.out.alloc hB _) (by omega) (by simp) ?_)
  intro v' w' O4 B4 hs4
  have B5 := Lib.hid ((((Below.refl w.heap.size w).alloc (Nat.le_refl _) _)).trans B4)
  obtain ⟨D, d, hv, _, _⟩ := (Own.of_owns O4 (Nat.le_refl _)).slice
  subst hv
  have O5 : Hid (Own w' w.heap.size w'.heap.size 2 1 (.slice D (0 + n) d) (0 + n) (ints l)) := Lib.hid (by have h := Own.of_owns O4 (Nat.le_refl _); simpa using h)
  clear O4 B4 hs4
  go_wp2
  go_ret
  refine ⟨D, d, by simp, ?_, B5.out⟩
  have h := O5.out
  rw [Nat.zero_add] at h
  exact h
set_option maxRecDepth 100000 in
theorem scloneI_c (A : Option Addr) (n c B : Nat) (l : List Int) (w : World) (ha : Reads w B 1 A n (ints l)) (hB : B ≤ w.heap.size) (hn : n ≤ 1048576) :
    Calls Tryd.prog 23 #[.slice A n c] w fun e w' => ∃ D d, e = .returned (.slice D n d) ∧ Own w' w.heap.size w'.heap.size 2 1 (.slice D n d) n (ints l) ∧ Below w.heap.size w w' := by
  rcases A with _ | ad
  · have h0 : n = 0 := by
      rcases Nat.eq_zero_or_pos n with h0 | h0
      · exact h0
      · obtain ⟨ad, e, _⟩ := ha.2 h0; cases e
    subst h0
    have hl : l = [] := List.eq_nil_of_length_eq_zero ha.len
    subst hl
    have hq : ∀ w : World, (Go.binOp .eql 27 (.slice none 0 c) (.slice none 0 0)).run Tryd.prog w = .ok (.bool true) w := fun w => by kernel_rfl
    clear ha
    go_enter Tryd.func23, Tryd.ntmps23
    go_wp2
    go_ret
    exact ⟨none, 0, rfl, Own.nil, Below.refl _ _⟩
  · exact sclone_c ad n c B l w ha hB hn
theorem b10Long_c (A : Option Addr) (n c : Nat) (w : World) : Calls Tryd.prog 4 #[.slice A n c] w fun e w' => e = .returned (.bool (decide (1048576 < n))) ∧ w = w' := by
  by_cases h : 1048576 < n
  · have h1 : (1048576 : Int) < (n : Int) := by omega
    go_enter Tryd.func4, Tryd.ntmps4
    go_wp2
    go_ret
    exact ⟨ret_bool (by first | rfl | (rw [decide_eq_true h])), rfl⟩
  · have h1 : ¬ (1048576 : Int) < (n : Int) := by omega
    go_enter Tryd.func4, Tryd.ntmps4
    go_wp2
    go_ret
    exact ⟨ret_bool (by first | rfl | (rw [decide_eq_false h])), rfl⟩
set_option maxHeartbeats 1000000 in
theorem b10Nums_same (A D : Option Addr) (n m c d BA BD : Nat) (l : List Int) (w : World) (ha : Reads w BA 1 A n (ints l)) (hd : Reads w BD 1 D m (ints l)) (hn : n ≤ 1152921504606846976) :
    Calls Tryd.prog 11 #[.slice A n c, .slice D m d] w fun e w' => e = .returned (.bool true) ∧ Below w.heap.size w w' := by
  obtain rfl : n = m := by rw [← ha.len, hd.len]
  go_enter Tryd.func11, Tryd.ntmps11
  go_wp2
  go_loopw [5] (fun i wr => ∃ k q : Nat, k ≤ n ∧ i = .int .i64 k ∧ wr = w.drewN q) (fun i _ => n - (intOf i).toNat)
  case atStart => exact ⟨0, 0, Nat.zero_le _, rfl, rfl⟩
  case round =>
    obtain ⟨k, q, hk, rfl, rfl⟩ := hrel
    by_cases hlt : k < n
    · obtain ⟨ad, z, rfl, _, hz, hc⟩ := ha.int hlt
      obtain ⟨ad2, z2, rfl, _, hz2, hc2⟩ := hd.int hlt
      obtain rfl : z = z2 := by rw [hz] at hz2; injection hz2
      have hkn : (k : Int) < (n : Int) := by omega
      clear ha hd hz hz2
      go_wp2
      go_quiet (fail)
      go_wp2
      go_roundw
      case rel => exact ⟨k + 1, _, by omega, by go_num, rfl⟩
      case measure => simp [intOf]; omega
    · clear ha hd
      go_wp2
      go_ret
      exact ⟨rfl, below_drewN (Below.refl _ _) _⟩
end Go.Proofs.YtjmnhmghpikknaaDoor
