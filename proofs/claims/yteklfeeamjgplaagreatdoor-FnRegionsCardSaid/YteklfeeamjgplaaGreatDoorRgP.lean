/- Regions by their data alone: valid regions, neighbours, the queues of joined regions (plain facts). -/
import Derived.Test.YteklfeeamjgplaaGreatDoorRgK
namespace Go.Proofs.YteklfeeamjgplaaGreatDoor
open Go.ChangeShapes Go.WideShapes Go.ChangeAt Go.RowKit
set_option linter.unusedVariables false

def unD (d : Dat) : Rg := ⟨d.1, d.2.1, none, 0, 0, d.2.2⟩
def nrm (x : Rg) : Rg := unD x.dat
theorem nrm_map (rs : List Rg) : (rs.map Rg.dat).map unD = rs.map nrm := by simp [nrm, Function.comp_def]
theorem idxFrom_map {α β : Type} (p : β → Bool) (f : α → β) : ∀ (l : List α) (k : Nat), idxFrom p k (l.map f) = idxFrom (fun x => p (f x)) k l
  | [], k => rfl
  | z :: l, k => by
    simp only [List.map_cons, idxFrom]
    rw [idxFrom_map p f l (k + 1)]
theorem findR_nrm (rs : List Rg) (s : ByteArray) : findR (rs.map nrm) s = findR rs s := by
  unfold findR idxOf
  rw [idxFrom_map]; rfl
theorem idAt_nrm (rs : List Rg) (i : Nat) : idAt (rs.map nrm) i = idAt rs i := by
  unfold idAt
  rw [List.getElem?_map]
  cases rs[i]? <;> rfl
theorem isNearR_nrm (rs : List Rg) (a b : ByteArray) : isNearR (rs.map nrm) a b = isNearR rs a b := by
  unfold isNearR
  rw [findR_nrm, List.getElem?_map]
  cases rs[(findR rs a).toNat]? <;> rfl
theorem okIn_nrm (rs : List Rg) (x : Rg) (k : Nat) : okIn (rs.map nrm) (nrm x) k = okIn rs x k := by
  unfold okIn
  rw [isNearR_nrm]; rfl
theorem okNear_nrm (rs : List Rg) (x : Rg) (m : Nat) : okNear (rs.map nrm) (nrm x) m = okNear rs x m := by
  induction m with
  | zero => rfl
  | succ m ih => rw [okNear_succ, okNear_succ, ih, okIn_nrm]
theorem okAt_nrm (rs : List Rg) (i : Nat) : okAt (rs.map nrm) i = okAt rs i := by
  cases h : rs[i]? with
  | none => simp only [okAt, List.getElem?_map, h, Option.map_none]
  | some x =>
    have h2 : (rs.map nrm)[i]? = some (nrm x) := by rw [List.getElem?_map, h]; rfl
    rw [okAt_some h, okAt_some h2, okNear_nrm, idAt_nrm]; rfl
theorem okTo_nrm (rs : List Rg) (k : Nat) : okTo (rs.map nrm) k = okTo rs k := by
  induction k with
  | zero => rfl
  | succ k ih => rw [okTo_succ, okTo_succ, ih, okAt_nrm]
def validD (ds : List Dat) : Bool := validR (ds.map unD)
theorem validR_dat (rs : List Rg) : validR rs = validD (rs.map Rg.dat) := by
  unfold validD
  rw [nrm_map, validR, validR, okTo_nrm, List.length_map]

def dId (ds : List Dat) (k : Nat) : ByteArray := ((ds[k]?).map (·.1)).getD ⟨#[]⟩
def dLv (ds : List Dat) (k : Nat) : Int := ((ds[k]?).map (·.2.1)).getD 0
def dNr (ds : List Dat) (k : Nat) : List ByteArray := ((ds[k]?).map (·.2.2)).getD []
theorem dat_get {rs : List Rg} {k : Nat} {x : Rg} (h : rs[k]? = some x) : (rs.map Rg.dat)[k]? = some x.dat := by rw [List.getElem?_map, h]; rfl
theorem dId_get {rs : List Rg} {k : Nat} {x : Rg} (h : rs[k]? = some x) : dId (rs.map Rg.dat) k = x.id := by rw [dId, dat_get h]; rfl
theorem dLv_get {rs : List Rg} {k : Nat} {x : Rg} (h : rs[k]? = some x) : dLv (rs.map Rg.dat) k = x.lv := by rw [dLv, dat_get h]; rfl
theorem dNr_get {rs : List Rg} {k : Nat} {x : Rg} (h : rs[k]? = some x) : dNr (rs.map Rg.dat) k = x.near := by rw [dNr, dat_get h]; rfl
theorem dId_idAt (rs : List Rg) (k : Nat) : dId (rs.map Rg.dat) k = idAt rs k := by
  unfold dId idAt
  rw [List.getElem?_map]
  cases rs[k]? <;> rfl

theorem asc_ext : ∀ {l m : List Nat}, l.Pairwise (· < ·) → m.Pairwise (· < ·) → (∀ x, x ∈ l ↔ x ∈ m) → l = m
  | [], [], _, _, _ => rfl
  | [], b :: m, _, _, h => by have := (h b).2 (List.mem_cons_self ..); simp at this
  | a :: l, [], _, _, h => by have := (h a).1 (List.mem_cons_self ..); simp at this
  | a :: l, b :: m, hl, hm, h => by
    rw [List.pairwise_cons] at hl hm
    have hab : a = b := by
      rcases List.mem_cons.1 ((h a).1 (List.mem_cons_self ..)) with e | e
      · exact e
      · rcases List.mem_cons.1 ((h b).2 (List.mem_cons_self ..)) with e2 | e2
        · exact e2.symm
        · have h1 := hm.1 a e
          have h2 := hl.1 b e2
          omega
    subst hab
    rw [asc_ext hl.2 hm.2 (fun x => ?_)]
    constructor
    · intro hx
      rcases List.mem_cons.1 ((h x).1 (List.mem_cons_of_mem _ hx)) with e | e
      · have := hl.1 x hx; omega
      · exact e
    · intro hx
      rcases List.mem_cons.1 ((h x).2 (List.mem_cons_of_mem _ hx)) with e | e
      · have := hm.1 x hx; omega
      · exact e
theorem valid_len {rs : List Rg} (h : validR rs = true) : rs.length ≤ 8 ∧ okTo rs rs.length = true := by
  simpa [validR] using h
theorem okTo_less {rs : List Rg} {k m : Nat} (h : okTo rs k = true) (hm : m ≤ k) : okTo rs m = true :=
  List.all_eq_true.2 fun j hj => okTo_at h (by have := List.mem_range.1 hj; omega)
theorem valid_lt {rs : List Rg} (h : validR rs = true) {i j : Nat} (hij : i < j) (hj : j < rs.length) : ltS (idAt rs i) (idAt rs j) = true := by
  have ho := (valid_len h).2
  have hs : rs[j]? = some rs[j] := List.getElem?_eq_getElem hj
  have h1 := okTo_at ho hj
  rw [okAt_some hs] at h1
  simp only [Bool.and_eq_true, Bool.or_eq_true, decide_eq_true_eq] at h1
  refine ids_rise hj (okTo_less ho (by omega)) ?_ (j - i - 1) i (by omega)
  rw [idAt_get hs]
  exact h1.1.2
theorem valid_in {rs : List Rg} (h : validR rs = true) {i k : Nat} {x : Rg} (hx : rs[i]? = some x) (hk : k < x.near.length) : okIn rs x k = true := by
  have hi := (List.getElem?_eq_some_iff.1 hx).1
  have h1 := okTo_at (valid_len h).2 hi
  rw [okAt_some hx] at h1
  simp only [Bool.and_eq_true] at h1
  exact List.all_eq_true.1 h1.2 k (List.mem_range.2 hk)
theorem valid_lv {rs : List Rg} (h : validR rs = true) {i : Nat} {x : Rg} (hx : rs[i]? = some x) : 1 ≤ x.lv ∧ x.lv ≤ 5 := by
  have hi := (List.getElem?_eq_some_iff.1 hx).1
  have h1 := okTo_at (valid_len h).2 hi
  rw [okAt_some hx] at h1
  simp only [Bool.and_eq_true] at h1
  simpa [inB] using h1.1.1.2
theorem eqS_iff {a b : ByteArray} : eqS a b = true ↔ a.toList = b.toList := by simp [eqS]
/-- a name that lies near a region is found, at a region of that name -/
theorem near_found {rs : List Rg} (h : validR rs = true) {i k : Nat} {x : Rg} (hx : rs[i]? = some x) {s : ByteArray} (hk : x.near[k]? = some s) :
    ∃ a : Nat, findR rs s = (a : Int) ∧ a < rs.length ∧ (idAt rs a).toList = s.toList := by
  have hkl := (List.getElem?_eq_some_iff.1 hk).1
  have h1 := valid_in h hx hkl
  unfold okIn at h1
  rw [sAt_get hk] at h1
  simp only [Bool.and_eq_true] at h1
  have h2 := h1.2
  unfold isNearR at h2
  have hnn : 0 ≤ findR rs s := by
    rcases Int.lt_or_le (findR rs s) 0 with h0 | h0
    · rw [if_pos h0] at h2; cases h2
    · exact h0
  obtain ⟨y, hy, hp, _⟩ := idxOf_spec (findP s) rs hnn
  have hb := findR_bd rs s
  refine ⟨(findR rs s).toNat, by omega, by omega, ?_⟩
  have e : rs[(findR rs s).toNat]? = some y := hy
  rw [idAt_get e]
  exact eqS_iff.1 hp
theorem ltS_irr (a : ByteArray) : ltS a a = false := bl_irrefl _
theorem ltS_tr {a b c : ByteArray} (h1 : ltS a b = true) (h2 : ltS b c = true) : ltS a c = true := bl_trans h1 h2
theorem ltS_congr {a b a' b' : ByteArray} (h1 : a.toList = a'.toList) (h2 : b.toList = b'.toList) : ltS a b = ltS a' b' := by unfold ltS; rw [h1, h2]
/-- names rise where indexes do -/
theorem valid_lt_iff {rs : List Rg} (h : validR rs = true) {i j : Nat} (hi : i < rs.length) (hj : j < rs.length) : ltS (idAt rs i) (idAt rs j) = true ↔ i < j := by
  constructor
  · intro hlt
    rcases Nat.lt_trichotomy i j with h1 | h1 | h1
    · exact h1
    · subst h1; rw [ltS_irr] at hlt; cases hlt
    · have := ltS_tr hlt (valid_lt h h1 hi)
      rw [ltS_irr] at this; cases this
  · intro hlt; exact valid_lt h hlt hj
theorem valid_inj {rs : List Rg} (h : validR rs = true) {i j : Nat} (hi : i < rs.length) (hj : j < rs.length) (he : (idAt rs i).toList = (idAt rs j).toList) : i = j := by
  rcases Nat.lt_trichotomy i j with h1 | h1 | h1
  · have := valid_lt h h1 hj
    rw [ltS_congr he rfl, ltS_irr] at this; cases this
  · exact h1
  · have := valid_lt h h1 hi
    rw [ltS_congr rfl he, ltS_irr] at this; cases this
def isNb (ds : List Dat) (x k : Nat) : Bool := nearV (dNr ds x) (dId ds k)
def nbs (ds : List Dat) (x m : Nat) : List Nat := (List.range m).filter (isNb ds x)
theorem nbs_succ (ds : List Dat) (x m : Nat) : nbs ds x (m + 1) = if isNb ds x m then nbs ds x m ++ [m] else nbs ds x m := by
  unfold nbs
  rw [List.range_succ, List.filter_append]
  by_cases h : isNb ds x m = true <;> simp [h]
def fnd (rs : List Rg) (l : List ByteArray) : List Nat := l.map fun s => (findR rs s).toNat
/-- the regions near one, by its names, are those that lie near it, by their indexes -/
theorem fnd_nbs {rs : List Rg} (h : validR rs = true) {i : Nat} {x : Rg} (hx : rs[i]? = some x) : fnd rs x.near = nbs (rs.map Rg.dat) i rs.length := by
  refine asc_ext ?_ ?_ ?_
  · unfold fnd
    rw [List.pairwise_map, List.pairwise_iff_getElem]
    intro a b ha hb hab
    obtain ⟨p, e1, l1, n1⟩ := near_found h hx (List.getElem?_eq_getElem ha)
    obtain ⟨q, e2, l2, n2⟩ := near_found h hx (List.getElem?_eq_getElem hb)
    rw [e1, e2, Int.toNat_natCast, Int.toNat_natCast]
    rw [← valid_lt_iff h l1 l2, ltS_congr n1 n2]
    have step : ∀ d a (ha : a < x.near.length) (hb : a + d + 1 < x.near.length), ltS x.near[a] x.near[a + d + 1] = true := by
      intro d
      induction d with
      | zero =>
        intro a ha hb
        have h1 := valid_in h hx hb
        unfold okIn at h1
        simp only [Bool.and_eq_true, Bool.or_eq_true, decide_eq_true_eq] at h1
        have h2 := h1.1.1
        rcases h2 with h2 | h2
        · omega
        · rw [show a + 0 + 1 - 1 = a from by omega, sAt_get (List.getElem?_eq_getElem ha), sAt_get (List.getElem?_eq_getElem hb)] at h2
          exact h2
      | succ d ih =>
        intro a ha hb
        have h1 := ih a ha (by omega)
        have h3 := valid_in h hx hb
        unfold okIn at h3
        simp only [Bool.and_eq_true, Bool.or_eq_true, decide_eq_true_eq] at h3
        have h4 := h3.1.1
        rcases h4 with h4 | h4
        · omega
        · rw [show a + (d + 1) + 1 - 1 = a + d + 1 from by omega, sAt_get (List.getElem?_eq_getElem (show a + d + 1 < x.near.length by omega)), sAt_get (List.getElem?_eq_getElem hb)] at h4
          exact ltS_tr h1 h4
    have := step (b - a - 1) a ha (by omega)
    simpa only [show a + (b - a - 1) + 1 = b from by omega] using this
  · unfold nbs
    exact List.Pairwise.filter _ List.pairwise_lt_range
  · intro k
    unfold fnd nbs
    rw [List.mem_map, List.mem_filter, List.mem_range]
    constructor
    · rintro ⟨s, hs, rfl⟩
      obtain ⟨j, hj⟩ := List.getElem?_of_mem hs
      obtain ⟨p, e1, l1, n1⟩ := near_found h hx hj
      rw [e1, Int.toNat_natCast]
      refine ⟨l1, ?_⟩
      unfold isNb
      rw [dNr_get hx, dId_idAt]
      exact List.any_eq_true.2 ⟨s, hs, eqS_iff.2 n1.symm⟩
    · rintro ⟨hk, hn⟩
      unfold isNb at hn
      rw [dNr_get hx, dId_idAt] at hn
      obtain ⟨s, hs, he⟩ := List.any_eq_true.1 hn
      obtain ⟨j, hj⟩ := List.getElem?_of_mem hs
      obtain ⟨p, e1, l1, n1⟩ := near_found h hx hj
      refine ⟨s, hs, ?_⟩
      rw [e1, Int.toNat_natCast]
      exact valid_inj h l1 hk (n1.trans (eqS_iff.1 he))

/-! ### the queue -/
def bStep (ds : List Dat) (x : Nat) (s : List Bool × List Nat) (k : Nat) : List Bool × List Nat :=
  if s.1[k]? = some false ∧ dLv ds k = dLv ds x then (s.1.set k true, s.2 ++ [k]) else s
def bRound (ds : List Dat) (x : Nat) (s : List Bool × List Nat) : List Bool × List Nat := (nbs ds x ds.length).foldl (bStep ds x) s
def bfs (ds : List Dat) : Nat → Nat → List Bool × List Nat → List Bool × List Nat
  | 0, _, s => s
  | f + 1, at_, s => match s.2[at_]? with
    | none => s
    | some x => bfs ds f (at_ + 1) (bRound ds x s)
theorem bfs_end {ds : List Dat} {f at_ : Nat} {s : List Bool × List Nat} (h : s.2.length ≤ at_) : bfs ds f at_ s = s := by
  cases f with
  | zero => rfl
  | succ f => rw [bfs, List.getElem?_eq_none h]
theorem bfs_some {ds : List Dat} {f at_ x : Nat} {s : List Bool × List Nat} (h : s.2[at_]? = some x) : bfs ds (f + 1) at_ s = bfs ds f (at_ + 1) (bRound ds x s) := by rw [bfs, h]
structure QInv (ds : List Dat) (i : Nat) (seen0 : List Bool) (s : List Bool × List Nat) : Prop where
  len : s.1.length = ds.length
  nodup : s.2.Nodup
  lt : ∀ k ∈ s.2, k < ds.length
  lv : ∀ k ∈ s.2, dLv ds k = dLv ds i
  old : ∀ k : Nat, s.1[k]? = some true ↔ seen0[k]? = some true ∨ k ∈ s.2
  new : ∀ k ∈ s.2, seen0[k]? ≠ some true
theorem set_some {l : List Bool} {k j : Nat} (hk : k < l.length) : (l.set k true)[j]? = some true ↔ l[j]? = some true ∨ j = k := by
  rw [List.getElem?_set]
  by_cases e : k = j
  · subst e; simp [hk]
  · rw [if_neg e]
    constructor
    · exact .inl
    · rintro (h | h)
      · exact h
      · exact absurd h.symm e
theorem QInv.start {ds : List Dat} {i : Nat} {seen : List Bool} (hl : seen.length = ds.length) (hi : seen[i]? = some false) : QInv ds i seen (seen.set i true, [i]) := by
  have h1 := (List.getElem?_eq_some_iff.1 hi).1
  refine ⟨by simp [hl], by simp, ?_, ?_, ?_, ?_⟩
  · intro k hk; simp at hk; omega
  · intro k hk; simp at hk; rw [hk]
  · intro k; rw [set_some h1]; simp
  · intro k hk; simp at hk; rw [hk, hi]; simp
theorem QInv.step {ds : List Dat} {i x : Nat} {seen0 : List Bool} {s : List Bool × List Nat} (h : QInv ds i seen0 s) (hx : dLv ds x = dLv ds i) (k : Nat) : QInv ds i seen0 (bStep ds x s k) := by
  unfold bStep
  split
  · rename_i hc
    have hk := (List.getElem?_eq_some_iff.1 hc.1).1
    have hnm : k ∉ s.2 := fun hm => by
      have := (h.old k).2 (.inr hm)
      rw [hc.1] at this; cases this
    refine ⟨by simp [h.len], ?_, ?_, ?_, ?_, ?_⟩
    · rw [List.nodup_append]
      refine ⟨h.nodup, by simp, ?_⟩
      intro a ha b hb
      simp at hb
      subst hb
      intro e; subst e; exact hnm ha
    · intro j hj
      rcases List.mem_append.1 hj with h1 | h1
      · exact h.lt j h1
      · simp at h1; rw [h1, ← h.len]; exact hk
    · intro j hj
      rcases List.mem_append.1 hj with h1 | h1
      · exact h.lv j h1
      · simp at h1; rw [h1, hc.2, hx]
    · intro j
      rw [set_some hk, h.old j, List.mem_append]
      simp only [List.mem_singleton]
      constructor
      · rintro ((h1 | h1) | h1)
        · exact .inl h1
        · exact .inr (.inl h1)
        · exact .inr (.inr h1)
      · rintro (h1 | h1 | h1)
        · exact .inl (.inl h1)
        · exact .inl (.inr h1)
        · exact .inr h1
    · intro j hj
      rcases List.mem_append.1 hj with h1 | h1
      · exact h.new j h1
      · simp at h1
        intro he
        have := (h.old j).2 (.inl he)
        rw [h1, hc.1] at this; cases this
  · exact h
theorem QInv.fold {ds : List Dat} {i x : Nat} {seen0 : List Bool} (hx : dLv ds x = dLv ds i) : ∀ (l : List Nat) {s : List Bool × List Nat}, QInv ds i seen0 s → QInv ds i seen0 (l.foldl (bStep ds x) s)
  | [], _, h => h
  | k :: l, _, h => QInv.fold hx l (h.step hx k)
theorem nodup_le : ∀ (n : Nat) (l : List Nat), l.Nodup → (∀ x ∈ l, x < n) → l.length ≤ n
  | 0, l, _, h => by
    cases l with
    | nil => simp
    | cons a l => have := h a (List.mem_cons_self ..); omega
  | n + 1, l, hn, h => by
    have h1 := nodup_le n (l.erase n) (hn.erase n) (fun x hx => by
      have h2 := (List.Nodup.mem_erase_iff hn).1 hx
      have h3 := h x h2.2
      omega)
    have h2 := List.length_erase (a := n) (l := l)
    split at h2 <;> omega
theorem QInv.le {ds : List Dat} {i : Nat} {seen0 : List Bool} {s : List Bool × List Nat} (h : QInv ds i seen0 s) : s.2.length ≤ ds.length := nodup_le _ _ h.nodup h.lt
theorem bStep_len (ds : List Dat) (x : Nat) (s : List Bool × List Nat) (k : Nat) : s.2.length ≤ (bStep ds x s k).2.length := by
  unfold bStep; split <;> simp
theorem fold_len (ds : List Dat) (x : Nat) : ∀ (l : List Nat) (s : List Bool × List Nat), s.2.length ≤ (l.foldl (bStep ds x) s).2.length
  | [], s => Nat.le_refl _
  | k :: l, s => Nat.le_trans (bStep_len ds x s k) (fold_len ds x l _)
theorem bStep_mem {ds : List Dat} {x y : Nat} {s : List Bool × List Nat} (k : Nat) (h : y ∈ s.2) : y ∈ (bStep ds x s k).2 := by
  unfold bStep; split <;> simp [h]
theorem fold_mem {ds : List Dat} {x y : Nat} : ∀ (l : List Nat) {s : List Bool × List Nat}, y ∈ s.2 → y ∈ (l.foldl (bStep ds x) s).2
  | [], _, h => h
  | k :: l, _, h => fold_mem l (bStep_mem k h)
theorem bfs_mem {ds : List Dat} {y : Nat} : ∀ (f a : Nat) (s : List Bool × List Nat), y ∈ s.2 → y ∈ (bfs ds f a s).2
  | 0, _, _, h => h
  | f + 1, a, s, h => by
    rw [bfs]
    split
    · exact h
    · exact bfs_mem f _ _ (fold_mem _ h)
theorem bfs_inv {ds : List Dat} {i : Nat} {seen0 : List Bool} : ∀ (f at_ : Nat) {s : List Bool × List Nat}, QInv ds i seen0 s → QInv ds i seen0 (bfs ds f at_ s)
  | 0, _, _, h => h
  | f + 1, at_, s, h => by
    rw [bfs]
    split
    · exact h
    · rename_i x hx
      exact bfs_inv f (at_ + 1) (QInv.fold (h.lv x (List.mem_of_getElem? hx)) _ h)
def jStep (ds : List Dat) (st : List Bool × List (List Nat)) (i : Nat) : List Bool × List (List Nat) :=
  if st.1[i]? = some false then ((bfs ds ds.length 0 (st.1.set i true, [i])).1, st.2 ++ [(bfs ds ds.length 0 (st.1.set i true, [i])).2]) else st
def jAll (ds : List Dat) (k : Nat) : List Bool × List (List Nat) := (List.range k).foldl (jStep ds) (List.replicate ds.length false, [])
theorem jAll_succ (ds : List Dat) (k : Nat) : jAll ds (k + 1) = jStep ds (jAll ds k) k := by simp [jAll, List.range_succ, List.foldl_append]
/-- what holds of the sets found so far -/
structure JInv (ds : List Dat) (k : Nat) (st : List Bool × List (List Nat)) : Prop where
  len : st.1.length = ds.length
  many : st.2.length ≤ k
  nodup : ∀ g ∈ st.2, g.Nodup ∧ g.length ≤ ds.length ∧ 0 < g.length
  lt : ∀ g ∈ st.2, ∀ x ∈ g, x < ds.length
  seen : ∀ x : Nat, st.1[x]? = some true ↔ ∃ g ∈ st.2, x ∈ g
  apart : st.2.Pairwise fun g h => ∀ x ∈ g, x ∉ h
  done : ∀ x, x < k → x < ds.length → st.1[x]? = some true
theorem JInv.start (ds : List Dat) : JInv ds 0 (jAll ds 0) := by
  refine ⟨by simp [jAll], by simp [jAll], ?_, ?_, ?_, ?_, ?_⟩
  · intro g hg; simp [jAll] at hg
  · intro g hg; simp [jAll] at hg
  · intro x
    simp only [jAll, List.range_zero, List.foldl_nil, List.not_mem_nil, false_and, exists_false, iff_false]
    intro h
    have := List.mem_of_getElem? h
    rw [List.mem_replicate] at this
    exact absurd this.2 (by simp)
  · simp [jAll]
  · intro x hx; omega
theorem JInv.step {ds : List Dat} {k : Nat} {st : List Bool × List (List Nat)} (h : JInv ds k st) (hk : k < ds.length) : JInv ds (k + 1) (jStep ds st k) := by
  unfold jStep
  by_cases hc : st.1[k]? = some false
  · rw [if_pos hc]
    have hq := bfs_inv (ds := ds) ds.length 0 (QInv.start h.len hc)
    obtain ⟨s, hs⟩ : ∃ s, s = bfs ds ds.length 0 (st.1.set k true, [k]) := ⟨_, rfl⟩
    have hm : k ∈ s.2 := by rw [hs]; exact bfs_mem _ _ _ (by simp)
    rw [← hs] at hq ⊢
    refine ⟨hq.len, by simp; exact h.many, ?_, ?_, ?_, ?_, ?_⟩
    · intro g hg
      rcases List.mem_append.1 hg with h1 | h1
      · exact h.nodup g h1
      · simp at h1; subst h1
        exact ⟨hq.nodup, hq.le, List.length_pos_of_mem hm⟩
    · intro g hg
      rcases List.mem_append.1 hg with h1 | h1
      · exact h.lt g h1
      · simp at h1; subst h1
        exact hq.lt
    · intro x
      rw [hq.old x, h.seen x]
      constructor
      · rintro (⟨g, h1, h2⟩ | h1)
        · exact ⟨g, List.mem_append_left _ h1, h2⟩
        · exact ⟨s.2, by simp, h1⟩
      · rintro ⟨g, h1, h2⟩
        rcases List.mem_append.1 h1 with h3 | h3
        · exact .inl ⟨g, h3, h2⟩
        · simp at h3; subst h3; exact .inr h2
    · rw [List.pairwise_append]
      refine ⟨h.apart, by simp, ?_⟩
      intro a ha b hb x hx hxb
      simp at hb; subst hb
      exact hq.new x hxb ((h.seen x).2 ⟨a, ha, hx⟩)
    · intro x hx hxl
      rw [hq.old x]
      by_cases e : x = k
      · subst e; exact .inr hm
      · exact .inl (h.done x (by omega) hxl)
  · rw [if_neg hc]
    refine ⟨h.len, by have := h.many; omega, h.nodup, h.lt, h.seen, h.apart, ?_⟩
    intro x hx hxl
    by_cases e : x = k
    · subst e
      have h1 : st.1[x]? = some (st.1[x]'(by rw [h.len]; exact hk)) := List.getElem?_eq_getElem _
      rw [h1] at hc ⊢
      cases hb : st.1[x]'(by rw [h.len]; exact hk)
      · rw [hb] at hc; exact absurd rfl hc
      · rfl
    · exact h.done x (by omega) hxl
theorem jAll_inv (ds : List Dat) : ∀ k, k ≤ ds.length → JInv ds k (jAll ds k)
  | 0, _ => JInv.start ds
  | k + 1, h => by rw [jAll_succ]; exact (jAll_inv ds k (by omega)).step (by omega)
end Go.Proofs.YteklfeeamjgplaaGreatDoor
