/- FnRegions (plain): joined sets are closed; names of a set; texts of regions are read back; levels spread once are spread. -/
import Derived.Test.YteklfeeamjgplaaGreatDoorJnG
import Derived.Test.YteklfeeamjgplaaGreatDoorRgW
import Derived.Test.YteklfeeamjgplaaGreatDoorRtJ
namespace Go.Proofs.YteklfeeamjgplaaGreatDoor
open Go.ChangeShapes Go.WideShapes Go.ChangeAt Go.RowKit
set_option linter.unusedVariables false
/-! ### joined sets are closed -/
theorem bStep_keep {ds : List Dat} {x y : Nat} {s : List Bool × List Nat} (k : Nat) (h : s.1[y]? = some true) : (bStep ds x s k).1[y]? = some true := by
  unfold bStep
  split
  · rename_i hc
    have hk := (List.getElem?_eq_some_iff.1 hc.1).1
    exact (set_some hk).2 (.inl h)
  · exact h
theorem bFold_seen {ds : List Dat} {x y : Nat} : ∀ (l : List Nat) {s : List Bool × List Nat}, s.1[y]? = some true → (l.foldl (bStep ds x) s).1[y]? = some true
  | [], _, h => h
  | k :: l, _, h => bFold_seen l (bStep_keep k h)
theorem bStep_size {ds : List Dat} {x : Nat} (s : List Bool × List Nat) (k : Nat) : (bStep ds x s k).1.length = s.1.length := by
  unfold bStep; split <;> simp
theorem bFold_all {ds : List Dat} {x y : Nat} : ∀ (l : List Nat) (s : List Bool × List Nat), y ∈ l → y < s.1.length → dLv ds y = dLv ds x → (l.foldl (bStep ds x) s).1[y]? = some true
  | [], _, h, _, _ => by cases h
  | k :: l, s, h, hl, hv => by
    rw [List.foldl_cons]
    rcases List.mem_cons.1 h with rfl | h
    · apply bFold_seen
      have hg : s.1[y]? = some (s.1[y]) := List.getElem?_eq_getElem hl
      cases hb : s.1[y]
      · rw [hb] at hg
        unfold bStep
        rw [if_pos ⟨hg, hv⟩]
        exact (set_some hl).2 (.inr rfl)
      · rw [hb] at hg
        exact bStep_keep y hg
    · exact bFold_all l _ h (by rw [bStep_size]; exact hl) hv
def DoneTo (ds : List Dat) (m : Nat) (s : List Bool × List Nat) : Prop := ∀ (j x : Nat), j < m → s.2[j]? = some x → ∀ y, y < ds.length → isNb ds x y = true → dLv ds y = dLv ds x → s.1[y]? = some true
theorem bfs_done {ds : List Dat} {i : Nat} {seen0 : List Bool} : ∀ (f a : Nat) (s : List Bool × List Nat), QInv ds i seen0 s → DoneTo ds a s → a + f = ds.length → DoneTo ds ds.length (bfs ds f a s)
  | 0, a, s, hq, hd, he => by
    rw [show a = ds.length by omega] at hd; exact hd
  | f + 1, a, s, hq, hd, he => by
    rw [bfs]
    cases hx : s.2[a]? with
    | none =>
      simp only
      intro j x hj hjx
      have h1 := (List.getElem?_eq_some_iff.1 hjx).1
      have h2 := List.getElem?_eq_none_iff.1 hx
      exact hd j x (by omega) hjx
    | some x =>
      simp only
      have hxl := (List.getElem?_eq_some_iff.1 hx).1
      refine bfs_done f (a + 1) _ (QInv.fold (hq.lv x (List.mem_of_getElem? hx)) _ hq) ?_ (by omega)
      intro j z hj hjz y hy hn hl
      have htk := fold_take ds x (m := s.2.length) (nbs ds x ds.length) s (Nat.le_refl _)
      have hz : s.2[j]? = some z := by
        have h1 := congrArg (fun l => l[j]?) htk
        simp only [List.getElem?_take] at h1
        rw [if_pos (by omega), if_pos (by omega)] at h1
        rw [← h1]; exact hjz
      by_cases hja : j = a
      · subst hja
        obtain rfl : x = z := by rw [hx] at hz; exact Option.some.inj hz
        refine bFold_all _ s ?_ (by rw [hq.len]; exact hy) hl
        unfold nbs
        exact List.mem_filter.2 ⟨List.mem_range.2 hy, hn⟩
      · exact bFold_seen _ (hd j z (by omega) hz y hy hn hl)
def Closed (ds : List Dat) (gs : List (List Nat)) : Prop := ∀ g ∈ gs, ∀ x ∈ g, ∀ y, y < ds.length → isNb ds x y = true → dLv ds y = dLv ds x → y ∈ g
def Level1 (ds : List Dat) (gs : List (List Nat)) : Prop := ∀ g ∈ gs, ∀ x ∈ g, ∀ y ∈ g, dLv ds x = dLv ds y
theorem jAll_closed {ds : List Dat} (hsym : ∀ x y, x < ds.length → y < ds.length → isNb ds x y = true → isNb ds y x = true) : ∀ k, k ≤ ds.length → Closed ds (jAll ds k).2 ∧ Level1 ds (jAll ds k).2
  | 0, _ => ⟨fun g hg => by simp [jAll] at hg, fun g hg => by simp [jAll] at hg⟩
  | k + 1, hk => by
    obtain ⟨h1, h2⟩ := jAll_closed hsym k (by omega)
    have hI := jAll_inv ds k (by omega)
    rw [jAll_succ]
    generalize jAll ds k = st at *
    unfold jStep
    by_cases hc : st.1[k]? = some false
    · rw [if_pos hc]
      have hq0 := QInv.start hI.len hc
      have hq := bfs_inv (ds := ds) ds.length 0 hq0
      have hd := bfs_done (ds := ds) ds.length 0 _ hq0 (fun j x hj => by omega) (by omega)
      generalize bfs ds ds.length 0 (st.1.set k true, [k]) = s at *
      have hlen := hq.le
      refine ⟨fun g hg x hx y hy hn hl => ?_, fun g hg x hx y hy => ?_⟩
      · rcases List.mem_append.1 hg with h3 | h3
        · exact h1 g h3 x hx y hy hn hl
        · simp at h3; subst h3
          obtain ⟨j, hj⟩ := List.getElem?_of_mem hx
          have hjl := (List.getElem?_eq_some_iff.1 hj).1
          have hs := hd j x (by omega) hj y hy hn hl
          rcases (hq.old y).1 hs with h4 | h4
          · exfalso
            obtain ⟨g', hg', hyg⟩ := (hI.seen y).1 h4
            have hxg := h1 g' hg' y hyg x (hq.lt x hx) (hsym x y (hq.lt x hx) hy hn) hl.symm
            exact hq.new x hx ((hI.seen x).2 ⟨g', hg', hxg⟩)
          · exact h4
      · rcases List.mem_append.1 hg with h3 | h3
        · exact h2 g h3 x hx y hy
        · simp at h3; subst h3
          rw [hq.lv x hx, hq.lv y hy]
    · rw [if_neg hc]; exact ⟨h1, h2⟩
theorem nb_sym {rs : List Rg} (h : validR rs = true) : ∀ x y, x < (rs.map Rg.dat).length → y < (rs.map Rg.dat).length → isNb (rs.map Rg.dat) x y = true → isNb (rs.map Rg.dat) y x = true := by
  intro x y hx hy hn
  rw [List.length_map] at hx hy
  have ex := List.getElem?_eq_getElem hx
  have ey := List.getElem?_eq_getElem hy
  unfold isNb at hn ⊢
  rw [dNr_get ex, dId_get ey] at hn
  rw [dNr_get ey, dId_get ex]
  exact near_sym h ex ey hn
/-- what the law asks of the sets -/
structure JFacts (ds : List Dat) : Prop where
  ne : ∀ q ∈ joinedV ds, q ≠ []
  asc : ∀ q ∈ joinedV ds, q.Pairwise (· < ·)
  lt : ∀ q ∈ joinedV ds, ∀ z ∈ q, ∃ a : Nat, z = a ∧ a < ds.length
  lv : ∀ q ∈ joinedV ds, ∀ a b : Nat, (a : Int) ∈ q → (b : Int) ∈ q → dLv ds a = dLv ds b
  cl : ∀ q ∈ joinedV ds, ∀ a b : Nat, (a : Int) ∈ q → b < ds.length → isNb ds a b = true → dLv ds b = dLv ds a → (b : Int) ∈ q
theorem ofN_mem {g : List Nat} {a : Nat} : (a : Int) ∈ ofN g ↔ a ∈ g := by
  unfold ofN
  rw [List.mem_map]
  constructor
  · rintro ⟨b, hb, e⟩
    rwa [show a = b by omega]
  · intro h; exact ⟨a, h, rfl⟩
theorem jfacts {rs : List Rg} (h : validR rs = true) : JFacts (rs.map Rg.dat) := by
  have hI := jAll_inv (rs.map Rg.dat) (rs.map Rg.dat).length (Nat.le_refl _)
  obtain ⟨h1, h2⟩ := jAll_closed (nb_sym h) (rs.map Rg.dat).length (Nat.le_refl _)
  have key : ∀ q ∈ joinedV (rs.map Rg.dat), ∃ g ∈ (jAll (rs.map Rg.dat) (rs.map Rg.dat).length).2, q = sortV (ofN g) := fun q hq => by
    unfold joinedV at hq
    obtain ⟨g, hg, rfl⟩ := List.mem_map.1 hq
    exact ⟨g, hg, rfl⟩
  refine ⟨fun q hq => ?_, fun q hq => ?_, fun q hq z hz => joined_lt hq hz, fun q hq a b ha hb => ?_, fun q hq a b ha hb hn hl => ?_⟩
  · obtain ⟨g, hg, rfl⟩ := key q hq
    have h3 := (hI.nodup g hg).2.2
    obtain ⟨a, ha⟩ := List.exists_mem_of_length_pos h3
    intro e
    have : (a : Int) ∈ sortV (ofN g) := by rw [sortV_mem, ofN_mem]; exact ha
    rw [e] at this; cases this
  · obtain ⟨g, hg, rfl⟩ := key q hq
    exact sortV_asc _
  · obtain ⟨g, hg, rfl⟩ := key q hq
    rw [sortV_mem, ofN_mem] at ha hb
    exact h2 g hg a ha b hb
  · obtain ⟨g, hg, rfl⟩ := key q hq
    rw [sortV_mem, ofN_mem] at ha ⊢
    exact h1 g hg a ha b hb hn hl
/-! ### the names of a set -/
theorem find_own {rs : List Rg} (h : validR rs = true) {a : Nat} (ha : a < rs.length) : findD (rs.map Rg.dat) (dId (rs.map Rg.dat) a) = (a : Int) := by
  rw [← findR_dat, dId_idAt]
  have hx := List.getElem?_eq_getElem ha
  have hpos : 0 ≤ findR rs (idAt rs a) := by
    unfold findR idxOf
    suffices hs : ∀ (l : List Rg) (k : Nat) (x : Rg), x ∈ l → findP (idAt rs a) x = true → 0 ≤ idxFrom (findP (idAt rs a)) k l from
      hs rs 0 rs[a] (List.getElem_mem _) (by unfold findP; rw [idAt_get hx]; exact eqS_iff.2 rfl)
    intro l
    induction l with
    | nil => intro k x hx; cases hx
    | cons z l ih =>
      intro k x hx hp
      simp only [idxFrom]
      split
      · omega
      · rename_i hz
        rcases List.mem_cons.1 hx with rfl | hx
        · exact absurd hp hz
        · exact ih (k + 1) x hx hp
  obtain ⟨y, hy, hp, _⟩ := idxOf_spec (findP (idAt rs a)) rs (by unfold findR at hpos; exact hpos)
  have hb := findR_bd rs (idAt rs a)
  have e : rs[(findR rs (idAt rs a)).toNat]? = some y := hy
  have hj : (findR rs (idAt rs a)).toNat = a := valid_inj h (by omega) ha (by rw [idAt_get e]; exact eqS_iff.1 hp)
  omega
theorem group_of {rs : List Rg} (h : validR rs = true) {i a : Nat} {q : List Int} (hq : (joinedV (rs.map Rg.dat))[i]? = some q) (ha : (a : Int) ∈ q) : groupV (rs.map Rg.dat) (dId (rs.map Rg.dat) a) = (idsOf (rs.map Rg.dat) q, 0) := by
  have hJ := jfacts h
  obtain ⟨b, e, hb⟩ := hJ.lt q (List.mem_of_getElem? hq) a ha
  obtain rfl : a = b := by omega
  rw [List.length_map] at hb
  have hf := find_own h hb
  unfold groupV
  rw [← validR_dat, h, hf, if_neg (by simp), if_neg (by omega)]
  have hs : setOf (joinedV (rs.map Rg.dat)) (a : Int) = some q := setOf_at hq (hasZ_iff.2 ha) (fun j p hj hp => by
    cases hc : hasZ p (a : Int)
    · rfl
    · have := joined_apart hp hq hc (hasZ_iff.2 ha); omega)
  rw [hs]; rfl
end Go.Proofs.YteklfeeamjgplaaGreatDoor
