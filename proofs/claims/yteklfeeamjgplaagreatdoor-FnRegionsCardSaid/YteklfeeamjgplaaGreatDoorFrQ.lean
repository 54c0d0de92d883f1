/- FnRegions (plain): texts of regions are read back; levels spread once are spread. -/
import Derived.Test.YteklfeeamjgplaaGreatDoorFrP
namespace Go.Proofs.YteklfeeamjgplaaGreatDoor
open Go.ChangeShapes Go.WideShapes Go.ChangeAt Go.RowKit
set_option linter.unusedVariables false
/-! ### texts -/
theorem join_no {c s : UInt8} (hcs : c ≠ s) : ∀ P : List (List UInt8), (∀ p ∈ P, c ∉ p) → c ∉ Lib.join P [s]
  | [], _ => by simp [Lib.join]
  | [x], h => by rw [Lib.join_one]; exact h x (by simp)
  | x :: y :: r, h => by
    have ih := join_no hcs (y :: r) (fun p hp => h p (List.mem_cons_of_mem _ hp))
    rw [join_two, List.mem_append, List.mem_cons]
    rintro (h1 | h1 | h1)
    · exact h x (by simp) h1
    · exact hcs h1
    · exact ih h1
theorem decZ_no {z : Int} (h : 1 ≤ z ∧ z ≤ 5) : (32 : UInt8) ∉ (decZ z).data.toList ∧ (47 : UInt8) ∉ (decZ z).data.toList := by
  have e : (decZ z).data.toList = [UInt8.ofNat (48 + z.toNat)] := by
    show Lib.itoa z = _
    rw [(decZ_one h).2.2, Lib.decDigits_one (by omega)]
  have h5 : z.toNat = 1 ∨ z.toNat = 2 ∨ z.toNat = 3 ∨ z.toNat = 4 ∨ z.toNat = 5 := by omega
  rw [e]
  rcases h5 with h | h | h | h | h <;> rw [h] <;> decide
theorem words_no {d : Dat} (h : nameV d.1 = true ∧ (1 ≤ d.2.1 ∧ d.2.1 ≤ 5) ∧ ∀ m ∈ d.2.2, nameV m = true) : ∀ b ∈ wordsD d, (32 : UInt8) ∉ b.data.toList ∧ (47 : UInt8) ∉ b.data.toList := by
  intro b hb
  unfold wordsD at hb
  rcases List.mem_cons.1 hb with rfl | hb
  · exact (name_facts h.1).2.2
  · rcases List.mem_cons.1 hb with rfl | hb
    · exact decZ_no h.2.1
    · exact (name_facts (h.2.2 b hb)).2.2
theorem reg_split {d : Dat} (h : nameV d.1 = true ∧ (1 ≤ d.2.1 ∧ d.2.1 ≤ 5) ∧ ∀ m ∈ d.2.2, nameV m = true) : splitS (regT d) 32 = wordsD d ∧ (47 : UInt8) ∉ (regT d).data.toList ∧ 1 ≤ (regT d).size := by
  have hw := words_no h
  have hn : tlZ (wordsD d) ≠ [] := by simp [tlZ, wordsD]
  have h32 : ∀ p ∈ tlZ (wordsD d), (32 : UInt8) ∉ p := fun p hp => by
    obtain ⟨b, hb, rfl⟩ := List.mem_map.1 hp
    exact (hw b hb).1
  have h47 : ∀ p ∈ tlZ (wordsD d), (47 : UInt8) ∉ p := fun p hp => by
    obtain ⟨b, hb, rfl⟩ := List.mem_map.1 hp
    exact (hw b hb).2
  refine ⟨?_, join_no (by decide) _ h47, ?_⟩
  · obtain ⟨h1, h2, h3⟩ := splitS_ok (regT d) 32
    exact tlZ_inj (join_uniq h1 hn h2 h32 (by rw [h3]; rfl))
  · have h1 := join_mem_le 32 (tlZ (wordsD d)) d.1.data.toList (List.mem_map.2 ⟨d.1, by simp [wordsD], rfl⟩)
    have h2 := (name_facts h.1).1
    have h3 : (regT d).size = (Lib.join (tlZ (wordsD d)) [32]).length := rfl
    rw [size_l] at h1
    omega
theorem rr_text {ds : List Dat} (h : validD ds = true) : rrV (rtV ds) = (ds, true) := by
  have hv := valid_dat h
  have ht : rtV ds = rgT ds := by unfold rtV; rw [if_pos h]
  rw [ht]
  by_cases h0 : ds = []
  · subst h0
    exact rrV_nil rfl
  · have hn : tlZ (ds.map regT) ≠ [] := by simpa [tlZ] using h0
    have hsp : splitS (rgT ds) 47 = ds.map regT := by
      obtain ⟨h1, h2, h3⟩ := splitS_ok (rgT ds) 47
      refine tlZ_inj (join_uniq h1 hn h2 (fun p hp => ?_) (by rw [h3]; rfl))
      obtain ⟨b, hb, rfl⟩ := List.mem_map.1 hp
      obtain ⟨d, hd, rfl⟩ := List.mem_map.1 hb
      exact (reg_split (hv.2 d hd)).2.1
    refine rrV_ok ?_ ⟨?_, h⟩
    · intro e
      cases ds with
      | nil => exact h0 rfl
      | cons d r =>
        have h1 := join_mem_le 47 (tlZ ((d :: r).map regT)) (regT d).data.toList (List.mem_map.2 ⟨regT d, by simp, rfl⟩)
        have h2 := (reg_split (hv.2 d (by simp))).2.2
        have h3 : (rgT (d :: r)).size = (Lib.join (tlZ ((d :: r).map regT)) [47]).length := rfl
        rw [size_l] at h1
        omega
    · rw [hsp, List.map_map]
      exact List.map_congr_left (fun d hd => (reg_split (hv.2 d hd)).1)
theorem near_few {rs : List Rg} (h : validR rs = true) {x : Rg} (hx : x ∈ rs) : x.near.length ≤ 8 := by
  obtain ⟨i, hi⟩ := List.getElem?_of_mem hx
  have h1 := congrArg List.length (fnd_nbs h hi)
  have h2 : (fnd rs x.near).length = x.near.length := by simp [fnd]
  have h3 : (nbs (rs.map Rg.dat) i rs.length).length ≤ rs.length := by
    unfold nbs
    refine Nat.le_trans (List.length_filter_le _ _) ?_
    rw [List.length_range]; exact Nat.le_refl _
  have h4 := (valid_len h).1
  omega
theorem rt_size {rs : List Rg} (h : validR rs = true) : (rtV (rs.map Rg.dat)).size ≤ 1048576 := by
  have hv : validD (rs.map Rg.dat) = true := by rw [← validR_dat]; exact h
  have h1 := outK_size (rs := rs) (N := 8) (valid_facts h).2 (fun x hx => near_few h hx) rs.length
  have h2 := outK_all (rs.map Rg.dat)
  rw [List.length_map] at h2
  rw [h2] at h1
  have h3 := (valid_len h).1
  unfold rtV
  rw [if_pos hv]
  refine Nat.le_trans h1 ?_
  refine Nat.le_trans (Nat.mul_le_mul_left _ h3) (by decide)
theorem eqL_refl (l : List ByteArray) : eqL l l = true := by simp [eqL]
theorem eqS_refl (a : ByteArray) : eqS a a = true := eqS_iff.2 rfl
theorem same_refl (ds : List Dat) : sameRegionsV ds ds = true := by
  unfold sameRegionsV pairsD
  rw [decide_eq_true rfl, Bool.true_and, List.all_eq_true]
  intro q hq
  obtain ⟨i, hi⟩ := List.getElem?_of_mem hq
  rw [List.getElem?_zip_eq_some] at hi
  have e : q.1 = q.2 := Option.some.inj (hi.1.symm.trans hi.2)
  rw [e]
  unfold sameD
  rw [decide_eq_true rfl, eqS_refl, eqL_refl]; rfl
/-! ### levels -/
def plc (x : Rg) : ByteArray × List ByteArray := (x.id, x.near)
theorem findR_plc {rs qs : List Rg} (h : rs.map plc = qs.map plc) (s : ByteArray) : findR rs s = findR qs s := by
  have e : ∀ ts : List Rg, findR ts s = idxOf (fun p : ByteArray × List ByteArray => eqS p.1 s) (ts.map plc) := fun ts => by
    unfold findR idxOf
    rw [idxFrom_map]; rfl
  rw [e, e, h]
theorem plc_at {rs qs : List Rg} (h : rs.map plc = qs.map plc) (i : Nat) : (rs[i]?).map plc = (qs[i]?).map plc := by
  have h1 := congrArg (fun l => l[i]?) h
  simpa only [List.getElem?_map] using h1
theorem idAt_plc {rs qs : List Rg} (h : rs.map plc = qs.map plc) (i : Nat) : idAt rs i = idAt qs i := by
  have h1 := plc_at h i
  unfold idAt
  have h2 := congrArg (fun o => (o.map Prod.fst).getD (⟨#[]⟩ : ByteArray)) h1
  simpa [Option.map_map, plc, Function.comp_def] using h2
theorem isNear_plc {rs qs : List Rg} (h : rs.map plc = qs.map plc) (a b : ByteArray) : isNearR rs a b = isNearR qs a b := by
  unfold isNearR
  rw [findR_plc h]
  split
  · rfl
  · have h1 := plc_at h (findR qs a).toNat
    cases hr : rs[(findR qs a).toNat]? with
    | none =>
      cases hq : qs[(findR qs a).toNat]? with
      | none => rfl
      | some y => rw [hr, hq] at h1; cases h1
    | some x =>
      cases hq : qs[(findR qs a).toNat]? with
      | none => rw [hr, hq] at h1; cases h1
      | some y =>
        rw [hr, hq] at h1
        have h2 : plc x = plc y := Option.some.inj h1
        have h3 : x.near = y.near := congrArg Prod.snd h2
        show nearV x.near b = nearV y.near b
        rw [h3]
theorem okNear_plc {rs qs : List Rg} (h : rs.map plc = qs.map plc) {x y : Rg} (hxy : plc x = plc y) (m : Nat) : okNear rs x m = okNear qs y m := by
  have h1 : x.id = y.id := congrArg Prod.fst hxy
  have h2 : x.near = y.near := congrArg Prod.snd hxy
  induction m with
  | zero => rfl
  | succ m ih =>
    rw [okNear_succ, okNear_succ, ih]
    unfold okIn
    rw [isNear_plc h, h1, h2]
/-- lists of the same places are valid together, if the levels are levels -/
theorem valid_plc {rs qs : List Rg} (h : rs.map plc = qs.map plc) (hv : validR rs = true) (hl : ∀ y ∈ qs, 1 ≤ y.lv ∧ y.lv ≤ 5) : validR qs = true := by
  have hlen : rs.length = qs.length := by simpa using congrArg List.length h
  obtain ⟨h1, h2⟩ := valid_len hv
  unfold validR
  rw [Bool.and_eq_true, decide_eq_true_eq]
  refine ⟨by omega, ?_⟩
  unfold okTo
  rw [List.all_eq_true]
  intro i hi
  have hi2 := List.mem_range.1 hi
  have hx := List.getElem?_eq_getElem (l := rs) (i := i) (by omega)
  have hy := List.getElem?_eq_getElem (l := qs) (i := i) hi2
  have hp := plc_at h i
  rw [hx, hy] at hp
  have hxy : plc rs[i] = plc qs[i] := Option.some.inj hp
  have h3 := okTo_at h2 (show i < rs.length by omega)
  rw [okAt_some hx] at h3
  rw [okAt_some hy]
  have e1 : rs[i].id = qs[i].id := congrArg Prod.fst hxy
  have e2 : rs[i].near = qs[i].near := congrArg Prod.snd hxy
  have hlv := hl qs[i] (List.getElem_mem _)
  simp only [Bool.and_eq_true] at h3 ⊢
  obtain ⟨⟨⟨g1, g2⟩, g3⟩, g4⟩ := h3
  refine ⟨⟨⟨by rw [← e1]; exact g1, ?_⟩, ?_⟩, ?_⟩
  · unfold inB; exact decide_eq_true hlv
  · rw [← idAt_plc h, ← e1]; exact g3
  · rw [← e2, ← okNear_plc h hxy]; exact g4
theorem spE_plc (id : ByteArray) (z : Int) (d : Dat) : (spE id z d).1 = d.1 ∧ (spE id z d).2.2 = d.2.2 ∧ (spE id z d).2.1 = if nearV d.2.2 id = true then max d.2.1 z else d.2.1 := by
  unfold spE
  split
  · exact ⟨rfl, rfl, maxZ_max _ _⟩
  · exact ⟨rfl, rfl, rfl⟩
theorem spE_twice (id : ByteArray) (z : Int) (d : Dat) : spE id z (spE id z d) = spE id z d := by
  obtain ⟨h1, h2, h3⟩ := spE_plc id z d
  obtain ⟨g1, g2, g3⟩ := spE_plc id z (spE id z d)
  refine Prod.ext g1 (Prod.ext ?_ g2)
  rw [g3, h2, h3]
  split <;> omega
theorem findD_spE (ds : List Dat) (id : ByteArray) (z : Int) (s : ByteArray) : findD (ds.map (spE id z)) s = findD ds s := by
  unfold findD idxOf
  rw [idxFrom_map]
  congr 1
  funext d
  rw [(spE_plc id z d).1]
theorem not_near_own {rs : List Rg} (h : validR rs = true) {i : Nat} {x : Rg} (hx : rs[i]? = some x) {id : ByteArray} (he : x.id.toList = id.toList) : nearV x.near id = false := by
  cases hc : nearV x.near id
  · rfl
  · exfalso
    obtain ⟨s, hs, hse⟩ := List.any_eq_true.1 hc
    obtain ⟨k, hk⟩ := List.getElem?_of_mem hs
    have hkl := (List.getElem?_eq_some_iff.1 hk).1
    have h1 := valid_in h hx hkl
    unfold okIn at h1
    rw [sAt_get hk] at h1
    simp only [Bool.and_eq_true, Bool.not_eq_true'] at h1
    have h2 : eqS s x.id = true := eqS_iff.2 ((eqS_iff.1 hse).trans he.symm)
    rw [h2] at h1
    exact absurd h1.1.2 (by decide)
/-- all that the law asks of a level that is spread -/
theorem sp_facts {ds : List Dat} {id : ByteArray} (h : validD ds = true) (hf : 0 ≤ findD ds id) : ∃ nx, spreadV ds id = (nx, 0) ∧ validD nx = true ∧ spreadV nx id = (nx, 0) ∧ mergeV nx ds = (nx, 0) := by
  have hvr : validR (ds.map unD) = true := h
  have hvd := (valid_dat h).2
  have hb := findD_bd ds id
  obtain ⟨j, hj⟩ : ∃ j : Nat, findD ds id = j := ⟨(findD ds id).toNat, by omega⟩
  have hjl : j < ds.length := by omega
  have hd := List.getElem?_eq_getElem hjl
  generalize ds[j]'hjl = d at hd
  have hz : dLv ds j = d.2.1 := by unfold dLv; rw [hd]; rfl
  have hdid : d.1.toList = id.toList := by
    obtain ⟨y, hy, hp, _⟩ := idxOf_spec (fun d : Dat => eqS d.1 id) ds hf
    have e : ds[(findD ds id).toNat]? = some y := hy
    rw [hj, Int.toNat_natCast, hd] at e
    obtain rfl := Option.some.inj e
    exact eqS_iff.1 hp
  have hdl := (hvd d (List.mem_of_getElem? hd)).2.1
  have hsp : spreadV ds id = (ds.map (spE id d.2.1), 0) := by
    unfold spreadV
    rw [h, if_neg (by simp), if_neg (by omega), hj, Int.toNat_natCast, hz]
  have hval : validD (ds.map (spE id d.2.1)) = true := by
    refine valid_plc (rs := ds.map unD) ?_ hvr (fun y hy => ?_)
    · rw [List.map_map, List.map_map, List.map_map]
      refine List.map_congr_left (fun e he => ?_)
      obtain ⟨h1, h2, _⟩ := spE_plc id d.2.1 e
      show (e.1, e.2.2) = ((spE id d.2.1 e).1, (spE id d.2.1 e).2.2)
      rw [h1, h2]
    · obtain ⟨e, he, rfl⟩ := List.mem_map.1 hy
      obtain ⟨e0, he0, rfl⟩ := List.mem_map.1 he
      obtain ⟨_, _, h3⟩ := spE_plc id d.2.1 e0
      have h4 := (hvd e0 he0).2.1
      show 1 ≤ (spE id d.2.1 e0).2.1 ∧ (spE id d.2.1 e0).2.1 ≤ 5
      rw [h3]
      split <;> omega
  have hx : (ds.map unD)[j]? = some (unD d) := by rw [List.getElem?_map, hd]; rfl
  have hnn : nearV d.2.2 id = false := not_near_own hvr hx hdid
  have hdn : spE id d.2.1 d = d := by unfold spE; rw [hnn]; rfl
  have hlv : dLv (ds.map (spE id d.2.1)) j = d.2.1 := by
    unfold dLv
    rw [List.getElem?_map, hd, Option.map_some, hdn]; rfl
  refine ⟨_, hsp, hval, ?_, ?_⟩
  · unfold spreadV
    rw [hval, if_neg (by simp), findD_spE, if_neg (by omega), hj, Int.toNat_natCast, hlv, List.map_map]
    congr 1
    exact List.map_congr_left (fun e _ => spE_twice id d.2.1 e)
  · unfold mergeV
    rw [hval, if_neg (by simp), h, if_neg (by simp)]
    have hpr : pairsD placeD (ds.map (spE id d.2.1)) ds = true := by
      unfold pairsD
      rw [List.length_map, decide_eq_true rfl, Bool.true_and, List.all_eq_true]
      intro q hq
      obtain ⟨i, hi⟩ := List.getElem?_of_mem hq
      rw [List.getElem?_zip_eq_some, List.getElem?_map, Option.map_eq_some_iff] at hi
      obtain ⟨⟨e, he, he2⟩, hi2⟩ := hi
      have e2 : e = q.2 := Option.some.inj (he.symm.trans hi2)
      obtain ⟨h1, h2, _⟩ := spE_plc id d.2.1 e
      unfold placeD
      rw [← he2, ← e2, h1, h2, eqS_refl, eqL_refl]; rfl
    rw [hpr, if_neg (by simp)]
    congr 1
    apply List.ext_getElem?
    intro i
    rw [List.getElem?_zipWith, List.getElem?_map]
    cases he : ds[i]? with
    | none => rfl
    | some e =>
      obtain ⟨h1, h2, h3⟩ := spE_plc id d.2.1 e
      show some (mgE (spE id d.2.1 e) e) = some (spE id d.2.1 e)
      congr 1
      refine Prod.ext rfl (Prod.ext ?_ rfl)
      show maxZ (spE id d.2.1 e).2.1 e.2.1 = (spE id d.2.1 e).2.1
      rw [maxZ_max, h3]
      split <;> omega
theorem sp_bad {ds : List Dat} {id : ByteArray} (h : ¬ (validD ds = true ∧ 0 ≤ findD ds id)) : ∃ k : Int, spreadV ds id = ([], k) ∧ k ≠ 0 := by
  unfold spreadV
  cases hv : validD ds
  · exact ⟨1, by rw [if_pos rfl], by omega⟩
  · rw [if_neg (by simp)]
    have : findD ds id < 0 := by
      rcases Int.lt_or_le (findD ds id) 0 with h1 | h1
      · exact h1
      · exact absurd ⟨hv, h1⟩ h
    exact ⟨3, by rw [if_pos this], by omega⟩
end Go.Proofs.YteklfeeamjgplaaGreatDoor
