/- GroupOf by both. -/
import Derived.Test.YteklfeeamjgplaaGreatDoorJnE
import Derived.Test.YteklfeeamjgplaaGreatDoorRgTU
namespace Go.Proofs.YteklfeeamjgplaaGreatDoor
open Go.ChangeShapes Go.WideShapes Go.ChangeAt Go.RowKit
set_option linter.unusedVariables false
def hasZ (l : List Int) (z : Int) : Bool := l.any fun y => y == z
set_option maxHeartbeats 1000000 in
theorem indexI_c (A : Option Addr) (n c BA : Nat) (l : List Int) (v : Int) (w : World) (ha : Reads w BA 1 A n (ints l)) (hn : n ≤ 1048576) :
    Calls Tryz.prog 50 #[.slice A n c, .int .i64 v] w fun e w' => e = .returned (.int .i64 (idxOf (fun y => y == v) l)) ∧ w = w' := by
  have HL := Lib.hid ha.len
  have HA := Lib.hid ha
  clear ha
  go_enter Tryz.func50, Tryz.ntmps50
  go_wp2
  go_loop [8] (fun i => ∃ k : Nat, k ≤ n ∧ i = .int .i64 k ∧ Hid ((l.take k).all (fun z => !(z == v)) = true)) (fun i => n - (intOf i).toNat)
  case atStart => exact ⟨0, Nat.zero_le _, rfl, Lib.hid (by simp)⟩
  case round =>
    obtain ⟨k, hk, rfl, HAL⟩ := hrel
    by_cases hlt : k < n
    · obtain ⟨ad, s, rfl, _, hzk, hc⟩ := HA.out.int hlt
      have HZ := Lib.hid hzk
      clear hzk
      cases hp : (v == s)
      · have HP : Hid ((s == v) = false) := Lib.hid (by rw [Bool.eq_false_iff, ne_eq, beq_iff_eq] at hp ⊢; exact fun e => hp e.symm)
        go_wp2
        go_round
        case rel => exact ⟨k + 1, by omega, by go_num, Lib.hid (by rw [take_snoc' HZ.out, List.all_append, HAL.out]; simp only [List.all_cons, HP.out]; rfl)⟩
        case measure => simp [intOf]; omega
      · have HP : Hid ((s == v) = true) := Lib.hid (by rw [beq_iff_eq] at hp ⊢; exact hp.symm)
        go_wp2
        go_ret
        refine ⟨ret_int ?_, rfl⟩
        rw [drop_cons_get HZ.out, idxFrom_at (fun y => y == v) _ _ s HAL.out HP.out]
        simp; have := HL.out; omega
    · obtain rfl : k = n := by omega
      go_wp2
      go_ret
      refine ⟨ret_int ?_, rfl⟩
      have h := HAL.out
      rw [List.take_of_length_le (by have := HL.out; omega)] at h
      exact (idxFrom_none (fun y => y == v) 0 l h).symm
theorem containsI_c (A : Option Addr) (n c BA : Nat) (l : List Int) (v : Int) (w : World) (ha : Reads w BA 1 A n (ints l)) (hn : n ≤ 1048576) :
    Calls Tryz.prog 24 #[.slice A n c, .int .i64 v] w fun e w' => e = .returned (.bool (hasZ l v)) ∧ w = w' := by
  have HC := Lib.hid (indexI_c A n c BA l v w ha hn)
  have HV := Lib.hid (show hasZ l v = decide (0 ≤ idxOf (fun y => y == v) l) from (idxOf_any' _ _).symm)
  clear ha
  generalize idxOf (fun y => y == v) l = z at *
  go_enter Tryz.func24, Tryz.ntmps24
  go_wp2_with fail
  refine HC.out.mono ?_
  rintro e w' ⟨rfl, rfl⟩
  go_wp2
  go_ret
  exact ⟨ret_bool HV.out.symm, rfl⟩
/-- the first set that holds a number -/
def setOf (ss : List (List Int)) (z : Int) : Option (List Int) := ss.find? fun q => hasZ q z
def idsOf (ds : List Dat) (q : List Int) : List ByteArray := q.map fun z => dId ds z.toNat
def grpV (ds : List Dat) (o : Option (List Int)) : List ByteArray × Int := match o with
  | none => ([], 3)
  | some q => (idsOf ds q, 0)
def groupV (ds : List Dat) (id : ByteArray) : List ByteArray × Int := if validD ds = false then ([], 1) else if findD ds id < 0 then ([], 3) else grpV ds (setOf (joinedV ds) (findD ds id))
theorem hasZ_iff {l : List Int} {z : Int} : hasZ l z = true ↔ z ∈ l := by simp [hasZ]
/-- a region stands in one set alone -/
theorem joined_apart {ds : List Dat} {i j : Nat} {p q : List Int} {z : Int} (h1 : (joinedV ds)[i]? = some p) (h2 : (joinedV ds)[j]? = some q) (hp : hasZ p z = true) (hq : hasZ q z = true) : i = j := by
  have hI := jAll_inv ds ds.length (Nat.le_refl _)
  unfold joinedV at h1 h2
  rw [List.getElem?_map, Option.map_eq_some_iff] at h1 h2
  obtain ⟨g, hg, rfl⟩ := h1
  obtain ⟨g', hg', rfl⟩ := h2
  rw [hasZ_iff, sortV_mem] at hp hq
  obtain ⟨a, ha, rfl⟩ := List.mem_map.1 hp
  obtain ⟨b, hb, e⟩ := List.mem_map.1 hq
  have hab : a = b := by omega
  subst hab
  obtain ⟨hi1, hi2⟩ := List.getElem?_eq_some_iff.1 hg
  obtain ⟨hj1, hj2⟩ := List.getElem?_eq_some_iff.1 hg'
  have hpw := List.pairwise_iff_getElem.1 hI.apart
  rcases Nat.lt_trichotomy i j with h | h | h
  · exact absurd (by rw [hj2]; exact hb) (hpw i j hi1 hj1 h a (by rw [hi2]; exact ha))
  · exact h
  · exact absurd (by rw [hi2]; exact ha) (hpw j i hj1 hi1 h a (by rw [hj2]; exact hb))
/-- each region stands in a set -/
theorem joined_all {ds : List Dat} {k : Nat} (hk : k < ds.length) : ∃ q ∈ joinedV ds, hasZ q (k : Int) = true := by
  have hI := jAll_inv ds ds.length (Nat.le_refl _)
  obtain ⟨g, hg, hm⟩ := (hI.seen k).1 (hI.done k hk hk)
  refine ⟨_, List.mem_map_of_mem hg, ?_⟩
  rw [hasZ_iff, sortV_mem]
  exact List.mem_map_of_mem hm
theorem joined_lt {ds : List Dat} {q : List Int} {z : Int} (hq : q ∈ joinedV ds) (hz : z ∈ q) : ∃ a : Nat, z = a ∧ a < ds.length := by
  have hI := jAll_inv ds ds.length (Nat.le_refl _)
  unfold joinedV at hq
  obtain ⟨g, hg, rfl⟩ := List.mem_map.1 hq
  rw [sortV_mem] at hz
  obtain ⟨a, ha, rfl⟩ := List.mem_map.1 hz
  exact ⟨a, rfl, hI.lt g hg a ha⟩
theorem setOf_none {ss : List (List Int)} {z : Int} (h : ∀ q ∈ ss, hasZ q z = false) : setOf ss z = none := by
  unfold setOf
  rw [List.find?_eq_none]
  intro q hq
  rw [h q hq]; simp
theorem setOf_at {ss : List (List Int)} {z : Int} {i : Nat} {q : List Int} (h : ss[i]? = some q) (hq : hasZ q z = true) (hb : ∀ j p, j < i → ss[j]? = some p → hasZ p z = false) : setOf ss z = some q := by
  unfold setOf
  rw [drop_cons_get h, List.find?_append, List.find?_eq_none.2 ?_]
  · simp [hq]
  · intro p hp
    obtain ⟨j, hj⟩ := List.getElem?_of_mem hp
    have hjl := (List.getElem?_eq_some_iff.1 hj).1
    rw [List.length_take] at hjl
    rw [List.getElem?_take_of_lt (by omega)] at hj
    rw [hb j p (by omega) hj]; simp
def accV (ds : List Dat) (ss : List (List Int)) (z : Int) (i : Nat) : List ByteArray := (ss.take i).flatMap fun q => if hasZ q z then idsOf ds q else []
theorem accV_succ {ds : List Dat} {ss : List (List Int)} {z : Int} {i : Nat} {q : List Int} (h : ss[i]? = some q) : accV ds ss z (i + 1) = accV ds ss z i ++ if hasZ q z then idsOf ds q else [] := by
  unfold accV
  rw [take_snoc' h, List.flatMap_append]; simp
theorem accV_all {ds : List Dat} {k : Nat} (hk : k < ds.length) : ∃ q, setOf (joinedV ds) (k : Int) = some q ∧ accV ds (joinedV ds) (k : Int) (joinedV ds).length = idsOf ds q := by
  obtain ⟨q, hq, hh⟩ := joined_all hk
  obtain ⟨i, hi⟩ := List.getElem?_of_mem hq
  have huniq : ∀ j p, (joinedV ds)[j]? = some p → hasZ p (k : Int) = true → j = i := fun j p hj hp => joined_apart hj hi hp hh
  refine ⟨q, setOf_at hi hh (fun j p hj hp => ?_), ?_⟩
  · cases hc : hasZ p (k : Int)
    · rfl
    · have := huniq j p hp hc; omega
  · unfold accV
    rw [List.take_length]
    conv => lhs; rw [drop_cons_get hi]
    rw [List.flatMap_append, List.flatMap_cons, if_pos hh]
    have h1 : ((joinedV ds).take i).flatMap (fun q => if hasZ q (k : Int) then idsOf ds q else []) = [] := by
      rw [List.flatMap_eq_nil_iff]
      intro p hp
      obtain ⟨j, hj⟩ := List.getElem?_of_mem hp
      have hjl := (List.getElem?_eq_some_iff.1 hj).1
      rw [List.length_take] at hjl
      rw [List.getElem?_take_of_lt (by omega)] at hj
      rw [if_neg]
      intro hc
      have := huniq j p hj hc; omega
    have h2 : ((joinedV ds).drop (i + 1)).flatMap (fun q => if hasZ q (k : Int) then idsOf ds q else []) = [] := by
      rw [List.flatMap_eq_nil_iff]
      intro p hp
      obtain ⟨j, hj⟩ := List.getElem?_of_mem hp
      rw [List.getElem?_drop] at hj
      rw [if_neg]
      intro hc
      have := huniq _ p hj hc; omega
    rw [h1, h2]; simp
/-- a set among the sets in memory -/
theorem sets_at {w : World} {lo hi m d i : Nat} {D : Option Addr} {l : List GRow} {ss : List (List Int)} (h : OwnG 31 2 w lo hi (.slice D m d) m l) (hl : l.map GRow.xs = ss.map ints) (hi' : i < m) :
    ∃ (g : Nat) (x : GRow) (q : List Int), D = some ⟨g, 0, none⟩ ∧ ss[i]? = some q ∧ w.cell? ⟨g, i, none⟩ = some (.slice x.A x.n x.c) ∧ Reads w hi 1 x.A x.n (ints q) ∧ q ∈ ss := by
  obtain ⟨g, x, hD, _, _, hx, hc, ho⟩ := h.at_ hi'
  have h1 : (l.map GRow.xs)[i]? = some x.xs := by simp [hx]
  rw [hl, List.getElem?_map, Option.map_eq_some_iff] at h1
  obtain ⟨q, hq, e⟩ := h1
  have hr := ho.reads
  rw [← e] at hr
  exact ⟨g, x, q, hD, hq, hc, hr, List.mem_of_getElem? hq⟩
set_option maxHeartbeats 4000000 in
theorem iGroupOf_d (A : Option Addr) (n c BA : Nat) (rs : List Rg) (id : ByteArray) (w : World) (ha : Regs w BA A n rs) (hB : BA ≤ w.heap.size) (hx : ∀ x ∈ rs, x.n ≤ 1048576) (hn : n ≤ 1048576) (_ : ¬ 1048576 < id.size) :
    Calls Tryz.prog 9 #[.slice A n c, .string id] w (StrsPost (groupV (rs.map Rg.dat) id) w) := by
  have HC := Lib.hid (iValidRegions_d A n c BA rs w ha hB hx hn)
  have HF := Lib.hid fun W (hW : Below w.heap.size w W) => regionAt_c A n c BA rs id W (ha.below (hW.mono hB)) (by have := hW.size; omega) hn
  have HJ := Lib.hid fun W (hW : Below w.heap.size w W) hv => joined_c A n c BA rs W (ha.below (hW.mono hB)) (by have := hW.size; omega) hx hv
  have HVD := Lib.hid (show groupV (rs.map Rg.dat) id = if validD (rs.map Rg.dat) = false then ([], 1) else if findD (rs.map Rg.dat) id < 0 then ([], 3) else grpV (rs.map Rg.dat) (setOf (joinedV (rs.map Rg.dat)) (findD (rs.map Rg.dat) id)) from rfl)
  have HL := Lib.hid ha.len
  have HA := Lib.hid ha
  have hfb := findD_bd (rs.map Rg.dat) id
  rw [findR_dat] at HF
  rw [List.length_map, HL.out] at hfb
  clear ha hx
  generalize groupV (rs.map Rg.dat) id = V at *
  generalize findD (rs.map Rg.dat) id = at_ at *
  obtain ⟨hf1, hf2⟩ := hfb
  go_enter Tryz.func9, Tryz.ntmps9
  go_wp2_with fail
  refine HC.out.mono ?_
  rintro e w1 ⟨rfl, B1⟩
  have T1 := Lib.hid B1; clear B1
  cases hv : validD (rs.map Rg.dat)
  · have HV : Hid (V = ([], 1)) := Lib.hid (by rw [HVD.out, if_pos hv])
    clear hv
    go_wp2
    go_ret2
    exact StrsPost.err HV.out T1.out
  · have HV2 := Lib.hid (show V = if at_ < 0 then ([], 3) else grpV (rs.map Rg.dat) (setOf (joinedV (rs.map Rg.dat)) at_) by rw [HVD.out, hv]; rfl)
    have HVR : Hid (validR rs = true) := Lib.hid (by rw [validR_dat]; exact hv)
    have H8 : Hid ((rs.map Rg.dat).length ≤ 8) := Lib.hid (by rw [List.length_map]; exact validD_len hv)
    clear hv HC HVD
    go_wp2_with fail
    refine (HF.out w1 T1.out).mono ?_
    rintro e w2 ⟨rfl, B2⟩
    have T2 := Lib.hid (T1.out.trans (B2.mono T1.out.size)); clear B2 T1
    go_wp2_with fail
    refine (HJ.out w2 T2.out HVR.out).mono ?_
    rintro e wj ⟨D, m, d, l, rfl, O, hl, hm, Bj⟩
    have TJ := Lib.hid (T2.out.trans (Bj.mono T2.out.size))
    have HO := Lib.hid O
    have HLL := Lib.hid hl
    have HSS : Hid ((joinedV (rs.map Rg.dat)).length = m) := Lib.hid (by have := congrArg List.length hl; simp at this; rw [← this, O.len])
    have hwj := TJ.out.size
    have hm' : (m : Int) ≤ 8 := by omega
    clear O hl Bj HJ HF T2
    go_wp2
    go_loopw [21] (fun i wr => ∃ k : Nat, k ≤ m ∧ i = .int .i64 k ∧ Hid (∀ j p, j < k → (joinedV (rs.map Rg.dat))[j]? = some p → hasZ p at_ = false) ∧ wr = wj) (fun i _ => m - (intOf i).toNat)
    case atStart => exact ⟨0, Nat.zero_le _, rfl, Lib.hid (fun j p hj => by omega), rfl⟩
    case round =>
      obtain ⟨k, hk, rfl, HNO, rfl⟩ := hrel
      generalize wr = wj at *
      by_cases hlt : k < m
      · obtain ⟨g, x, q, rfl, hq, c0, hr, hqm⟩ := sets_at HO.out HLL.out hlt
        have HQ := Lib.hid hq
        have HQM := Lib.hid hqm
        have hkm : (k : Int) < (m : Int) := by omega
        have hxl : x.n = q.length := (hr.len).symm
        have hxn : x.n ≤ 8 := by rw [hxl]; exact joined_small H8.out hqm
        have HRD := Lib.hid hr
        have HXL := Lib.hid hxl
        clear hq hqm hr hxl
        go_wp2_with fail
        refine (containsI_c x.A x.n x.c _ q at_ wj HRD.out (by omega)).mono ?_
        rintro e w' ⟨rfl, rfl⟩
        clear c0
        cases hh : hasZ q at_
        · have HNO2 : Hid (∀ j p, j < k + 1 → (joinedV (rs.map Rg.dat))[j]? = some p → hasZ p at_ = false) := Lib.hid (fun j p hj hp => by
            by_cases e : j = k
            · subst e; have := HQ.out; rw [hp] at this; injection this with this; subst this; exact hh
            · exact HNO.out j p (by omega) hp)
          clear hh
          go_wp2
          go_roundw
          case rel => exact ⟨k + 1, by omega, by go_num, HNO2, by first | rfl | trivial⟩
          case measure => simp [intOf]; omega
        · have HV : Hid (V = (idsOf (rs.map Rg.dat) q, 0)) := Lib.hid (by
            have h1 := setOf_at HQ.out hh HNO.out
            have h0 : ¬ at_ < 0 := by
              obtain ⟨a, ha, _⟩ := joined_lt HQM.out (hasZ_iff.1 hh)
              omega
            rw [HV2.out, if_neg h0, h1]; rfl)
          clear hh
          obtain ⟨xA, hxA⟩ : ∃ a, a = x.A := ⟨_, rfl⟩
          have HXA := Lib.hid hxA
          rw [← hxA]
          clear hxA
          go_wp2
          go_loopw [9, 30] (fun o i wr => ∃ j : Nat, j ≤ x.n ∧ i = .int .i64 j ∧ Hid (wr.ownsRow wj.heap.size 9 1 o j (strs ((idsOf (rs.map Rg.dat) q).take j))) ∧ Hid (Below wj.heap.size wj wr)) (fun _ i _ => x.n - (intOf i).toNat)
          case atStart => exact ⟨0, Nat.zero_le _, rfl, Lib.hid (World.ownsRow_nil _ _ _ _), Lib.hid (Below.refl _ _)⟩
          case round =>
            obtain ⟨j, hj, rfl, HO2, HT⟩ := hrel
            have hwz := HT.out.size
            by_cases hjl : j < x.n
            · obtain ⟨adz, z, hadz, _, hz, cz⟩ := (HRD.out.below HT.out).int hjl
              obtain rfl : xA = some adz := HXA.out.trans hadz
              obtain ⟨a, rfl, han⟩ := joined_lt HQM.out (List.mem_of_getElem? hz)
              rw [List.length_map, HL.out] at han
              obtain ⟨ad, y, rfl, hbl, hys, hny, e0, e1, e2⟩ := (HA.out.below ((TJ.out.trans (HT.out.mono hwj)).mono hB)).at_ han
              have HTK : Hid ((idsOf (rs.map Rg.dat) q).take (j + 1) = (idsOf (rs.map Rg.dat) q).take j ++ [y.id]) := Lib.hid (by
                rw [List.take_add_one, idsOf, List.getElem?_map, hz]
                simp [dId_get hys])
              have hjx : (j : Int) < (x.n : Int) := by omega
              have han' : (a : Int) < (n : Int) := by omega
              clear hadz hz hys hny e1 e2
              go_wp2_with (at_builtin; refine app_str rfl (.tmp 34) (.tmp 40) rfl wj.heap.size _ j ((idsOf (rs.map Rg.dat) q).take j) y.id _ rfl (owns_al HO2.out _) rfl ?_ (by omega) ?_ ?_)
              rotate_left 2
              · intro v' w' O4 B4 hs4
                have HO4 := Lib.hid O4
                have HT4 := Lib.hid ((HT.out.alloc hwz _).trans B4)
                clear O4 B4 hs4 e0 cz
                go_wp2
                go_roundw
                case rel => exact ⟨j + 1, by omega, by go_num, Lib.hid (by rw [HTK.out]; exact HO4.out), HT4⟩
                case measure => simp [intOf]; omega
              · exact (Blk.new _ _ _).cell 0
              · simp; omega
            · obtain rfl : j = x.n := by omega
              have hfin : (idsOf (rs.map Rg.dat) q).take x.n = idsOf (rs.map Rg.dat) q := List.take_of_length_le (by rw [idsOf, List.length_map, HXL.out]; exact Nat.le_refl _)
              rw [hfin] at HO2
              clear hfin
              obtain ⟨A', c', hv', _, _⟩ := (Own.of_owns HO2.out (Nat.le_refl _)).slice
              subst hv'
              go_wp2
              go_ret2
              exact ⟨A', x.n, c', by rw [HV.out]; rfl, by rw [HV.out]; exact (Own.of_owns HO2.out (Nat.le_refl _)).widen hwj (Nat.le_refl _), by omega, TJ.out.trans (HT.out.mono hwj)⟩
      · obtain rfl : k = m := by omega
        have HV : Hid (V = ([], 3)) := Lib.hid (by
          have h1 : setOf (joinedV (rs.map Rg.dat)) at_ = none := setOf_none fun q hq => by
            obtain ⟨i, hi⟩ := List.getElem?_of_mem hq
            exact HNO.out i q (by have := (List.getElem?_eq_some_iff.1 hi).1; rw [HSS.out] at this; exact this) hi
          rw [HV2.out, h1]
          split <;> rfl)
        go_wp2
        go_ret2
        exact StrsPost.err HV.out TJ.out
end Go.Proofs.YteklfeeamjgplaaGreatDoor
