/- Regions read from a text, by the reference. -/
import Derived.Test.YteklfeeamjgplaaDoorRtF
import Derived.Test.YteklfeeamjgplaaDoorRtG
import Derived.Lib.SplitLaws
namespace Go.Proofs.YteklfeeamjgplaaDoor
open Go.ChangeShapes Go.WideShapes Go.ChangeAt Go.RowKit
set_option linter.unusedVariables false
theorem splitB_all (s : ByteArray) (c : UInt8) : Lib.splitB ⟨#[c]⟩ 0 (Lib.countB s ⟨#[c]⟩) s = splitS s c := by
  have hcn : Lib.countB s ⟨#[c]⟩ = s.data.toList.count c := Lib.count_one c s.data.toList
  have htl : tlZ (Lib.splitB ⟨#[c]⟩ 0 (Lib.countB s ⟨#[c]⟩) s) = Lib.splitK [c] 0 (Lib.countB s ⟨#[c]⟩) s.data.toList := Lib.splitB_data ⟨#[c]⟩ 0 _ s
  obtain ⟨g1, g2⟩ := splitK_join c (Lib.countB s ⟨#[c]⟩) s.data.toList
  obtain ⟨h1, h2, h3⟩ := splitS_ok s c
  rcases splitK_no c (Lib.countB s ⟨#[c]⟩) s.data.toList with h | h
  · rw [← htl] at g1 g2 h
    exact tlZ_inj (join_uniq g1 h1 h h2 (by rw [g2, h3]))
  · omega
theorem split_count (s : ByteArray) (c : UInt8) : Lib.countB s ⟨#[c]⟩ + 1 = (splitS s c).length := by
  have hcn : Lib.countB s ⟨#[c]⟩ = s.data.toList.count c := Lib.count_one c s.data.toList
  obtain ⟨h1, h2, h3⟩ := splitS_ok s c
  have hln : (tlZ (splitS s c)).length = (splitS s c).length := by simp [tlZ]
  rcases count_join h2 with h | h
  · rw [h3] at h; omega
  · exact absurd h h1
theorem join_mem_le (c : UInt8) : ∀ (P : List (List UInt8)) (p : List UInt8), p ∈ P → p.length ≤ (Lib.join P [c]).length
  | [], p, h => by cases h
  | [x], p, h => by rw [Lib.join_one]; rw [List.mem_singleton] at h; rw [h]; exact Nat.le_refl _
  | x :: y :: r, p, h => by
    rw [join_two, List.length_append, List.length_cons]
    rcases List.mem_cons.1 h with h | h
    · rw [h]; omega
    · have := join_mem_le c (y :: r) p h; omega
theorem part_size {s p : ByteArray} {c : UInt8} (h : p ∈ splitS s c) : p.size ≤ s.size := by
  have h1 := join_mem_le c (tlZ (splitS s c)) p.data.toList (List.mem_map.2 ⟨p, h, rfl⟩)
  rw [(splitS_ok s c).2.2, size_l, size_l] at h1
  exact h1
theorem part9_size {s p : ByteArray} (h : p ∈ parts9 s) : p.size ≤ s.size := by
  have htl : tlZ (parts9 s) = Lib.splitK [47] 0 (min 9 (s.size + 1) - 1) s.data.toList := Lib.splitB_data ⟨#[47]⟩ 0 _ s
  have h1 := join_mem_le 47 (tlZ (parts9 s)) p.data.toList (List.mem_map.2 ⟨p, h, rfl⟩)
  rw [htl, (splitK_join 47 _ s.data.toList).2, size_l, size_l] at h1
  exact h1
theorem split_len (s : ByteArray) (c : UInt8) : (splitS s c).length ≤ s.size + 1 := by
  unfold splitS
  rw [List.length_append]
  have := spB_len s c s.size
  simp; omega
theorem keepGAD {r : Option Nat} {wr W : World} {S : World → Prop} {o : Obj} (hS : ∀ W', wr.grownBy W' r → S W') (h : wr.grownBy W r) : wr.grownBy (W.alloc o).drew r ∧ S (W.alloc o).drew := ⟨only_drew (only_alloc h o), hS _ (only_drew (only_alloc h o))⟩
/-- what has been read so far -/
structure RdSt (w0 wr : World) (o : Value) (k : Nat) (P : List ByteArray) (rs ds : List Rg) : Prop where
  po : PartOw w0 wr o k rs ds
  len : rs.length = k
  pd : PartsD (P.take k) (rs.map Rg.dat)
  fit : ∀ x ∈ rs, x.n ≤ 1048576 ∧ x.near.length = x.n
theorem RdSt.next {w0 wr wa X w2 : World} {k d m : Nat} {v v2 : Value} {D : Option Addr} {rs ds : List Rg} {P : List ByteArray} {p id : ByteArray} {lv : Int} {near : List ByteArray} (h : RdSt w0 wr v k P rs ds) (hp : P[k]? = some p) (hd : PartD p (id, lv, near)) (hm : near.length = m) (hm2 : m ≤ 1048576)
    (hb : Below wr.heap.size wr wa) (ho : Own wa wr.heap.size wa.heap.size 9 1 (.slice D m d) m (strs near)) (hX : Below wa.heap.size wa X) (ho2 : w2.ownsRow w0.heap.size 38 3 v2 (k + 1) (rgs ds ++ [.string id, .int .i64 lv, .slice D m d])) (hg : X.grownBy w2 v.ownBlock) :
    RdSt w0 w2 v2 (k + 1) P (rs ++ [⟨id, lv, none, m, 0, near⟩]) (ds ++ [⟨id, lv, D, m, d, near⟩]) := by
  have h0 : PartOw w0 wr v k (rs ++ [⟨id, lv, none, m, 0, near⟩]) ds := ⟨h.po.row, h.po.len, by rw [List.take_append_of_le_length (by rw [h.len]; exact Nat.le_refl _)]; exact h.po.dat, h.po.inn, h.po.pw, h.po.bel⟩
  have hx : (rs ++ [⟨id, lv, none, m, 0, near⟩])[k]? = some ⟨id, lv, none, m, 0, near⟩ := by rw [← h.len]; simp
  refine ⟨h0.step hx hb ho hX ho2 hg, by simp [h.len], ?_, ?_⟩
  · rw [List.take_add_one, hp, List.map_append]
    exact h.pd.snoc hd
  · intro x hx
    rcases List.mem_append.1 hx with hx | hx
    · exact h.fit x hx
    · rw [List.mem_singleton] at hx; subst hx; exact ⟨hm2, hm⟩
theorem RdSt.all {w0 wr : World} {n c : Nat} {A : Option Addr} {rs ds : List Rg} {P : List ByteArray} (h : RdSt w0 wr (.slice A n c) n P rs ds) (hl : P.length = n) : OwnRegs wr w0.heap.size wr.heap.size (.slice A n c) n ds ∧ PartsD P (ds.map Rg.dat) ∧ ∀ x ∈ ds, x.n ≤ 1048576 := by
  obtain ⟨h1, h2⟩ := h.po.done h.len
  have h3 := h.pd
  rw [List.take_of_length_le (by omega)] at h3
  refine ⟨h1, by rw [h2]; exact h3, fun x hx => ?_⟩
  obtain ⟨y, hy, e2⟩ := dat_mem h2 hx
  have g1 : x.near.length = x.n := (Own.reads (h1.inn x hx)).strLen
  obtain ⟨g2, g3⟩ := h.fit y hy
  have g4 : y.near = x.near := congrArg (fun q => q.2.2) e2
  rw [g4] at g3
  omega
def RRPost (v : List Dat × Bool) (w : World) (e : Ending) (w' : World) : Prop :=
  ∃ A n c rs, e = .returned (.tuple #[.slice A n c, .bool v.2]) ∧ OwnRegs w' w.heap.size w'.heap.size (.slice A n c) n rs ∧ rs.map Rg.dat = v.1 ∧ n ≤ 1048576 ∧ (∀ x ∈ rs, x.n ≤ 1048576) ∧ Below w.heap.size w w'
theorem RRPost.nil {v : List Dat × Bool} {b : Bool} {w w' : World} (hv : v = ([], b)) (hb : Below w.heap.size w w') : RRPost v w (.returned (.tuple #[.slice none 0 0, .bool b])) w' := by
  subst hv
  exact ⟨none, 0, 0, [], rfl, ⟨Own.nil, fun x hx => by simp at hx, fun x hx => by simp at hx, List.Pairwise.nil⟩, rfl, by simp, fun x hx => by simp at hx, hb⟩
theorem two_words {p : ByteArray} {d : Dat} (h : splitS p 32 = wordsD d) : 2 ≤ (splitS p 32).length := by rw [h]; simp [wordsD]
theorem l18Ok_e (A : Option Addr) (n c BA : Nat) (rs : List Rg) (w : World) (ha : Regs w BA A n rs) (hx : ∀ x ∈ rs, x.n ≤ 1048576) (hn : n ≤ 2000000) :
    Calls Tryd.prog 15 #[.slice A n c] w fun e w' => e = .returned (.bool (validD (rs.map Rg.dat))) ∧ Below w.heap.size w w' := by
  by_cases h8 : n ≤ 8
  · exact l18Ok_d A n c BA rs w ha hx (by omega)
  · have hl := ha.len
    have HV : Hid (validD (rs.map Rg.dat) = false) := Lib.hid (by
      cases h : validD (rs.map Rg.dat)
      · rfl
      · have := validD_len h; omega)
    have h8' : (8 : Int) < (n : Int) := by omega
    clear ha hx hl
    go_enter Tryd.func15, Tryd.ntmps15
    go_wp2
    go_ret
    exact ⟨by rw [HV.out]; rfl, Below.refl _ _⟩
set_option maxHeartbeats 4000000 in
set_option maxRecDepth 100000 in
theorem l18Read_c (s : ByteArray) (hs : s.size ≤ 1048576) (w : World) : Calls Tryd.prog 22 #[.string s] w (RRPost (rrV s) w) := by
  have HEM := Lib.hid (empT s)
  have O1 : Hid ((w.alloc (.cells #[] 38)).ownsRow w.heap.size 38 3 (.slice (some ⟨w.heap.size, 0, none⟩) 0 0) 0 (rgs [])) := Lib.hid (World.ownsRow_lit (w := w) (base := w.heap.size) (e := 38) (size := 3) #[] 0 (Nat.le_refl _) (by simp [maxLen]) (by simp))
  have B1 : Hid (Below w.heap.size w (w.alloc (.cells #[] 38))) := Lib.hid ((Below.refl _ _).alloc (Nat.le_refl _) _)
  by_cases h0 : s.size = 0
  · have hd : (s.toList == []) = true := by rw [HEM.out]; simpa using h0
    have HV := Lib.hid (rrV_nil h0)
    clear h0
    go_enter Tryd.func22, Tryd.ntmps22
    go_wp2
    go_ret2
    refine ⟨some ⟨w.heap.size, 0, none⟩, 0, 0, [], by rw [HV.out]; rfl, ⟨Own.of_owns O1.out (Nat.le_refl _), fun x hx => by simp at hx, fun x hx => by simp at hx, List.Pairwise.nil⟩, by rw [HV.out]; rfl, by omega, fun x hx => by simp at hx, B1.out⟩
  · have hd : (s.toList == []) = false := by rw [HEM.out]; simpa using h0
    have HSP := Lib.hid (show Calls Tryd.prog 45 #[.string s, .int .u8 47] (w.alloc (.cells #[] 38)) (SPost (splitS s 47) (w.alloc (.cells #[] 38))) from l01Split_c s 47 (w.alloc (.cells #[] 38)) hs)
    have HSW := Lib.hid (fun (p : ByteArray) (hp : p.size ≤ 1048576) W => (show Calls Tryd.prog 45 #[.string p, .int .u8 32] W (SPost (splitS p 32) W) from l01Split_c p 32 W hp))
    have HDONE := Lib.hid (fun L (h : PartsD (splitS s 47) L) => ref_done h0 h)
    have HBAD := Lib.hid (fun p (hp : p ∈ splitS s 47) h => ref_bad h0 hp h)
    have HPS := Lib.hid (fun p (hp : p ∈ splitS s 47) => (show p.size ≤ 1048576 from Nat.le_trans (part_size hp) hs))
    have hlen : (splitS s 47).length ≤ 1048577 := by have := split_len s 47; omega
    generalize rrV s = V at *
    generalize splitS s 47 = P at *
    clear h0
    go_enter Tryd.func22, Tryd.ntmps22
    go_wp2_with fail
    refine HSP.out.mono ?_
    rintro e w1 ⟨A1, c1, rfl, OL, BL⟩
    have hw1 : (w.alloc (.cells #[] 38)).heap.size = w.heap.size + 1 := by simp
    have HB1 := Lib.hid (B1.out.trans (BL.mono (by omega)))
    have HL1 : Hid (Own w1 w.heap.size w1.heap.size 9 1 (.slice A1 P.length c1) P.length (strs P)) := Lib.hid (OL.widen (by omega) (Nat.le_refl _))
    have HR1 : Hid (RdSt w w1 (.slice (some ⟨w.heap.size, 0, none⟩) 0 0) 0 P [] []) := Lib.hid ⟨⟨owns_belZ O1.out BL (Nat.le_refl _), rfl, rfl, fun x hx => by simp at hx, List.Pairwise.nil, HB1.out⟩, rfl, .nil, fun x hx => by simp at hx⟩
    clear OL BL HSP O1 B1 hw1
    go_wp2
    go_loopw [4, 6] (fun ov iv wr => ∃ (k : Nat) (rs ds : List Rg), k ≤ P.length ∧ iv = .int .i64 k ∧ Hid (RdSt w wr ov k P rs ds) ∧ Hid (Own wr w.heap.size w1.heap.size 9 1 (.slice A1 P.length c1) P.length (strs P)) ∧ Hid (Below w.heap.size w wr) ∧ w1.heap.size ≤ wr.heap.size) (fun _ iv _ => P.length - (intOf iv).toNat)
    case atStart => exact ⟨0, [], [], Nat.zero_le _, rfl, HR1, HL1, HB1, Nat.le_refl _⟩
    case round =>
      clear HL1 HB1 HR1
      obtain ⟨k, rs, ds, hk, rfl, HR, HL, HB, hw1o⟩ := hrel
      generalize wr = wo at *
      by_cases hlt : k < P.length
      · obtain ⟨ad1, p, rfl, _, hp, cp⟩ := HL.out.reads.str hlt
        have HP := Lib.hid hp
        have HPM := Lib.hid (List.mem_of_getElem? hp)
        have hps := HPS.out p HPM.out
        have hkn : (k : Int) < (P.length : Int) := by omega
        have hk0 : (0 : Int) ≤ (k : Int) := by omega
        clear hp
        go_wp2_with fail
        refine (HSW.out p hps wo).mono ?_
        rintro e w2 ⟨A2, c2, rfl, O2, B2⟩
        have HB2 := Lib.hid (HB.out.trans (B2.mono HB.out.size))
        have HW2 := Lib.hid O2
        have HBW := Lib.hid B2
        have hwl := split_len p 32
        have HNO := Lib.hid (fun (h : ∀ d : Dat, 1 ≤ d.2.1 ∧ d.2.1 ≤ 5 → splitS p 32 ≠ wordsD d) => HBAD.out p HPM.out h)
        have HPD : Hid (∀ (d : Dat) lv, splitS p 32 = d.1 :: lv :: d.2.2 → digD lv d.2.1 → PartD p d) := Lib.hid (fun d lv h1 h2 => ⟨lv, h1, h2⟩)
        have H2W := Lib.hid (fun (d : Dat) (h : splitS p 32 = wordsD d) => two_words h)
        have HWS := Lib.hid (fun q (hq : q ∈ splitS p 32) => (show q.size ≤ 1048576 from Nat.le_trans (part_size hq) hps))
        generalize splitS p 32 = ws at *
        clear O2 B2 cp
        by_cases h2 : ws.length < 2
        · have h2' : (ws.length : Int) < 2 := by omega
          have HV := Lib.hid (HNO.out (fun d _ e => by have := H2W.out d e; omega))
          go_wp2
          go_ret2
          exact RRPost.nil HV.out HB2.out
        · have h2' : ¬ (ws.length : Int) < 2 := by omega
          obtain ⟨id, lvt, near, rfl⟩ : ∃ a b l, ws = a :: b :: l := by
            match ws, h2 with
            | a :: b :: l, _ => exact ⟨a, b, l, rfl⟩
            | [a], h => simp at h
            | [], h => simp at h
          have hm : (id :: lvt :: near).length = near.length + 2 := rfl
          rw [hm] at HW2 hwl h2' ⊢
          obtain ⟨g2, rfl, hg1, hg2, hg3⟩ := HW2.out.at_ (by omega)
          obtain ⟨A', c', ec, hc1, hc2⟩ := HW2.out.slice
          obtain ⟨rfl⟩ : c' = c2 := by injection ec with _ _ e; exact e.symm
          have cw0 : w2.cell? ⟨g2, 0, none⟩ = some (.string id) := HW2.out.1.cellAt 0 (by omega)
          have cw1 : w2.cell? ⟨g2, 1, none⟩ = some (.string lvt) := HW2.out.1.cellAt 1 (by omega)
          go_wp2_with fail
          refine (l01Number_c lvt w2 (HWS.out lvt (by simp))).mono ?_
          rintro e w3 ⟨z, b, rfl, hz1, hz2, rfl⟩
          cases b
          · have HV := Lib.hid (HNO.out (fun d hd e => by
              have e2 : id :: lvt :: near = d.1 :: decZ d.2.1 :: d.2.2 := e
              injection e2 with _ e2
              injection e2 with e2 _
              exact hz2 rfl _ hd e2))
            go_wp2
            go_ret2
            exact RRPost.nil HV.out HB2.out
          · have HDG := Lib.hid (hz1 rfl)
            clear hz1 hz2 HNO H2W HWS h2 cw1
            have HPN := Lib.hid (HPD.out (id, z, near) lvt rfl HDG.out)
            obtain ⟨i0, hi, hz, hs, hb⟩ := info_parts info_str
            obtain ⟨i1, hi1, hz1, hs1, hb1⟩ := info_parts info_rg
            have HI := Lib.hid (And.intro hi (And.intro hz (And.intro hs hb)))
            have HJ := Lib.hid (And.intro hi1 (And.intro hz1 (And.intro hs1 hb1)))
            clear hi hz hs hb hi1 hz1 hs1 hb1
            have HRO : Hid (Own w2 w.heap.size wo.heap.size 38 3 u4 k (rgs ds)) := Lib.hid ((Own.of_owns HR.out.po.row (Nat.le_refl _)).below HBW.out (Nat.le_refl _))
            have HS : Hid (∀ W', w2.grownBy W' u4.ownBlock → W'.cell? ⟨g2, 0, none⟩ = some (.string id)) := Lib.hid fun W' hW => (HW2.out.grownBy hW (fun g hg e => own_types_ne HW2.out HRO.out (by decide) hg e.symm)).1.cellAt 0 (by omega)
            have O1 : Hid ((w2.alloc (.cells #[] 9)).drew.ownsRow w2.heap.size 9 1 (.slice (some ⟨w2.heap.size, 0, none⟩) 0 0) 0 (strs [])) := Lib.hid (show (w2.alloc (.cells #[] 9)).ownsRow w2.heap.size 9 1 (.slice (some ⟨w2.heap.size, 0, none⟩) 0 0) 0 (strs []) from World.ownsRow_lit (w := w2) (base := w2.heap.size) (e := 9) (size := 1) #[] 0 (Nat.le_refl _) (by simp [maxLen]) (by simp))
            have HRN : Hid (Reads (w2.alloc (.cells #[] 9)).drew (w2.heap.size) 1 (if c2 = 2 then some ⟨g2, 0, none⟩ else some ⟨g2, 2, none⟩) near.length (strs near)) := Lib.hid (by
              have h := (HW2.out.reads.cut (k := 2) (cap := c2) (by omega) (by omega)).alloc (Nat.le_refl _) (.cells #[] 9)
              exact h)
            have hG := World.grownBy.refl w2 u4.ownBlock
            have hn0 : (0 : Int) < (near.length : Int) + 2 := by omega
            have hwo := HB.out.size
            have hnl : near.length ≤ 1048576 := by omega
            have hBW := HBW.out.size
            have HFIN : Hid (∀ wa D d v2 w5, Below w2.heap.size w2 wa → Own wa w2.heap.size wa.heap.size 9 1 (.slice D near.length d) near.length (strs near) → w5.ownsRow w.heap.size 38 3 v2 (k + 1) (rgs ds ++ [.string id, .int .i64 z, .slice D near.length d]) → (wa.alloc (.cells #[.string id, .int .i64 z, .slice D near.length d] 38)).grownBy w5 u4.ownBlock →
                RdSt w w5 v2 (k + 1) P (rs ++ [⟨id, z, none, near.length, 0, near⟩]) (ds ++ [⟨id, z, D, near.length, d, near⟩]) ∧ Own w5 w.heap.size w1.heap.size 9 1 (.slice (some ad1) P.length c1) P.length (strs P)) := Lib.hid (by
              intro wa D d v2 w5 HB4 HO4 O5 G5
              have hs4 := HB4.size
              have hx : Below wo.heap.size wo wa := HBW.out.trans (HB4.mono hBW)
              have hX : Below wa.heap.size wa (wa.alloc (.cells #[.string id, .int .i64 z, .slice D near.length d] 38)) := (Below.refl wa.heap.size wa).alloc (Nat.le_refl _) _
              have hrow : Own (wa.alloc (.cells #[.string id, .int .i64 z, .slice D near.length d] 38)) w.heap.size wo.heap.size 38 3 u4 k (rgs ds) := (HRO.out.below HB4 hBW).below hX (by omega)
              have hl : Own (wa.alloc (.cells #[.string id, .int .i64 z, .slice D near.length d] 38)) w.heap.size w1.heap.size 9 1 (.slice (some ad1) P.length c1) P.length (strs P) := (HL.out.below hx hw1o).below hX (by omega)
              exact ⟨HR.out.next HP.out HPN.out rfl hnl hx (HO4.widen hBW (Nat.le_refl _)) hX O5 G5, hl.grownBy G5 (fun g hg e => own_types_ne hl hrow (by decide) hg e.symm)⟩)
            go_upto_region 14 with (fail)
            go_region_held3 (fun w' => w2.grownBy w' u4.ownBlock ∧ w'.cell? ⟨g2, 0, none⟩ = some (.string id))
              (first | exact keepGL HS.out (by assumption) (by first | assumption | exact And.left (by assumption)) | exact keepGB HS.out (by assumption) (by first | assumption | exact And.left (by assumption)) | exact keepGD HS.out (by assumption) | exact keepGA HS.out (by first | assumption | exact And.left (by assumption)) | exact keepGAD HS.out (by first | assumption | exact And.left (by assumption)) | exact keepGG HS.out (by assumption) (by first | assumption | exact And.left (by assumption)) | (go_keep; done))
              (first
                | (refine step_append_any _ (by rfl) (.tmp 44) (.tmp 46) _ (by rfl) w2.heap.size 9 i0 _ 1 16 Tryd.underlying34 HI.out.1 HI.out.2.1 HI.out.2.2.1 HI.out.2.2.2 rfl (by omega) _ 0 (strs []) (by rfl) O1.out w2.heap.size _ near.length (c2 - 2) (strs near) (by rfl) HRN.out (strs_one near) (by simp [maxLen]; omega) (by omega) (by simp) ?_
                   intro va wa O4 G4 h4
                   rw [Nat.zero_add] at O4
                   have BKa : Below w2.heap.size (w2.alloc (.cells #[] 9)).drew wa := (Below.refl _ _).grown G4 (by simp) (fun q hq => (O1.out.lt q hq).1)
                   have HB4 : Hid (Below w2.heap.size w2 wa) := Lib.hid (((Below.refl _ _).alloc (Nat.le_refl _) _).drew.trans BKa)
                   obtain ⟨D, d, hva, _, _⟩ := (Own.of_owns O4 (Nat.le_refl _)).slice
                   subst hva
                   have HO4 : Hid (Own wa w2.heap.size wa.heap.size 9 1 (.slice D near.length d) near.length (strs near)) := Lib.hid (by have h := Own.of_owns O4 (Nat.le_refl _); simpa [strs] using h)
                   have HO6 : Hid (∀ o, (wa.alloc o).ownsRow w.heap.size 38 3 u4 k (rgs ds)) := Lib.hid (fun o => owns_al (HRO.out.below HB4.out (by omega)).1 o))
                | (refine step_append_any _ (by rfl) (.tmp 39) (.tmp 49) _ (by rfl) w.heap.size 38 i1 _ 3 48 Tryd.underlying25 HJ.out.1 HJ.out.2.1 HJ.out.2.2.1 HJ.out.2.2.2 rfl (by omega) _ k (rgs ds) (by rfl) (HO6.out _) (wa.heap.size + 1) (some ⟨wa.heap.size, 0, none⟩) 1 1 [.string id, .int .i64 z, .slice D near.length d] (by rfl) (reads_one wa 38 [.string id, .int .i64 z, .slice D near.length d]) (by simp [Value.oneCell']) (by simp [maxLen]; omega) (by omega) (by have := HB4.out.size; simp; omega) ?_
                   intro v2 w5 O5 G5 h5
                   have HST := Lib.hid (HFIN.out wa D d v2 w5 HB4.out HO4.out O5 G5)
                   have hs5 : w1.heap.size ≤ w5.heap.size := by have h6 := HB4.out.size; have h7 := G5.size; simp at h7; omega)
                | fail "no arm")
            have HST1 := Lib.hid HST.out.1
            have HST2 := Lib.hid HST.out.2
            have HB5 := Lib.hid HST.out.1.po.bel
            clear HS O1 HRN HFIN HO4 HO6 HB4 HST HRO HW2 HPN hG HI HJ
            go_wp2
            go_roundw
            case rel => exact ⟨k + 1, _, _, by omega, by go_num, HST1, HST2, HB5, hs5⟩
            case measure => simp [intOf]; omega
      · obtain rfl : k = P.length := by omega
        obtain ⟨A2, c2, hv', _, _⟩ := (Own.of_owns HR.out.po.row (Nat.le_refl _)).slice
        subst hv'
        obtain ⟨h1, h2, h3⟩ := HR.out.all rfl
        have HO := Lib.hid h1
        have HX := Lib.hid h3
        have HV := Lib.hid (HDONE.out _ h2)
        clear h1 h2 h3 HR HL
        go_wp2_with fail
        refine (l18Ok_e A2 P.length c2 _ ds wo HO.out.regs HX.out (by omega)).mono ?_
        rintro e w5 ⟨rfl, B5⟩
        have HB5 := Lib.hid (HB.out.trans (B5.mono HB.out.size))
        have HO5 := Lib.hid (HO.out.below B5 (Nat.le_refl _))
        have hs5 := B5.size
        clear B5
        cases hv : validD (ds.map Rg.dat)
        · rw [hv, if_neg (by decide)] at HV
          go_wp2
          go_ret2
          exact RRPost.nil HV.out HB5.out
        · rw [hv, if_pos rfl] at HV
          have hn8 : P.length ≤ 8 := by have := validD_len hv; have := HO.out.row.1.1; rw [rgs_len] at this; omega
          go_wp2
          go_ret2
          exact ⟨A2, P.length, c2, ds, by rw [HV.out]; rfl, HO5.out.widen (Nat.le_refl _) hs5, by rw [HV.out], by omega, HX.out, HB5.out⟩
end Go.Proofs.YteklfeeamjgplaaDoor
