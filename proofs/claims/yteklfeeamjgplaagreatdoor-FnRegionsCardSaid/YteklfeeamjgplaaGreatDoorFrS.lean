/- FnRegions: the law's walk. -/
import Derived.Test.YteklfeeamjgplaaGreatDoorFrH
import Derived.Test.YteklfeeamjgplaaGreatDoorFrR
import Derived.Test.YteklfeeamjgplaaGreatDoorRtJ
import Derived.Test.YteklfeeamjgplaaGreatDoorRtF
import Derived.Test.YteklfeeamjgplaaGreatDoorJnG
import Derived.Test.YteklfeeamjgplaaGreatDoorRgV
import Derived.Test.YteklfeeamjgplaaGreatDoorRgW
import Derived.Deep.DeepCutAuto
namespace Go.Proofs.YteklfeeamjgplaaGreatDoor
open Go.ChangeShapes Go.WideShapes Go.ChangeAt Go.RowKit
set_option linter.unusedVariables false
theorem make_i64 (n : Nat) (hn : n ≤ 1048576) (W : World) : (Instr.makeSlice 31 (.int .i64 (n : Int)) (.int .i64 (n : Int))).run Tryz.prog W = .ok (.slice (some ⟨W.heap.size, 0, none⟩) n n) (W.alloc (.cells (madeCells #[.int .i64 0] n) 2)) := by
  obtain ⟨i0, hi, hz, hs, hb⟩ := info_parts info_i64
  have h := run_make_rowN (P := Tryz.prog) 31 2 i0 _ Tryz.underlying31 hi hz .i64 .i64 n n (Nat.le_refl _) (by rw [hb]; omega) (by omega) W
  rw [hs, Nat.mul_one] at h
  exact h
theorem made_own (n : Nat) (hn : n ≤ 1048576) (W : World) : Own (W.alloc (.cells (madeCells #[.int .i64 0] n) 2)) W.heap.size (W.heap.size + 1) 2 1 (.slice (some ⟨W.heap.size, 0, none⟩) n n) n (ints (List.replicate n 0)) := by
  have h := Own.of_blk (lo := W.heap.size) (hi := W.heap.size + 1) (n := n) (s := 1) (Blk.new W 2 (madeCells #[.int .i64 0] n)) (by simp [madeCells]) (Nat.le_refl _) (Nat.lt_succ_self _) (by simp [maxLen]; omega)
  have e : (madeCells #[.int .i64 0] n).toList = ints (List.replicate n 0) := by simp [madeCells, ints, Nat.mod_one, List.map_const']
  rw [e] at h
  exact h
theorem names7_small {s : ByteArray} (h : s ∈ names7) : ¬ 1048576 < s.size := by
  unfold names7 at h
  simp only [List.mem_cons, List.not_mem_nil, or_false] at h
  rcases h with rfl | rfl | rfl | rfl | rfl | rfl | rfl <;> decide
/-- the row of marks while it is written -/
structure MK (X w : World) (ss : List (List Int)) (k j n : Nat) (at_ : List Int) : Prop where
  own : Own w X.heap.size (X.heap.size + 1) 2 1 (.slice (some ⟨X.heap.size, 0, none⟩) n n) n (ints at_)
  at_ : AtI ss k j n at_
  bel : Below X.heap.size X w
theorem MK.start (X : World) (ss : List (List Int)) (n : Nat) (hn : n ≤ 1048576) : MK X (X.alloc (.cells (madeCells #[.int .i64 0] n) 2)) ss 0 0 n (List.replicate n 0) :=
  ⟨made_own n hn X, AtI.start ss n, (Below.refl _ _).alloc (Nat.le_refl _) _⟩
theorem MK.more {X w w' : World} {ss : List (List Int)} {k j n : Nat} {a : List Int} (h : MK X w ss k j n a) (hb : Below w.heap.size w w') : MK X w' ss k j n a :=
  ⟨h.own.below hb (h.own.1.lt X.heap.size (by simp [Value.ownBlock])).2, h.at_, h.bel.trans (hb.mono h.bel.size)⟩
theorem MK.next {X w : World} {ss : List (List Int)} {k n : Nat} {q : List Int} {a : List Int} (h : MK X w ss k q.length n a) (hq : ss[k]? = some q) : MK X w ss (k + 1) 0 n a := ⟨h.own, h.at_.next hq, h.bel⟩
theorem MK.get {X w : World} {ss : List (List Int)} {k j n i : Nat} {a : List Int} (h : MK X w ss k j n a) (hi : i < n) : ∃ v, a[i]? = some v ∧ w.cell? ⟨X.heap.size, i, none⟩ = some (.int .i64 v) := ownInt h.own hi
theorem MK.set {X w : World} {ss : List (List Int)} {k j n b : Nat} {q : List Int} {a : List Int} (h : MK X w ss k j n a) (hq : ss[k]? = some q) (hz : q[j]? = some (b : Int)) (hb : b < n) (nq : Nat) :
    MK X ((w.drewN nq).setCell ⟨X.heap.size, b, none⟩ (.int .i64 ((k : Int) + 1))) ss k (j + 1) n (a.set b ((k : Int) + 1)) ∧ Only X.heap.size (X.heap.size + 1) w ((w.drewN nq).setCell ⟨X.heap.size, b, none⟩ (.int .i64 ((k : Int) + 1))) := by
  have h1 := (h.own.drewN nq).stored (j := b) (.int .i64 ((k : Int) + 1))
  have e : (ints a).set b (.int .i64 ((k : Int) + 1)) = ints (a.set b ((k : Int) + 1)) := by simp [ints, List.map_set]
  rw [e] at h1
  have hy : Only X.heap.size (X.heap.size + 1) (w.drewN nq) ((w.drewN nq).setCell ⟨X.heap.size, b, none⟩ (.int .i64 ((k : Int) + 1))) := only_set _ ⟨X.heap.size, b, none⟩ _
  exact ⟨⟨h1.1, h.at_.set hq hz hb, (below_drewN h.bel nq).setCell (Nat.le_refl _) _⟩, ⟨hy.os, hy.tape, hy.output, hy.size, hy.block⟩⟩
theorem sets_own {w : World} {lo hi m d i : Nat} {D : Option Addr} {l : List GRow} {ss : List (List Int)} (h : OwnG 31 2 w lo hi (.slice D m d) m l) (hl : l.map GRow.xs = ss.map ints) (hi' : i < m) :
    ∃ (g : Nat) (xA : Option Addr) (xn xc : Nat) (q : List Int), D = some ⟨g, 0, none⟩ ∧ ss[i]? = some q ∧ w.cell? ⟨g, i, none⟩ = some (.slice xA xn xc) ∧ Own w lo hi 2 1 (.slice xA xn xc) xn (ints q) ∧ q ∈ ss := by
  obtain ⟨g, x, hD, _, _, hx, hc, ho⟩ := h.at_ hi'
  have h1 : (l.map GRow.xs)[i]? = some x.xs := by simp [hx]
  rw [hl, List.getElem?_map, Option.map_eq_some_iff] at h1
  obtain ⟨q, hq, e⟩ := h1
  rw [← e] at ho
  exact ⟨g, x.A, x.n, x.c, q, hD, hq, hc, ho, List.mem_of_getElem? hq⟩
theorem group_ok (A : Option Addr) (n c BA : Nat) (rs : List Rg) (id : ByteArray) (v : List ByteArray × Int) (hv : groupV (rs.map Rg.dat) id = v) (w : World) (ha : Regs w BA A n rs) (hB : BA ≤ w.heap.size) (hx : ∀ x ∈ rs, x.n ≤ 1048576) (hn : n ≤ 1048576) (hi : ¬ 1048576 < id.size) :
    Calls Tryz.prog 9 #[.slice A n c, .string id] w (StrsPost v w) := by rw [← hv]; exact iGroupOf_d A n c BA rs id w ha hB hx hn hi
theorem inside_ok (A : Option Addr) (n c BA : Nat) (l : List ByteArray) (v : ByteArray) (b : Bool) (hb : nearV l v = b) (w : World) (ha : Reads w BA 1 A n (strs l)) (hn : n ≤ 1048576) :
    Calls Tryz.prog 10 #[.slice A n c, .string v] w fun e w' => e = .returned (.bool b) ∧ Below w.heap.size w w' := by
  subst hb
  refine (b10Inside_c A n c BA l v w ha hn).mono ?_
  rintro e w' ⟨rfl, rfl⟩
  exact ⟨rfl, Below.refl _ _⟩
theorem read_ok (s : ByteArray) (ds : List Dat) (hv : rrV s = (ds, true)) (hs : s.size ≤ 1048576) (w : World) (he : Env w) : Calls Tryz.prog 11 #[.string s] w (RRPost (ds, true) w) := by rw [← hv]; exact iReadRegions_c s hs w he
theorem spread_ok (A : Option Addr) (n c BA : Nat) (rs : List Rg) (id : ByteArray) (v : List Dat × Int) (hv : spreadV (rs.map Rg.dat) id = v) (w : World) (ha : Regs w BA A n rs) (hB : BA ≤ w.heap.size) (hx : ∀ x ∈ rs, x.n ≤ 1048576) (hn : n ≤ 1048576) (hi : ¬ 1048576 < id.size) :
    Calls Tryz.prog 15 #[.slice A n c, .string id] w (RegsPost v w) := by rw [← hv]; exact iSpreadLevel_d A n c BA rs id w ha hB hx hn hi
theorem merge_ok (A : Option Addr) (n c BA : Nat) (rs : List Rg) (D : Option Addr) (m d BD : Nat) (ss : List Rg) (v : List Dat × Int) (hv : mergeV (rs.map Rg.dat) (ss.map Rg.dat) = v) (w : World) (ha : Regs w BA A n rs) (hA : BA ≤ w.heap.size) (hx : ∀ x ∈ rs, x.n ≤ 1048576) (hn : n ≤ 1048576)
    (hd : Regs w BD D m ss) (hD : BD ≤ w.heap.size) (hy : ∀ x ∈ ss, x.n ≤ 1048576) (hm : m ≤ 1048576) :
    Calls Tryz.prog 16 #[.slice A n c, .slice D m d] w (RegsPost v w) := by rw [← hv]; exact iMergeRegions_d A n c BA rs D m d BD ss w ha hA hx hn hd hD hy hm
theorem valid_ok (A : Option Addr) (n c BA : Nat) (rs : List Rg) (hv : validD (rs.map Rg.dat) = true) (w : World) (ha : Regs w BA A n rs) (hB : BA ≤ w.heap.size) (hx : ∀ x ∈ rs, x.n ≤ 1048576) (hn : n ≤ 1048576) :
    Calls Tryz.prog 18 #[.slice A n c] w fun e w' => e = .returned (.bool true) ∧ Below w.heap.size w w' := by rw [← hv]; exact sValidRegions_d A n c BA rs w ha hB hx hn
set_option maxHeartbeats 8000000 in
set_option maxRecDepth 100000 in
theorem wRegions (w : World) (he : Env w) (A : Option Addr) (n cp : Nat) (bs : List Int) (ha : Bytes w w.heap.size A n bs) (_ : n ≤ 9223372036854775807) (D : Option Addr) (m d : Nat) (cs : List Int) (hd : Bytes w w.heap.size D m cs) (_ : m ≤ 9223372036854775807) :
    Calls Tryz.prog 3 #[.slice A n cp, .slice D m d] w fun e w' => e = .returned (.bool true) ∧ Below w.heap.size w w' := by
  have HL1 := Lib.hid (fun W => b10Long_c A n cp W)
  have HL2 := Lib.hid (fun W => b10Long_c D m d W)
  by_cases h1 : 1048576 < n
  · rw [decide_eq_true h1] at HL1
    clear ha hd h1 he
    go_enter Tryz.func3, Tryz.ntmps3
    go_wp2_with fail
    refine (HL1.out _).mono ?_
    rintro e w1 ⟨rfl, rfl⟩
    go_wp2
    go_ret
    exact ⟨rfl, Below.refl _ _⟩
  · rw [decide_eq_false h1] at HL1
    by_cases h2 : 1048576 < m
    · rw [decide_eq_true h2] at HL2
      clear ha hd h1 h2 he
      go_enter Tryz.func3, Tryz.ntmps3
      go_wp2_with fail
      refine (HL1.out _).mono ?_
      rintro e w1 ⟨rfl, rfl⟩
      go_wp2_with fail
      refine (HL2.out _).mono ?_
      rintro e w1 ⟨rfl, rfl⟩
      go_wp2
      go_ret
      exact ⟨rfl, Below.refl _ _⟩
    · rw [decide_eq_false h2] at HL2
      have hn : n ≤ 1048576 := by omega
      have hm : m ≤ 1048576 := by omega
      have HE : Hid (∀ W, Below w.heap.size w W → Env W) := Lib.hid (fun W hW => he.below hW)
      have HA := Lib.hid ha
      have HD := Lib.hid hd
      clear ha hd h1 h2 he
      go_enter Tryz.func3, Tryz.ntmps3
      go_wp2_with fail
      refine (HL1.out _).mono ?_
      rintro e w1 ⟨rfl, rfl⟩
      go_wp2_with fail
      refine (HL2.out _).mono ?_
      rintro e w1 ⟨rfl, rfl⟩
      clear HL1 HL2
      go_wp2_with fail
      refine (drawJoined_c A n cp bs w HA.out hn).mono ?_
      rintro e w1 ⟨E, k, ce, rs, rfl, OR, hk9, hfew, B1⟩
      have T1 := Lib.hid B1
      have HR1 := Lib.hid OR
      have HX : Hid (∀ x ∈ rs, x.n ≤ 1048576) := Lib.hid (fun x hx => Nat.le_trans (hfew x hx) (by omega))
      have hrk := OR.regs.len
      clear OR B1 hfew
      have hJ := iJoinedRegions_d E k ce w1.heap.size rs w1 HR1.out.regs (Nat.le_refl _) HX.out (by omega)
      have HC := Lib.hid (fun W (hW : Below w1.heap.size w1 W) => iCountBulletins_d E k ce w1.heap.size rs W (HR1.out.regs.below hW) hW.size HX.out (by omega))
      have HSV := Lib.hid (show setsV (rs.map Rg.dat) = if validD (rs.map Rg.dat) = false then ([], 1) else (joinedV (rs.map Rg.dat), 0) from rfl)
      have HCV := Lib.hid (show countV (rs.map Rg.dat) = if validD (rs.map Rg.dat) = false then (0, 1) else ((((joinedV (rs.map Rg.dat)).length : Nat) : Int), 0) from rfl)
      generalize countV (rs.map Rg.dat) = cv at *
      generalize setsV (rs.map Rg.dat) = sv at *
      obtain ⟨jn, jc⟩ := cv
      obtain ⟨ss, sc⟩ := sv
      obtain rfl : jc = sc := by
        have e1 := congrArg Prod.snd HSV.out
        have e2 := congrArg Prod.snd HCV.out
        cases hv : validD (rs.map Rg.dat) <;> rw [hv] at e1 e2 <;> exact e2.trans e1.symm
      simp only at HC
      go_wp2_with fail
      refine hJ.mono ?_
      rintro e w2 ⟨S, ns, cs2, l, rfl, OG, hl, hns, hlx, B2⟩
      have T2 := Lib.hid (T1.out.trans (B2.mono T1.out.size))
      have HR2 := Lib.hid (HR1.out.below B2 (Nat.le_refl _))
      have HG2 := Lib.hid OG
      have HLX := Lib.hid hl
      have HB12 := Lib.hid B2
      clear OG hl hlx B2 hJ
      go_wp2_with fail
      refine (HC.out _ HB12.out).mono ?_
      rintro e w3 ⟨rfl, B3⟩
      have T3 := Lib.hid (T2.out.trans (B3.mono T2.out.size))
      have hs12 := HB12.out.size
      have hs23 := B3.size
      have HR3 := Lib.hid ((HR2.out.below B3 hs12).widen (Nat.le_refl _) (Nat.le_trans hs12 hs23))
      have HG3 := Lib.hid ((HG2.out.below B3 (Nat.le_refl _)).widen (Nat.le_refl _) hs23)
      clear B3 HC HR1 HR2 HG2 T2 HB12
      go_upto_if 50 with (fail)
      go_cut [10, 11, 12, 13, 14, 15, 16, 17, 18, 19] (fun v10 v11 v12 v13 v14 v15 v16 v17 v18 v19 wx => Hid (Below w.heap.size w wx))
      case first =>
        as_aux_lemma =>
        cases hv : validD (rs.map Rg.dat)
        · obtain rfl : jc = 1 := by have e1 := congrArg Prod.snd HSV.out; rw [hv] at e1; exact e1
          clear hv
          go_wp2_with fail
          go_meet
          exact T3
        · have hss : (ss, jc) = (joinedV (rs.map Rg.dat), 0) := by rw [HSV.out, hv]; rfl
          have hnn : jn = (((joinedV (rs.map Rg.dat)).length : Nat) : Int) := by have e1 := congrArg Prod.fst HCV.out; rw [hv] at e1; exact e1
          have hjz := (Prod.mk.inj hss).2
          rw [show (jc == 0) = true by rw [hjz]; rfl]
          obtain ⟨rfl, rfl⟩ := Prod.mk.inj hss
          clear hjz
          have hlen : (joinedV (rs.map Rg.dat)).length = ns := by have h1 := congrArg List.length HLX.out; simp only [List.length_map] at h1; rw [← h1]; exact HG3.out.len
          have HLN := Lib.hid hlen
          rw [hlen] at hnn
          subst hnn
          have hvr : validR rs = true := by rw [validR_dat]; exact hv
          have HVR := Lib.hid hvr
          have HJF := Lib.hid (jfacts hvr)
          have HVD := Lib.hid hv
          have hk8 : k ≤ 8 := by have := validD_len hv; omega
          have hns8 : ns ≤ 1048576 := hns
          have hmk := fun W => make_i64 k (by omega) W
          have H0 := Lib.hid (MK.start w3 (joinedV (rs.map Rg.dat)) k (by omega))
          have HT3 := Lib.hid (fun W (hW : Below w3.heap.size w3 W) => T3.out.trans (hW.mono T3.out.size))
          clear hss hlen hvr hv HSV HCV T3 T1
          go_wp2
          clear hmk
          go_loopw [11] (fun iv wr => ∃ (i : Nat) (at_ : List Int), i ≤ ns ∧ iv = .int .i64 i ∧ Hid (MK w3 wr (joinedV (rs.map Rg.dat)) i 0 k at_)) (fun iv _ => ns - (intOf iv).toNat)
          case atStart => exact ⟨0, _, Nat.zero_le _, rfl, H0⟩
          case round =>
            clear H0
            obtain ⟨i, at_, hi, rfl, HM⟩ := hrel
            generalize wr = wo at *
            by_cases hin : i < ns
            · as_aux_lemma =>
              have hbX := HM.out.bel
              obtain ⟨gS, xA, xn, xc, q, rfl, hq, c0, ho, hqm⟩ := sets_own (HG3.out.below hbX (Nat.le_refl _)) HLX.out hin
              have hql : q.length = xn := ho.reads.len
              have hgS3 : gS < w3.heap.size := (HG3.out.row.blk_bd (g := gS) (by simp [Value.ownBlock])).2
              have hx0 : 0 < xn := by
                have := List.length_pos_iff.2 (HJF.out.ne q hqm)
                omega
              have hx8 : xn ≤ 8 := by have := joined_small (by rw [List.length_map]; omega) hqm; omega
              obtain ⟨gx, rfl, _, _, _⟩ := ho.at_ hx0
              obtain ⟨z0, hz0, _⟩ := ownInt ho hx0
              obtain ⟨a0, rfl, ha0⟩ := HJF.out.lt q hqm z0 (List.mem_of_getElem? hz0)
              rw [List.length_map, hrk] at ha0
              have hr0 : rs[a0]? = some (rs[a0]'(by omega)) := List.getElem?_eq_getElem _
              generalize rs[a0]'(by omega) = x0 at hr0
              obtain ⟨gE, rfl, _, _, _⟩ := HR3.out.row.at_ (show 0 < k by omega)
              have HSN := Lib.hid (fun W (hW : Below wo.heap.size wo W) => ho.below hW (Nat.le_trans (Nat.le_refl _) hbX.size))
              have HRW := Lib.hid (fun W (hW : Below wo.heap.size wo W) => (HR3.out.below hbX (Nat.le_refl _)).below hW hbX.size)
              have HWZ : Hid (w3.heap.size + 1 ≤ wo.heap.size) := Lib.hid (HM.out.own.1.lt w3.heap.size (by simp [Value.ownBlock])).2
              have HSX : Hid (gS < w3.heap.size ∨ w3.heap.size + 1 ≤ gS) := Lib.hid (.inl hgS3)
              have hxz : ((xn : Int) == 0) = false := by rw [beq_eq_false_iff_ne]; omega
              have hxp : (0 : Int) < (xn : Int) := by omega
              have hii : (i : Int) < (ns : Int) := by omega
              have hi0 : (0 : Int) ≤ (i : Int) := by omega
              have hrise := b10Rises_c (some ⟨gx, 0, none⟩) xn xc _ _ k q wo ho (by omega) (by omega) (HJF.out.asc q hqm) (fun z hz => by
                obtain ⟨a, rfl, ha⟩ := HJF.out.lt q hqm z hz
                rw [List.length_map, hrk] at ha
                omega)
              have hgid : dId (rs.map Rg.dat) a0 = x0.id := dId_get hr0
              have HGV : Hid (groupV (rs.map Rg.dat) x0.id = (idsOf (rs.map Rg.dat) q, 0)) := Lib.hid (by rw [← hgid]; exact group_of HVR.out hq (List.mem_of_getElem? hz0))
              have hids : ¬ 1048576 < x0.id.size := by
                have := ((valid_dat HVD.out).2 x0.dat (List.mem_map_of_mem (List.mem_of_getElem? hr0))).1
                unfold nameV at this
                simp at this
                have h3 : x0.id.size ≤ 10 := this.1.1.2
                omega
              have HQ := Lib.hid hq
              have HQM := Lib.hid hqm
              have HQL := Lib.hid hql
              have HZ0 := Lib.hid hz0
              have HR0 := Lib.hid hr0
              clear hq hqm hql hz0 hr0 ho hgid
              go_wp2_with fail
              refine hrise.mono ?_
              rintro e w5 ⟨rfl, B5⟩
              have T5 := Lib.hid B5
              have hs5 := B5.size
              have HM5 := Lib.hid (HM.out.more B5)
              have c05 : w5.cell? ⟨gS, i, none⟩ = some (.slice (some ⟨gx, 0, none⟩) xn xc) := (B5.cell (World.block_lt_of_cell? _ _ c0)).trans c0
              have hz5 : w5.cell? ⟨gx, 0, none⟩ = some (.int .i64 (a0 : Int)) := by
                obtain ⟨y, hy, hc⟩ := ownInt (HSN.out w5 B5) hx0
                rw [HZ0.out] at hy
                rw [hc, ← Option.some.inj hy]
              obtain ⟨d5, _, _, _⟩ := (HRW.out w5 B5).atOwn HR0.out
              have hak : (a0 : Int) < (k : Int) := by omega
              have ha00 : (0 : Int) ≤ (a0 : Int) := by omega
              clear B5 hrise HM c0
              go_wp2_with fail
              refine (group_ok (some ⟨gE, 0, none⟩) k ce _ rs x0.id _ HGV.out w5 (HRW.out w5 T5.out).regs (by have := hbX.size; omega) HX.out (by omega) hids).mono ?_
              rintro e w6 ⟨IA, im, ic, rfl, OI, him, B6⟩
              have HI6 := Lib.hid OI
              have T6 := Lib.hid (T5.out.trans (B6.mono hs5))
              have hs6 := B6.size
              have HM6 := Lib.hid (HM5.out.more B6)
              have c06 : w6.cell? ⟨gS, i, none⟩ = some (.slice (some ⟨gx, 0, none⟩) xn xc) := (B6.cell (World.block_lt_of_cell? _ _ c05)).trans c05
              obtain rfl : im = xn := by
                have h1 := OI.reads.strLen
                have h2 : (idsOf (rs.map Rg.dat) q).length = q.length := by simp [idsOf]
                have h3 := HQL.out
                simp only at h1
                omega
              have hxx : ((im : Int) != (im : Int)) = false := by simp
              clear B6 OI HM5 c05 hz5 d5 HGV hids
              go_wp2_with fail
              have HWX := Lib.hid (show w3.heap.size + 1 ≤ w5.heap.size from Nat.le_trans HWZ.out hs5)
              clear hxz hxx
              go_loopw [14] (fun jv wr => ∃ (j : Nat) (at_ : List Int), j ≤ im ∧ jv = .int .i64 j ∧ Hid (MK w3 wr (joinedV (rs.map Rg.dat)) i j k at_) ∧ Hid (Only w3.heap.size (w3.heap.size + 1) w6 wr)) (fun jv _ => im - (intOf jv).toNat)
              case atStart => exact ⟨0, at_, Nat.zero_le _, rfl, HM6, Lib.hid (Only.refl _ _ _)⟩
              case round =>
                clear HM6
                obtain ⟨j, at_, hj, rfl, HM, HO⟩ := hrel
                generalize wr = wy at *
                have cy : wy.cell? ⟨gS, i, none⟩ = some (.slice (some ⟨gx, 0, none⟩) im xc) := keepCO HO.out HSX.out c06
                by_cases hjm : j < im
                · obtain ⟨z, hz, hcz⟩ := ownInt (((HSN.out w6 T6.out).only HO.out (.inl (Nat.le_refl _)))) hjm
                  obtain ⟨a, rfl, haN⟩ := HJF.out.lt q HQM.out z (List.mem_of_getElem? hz)
                  rw [List.length_map, hrk] at haN
                  obtain ⟨v, hv, hcv⟩ := HM.out.get haN
                  obtain rfl : v = 0 := HM.out.at_.free (fun i' p hp ha' => joined_apart hp HQ.out (hasZ_iff.2 ha') (hasZ_iff.2 (List.mem_of_getElem? hz))) HQ.out (HJF.out.asc q HQM.out) hz hv
                  have hfv := HM.out.own.1.frozenAt a
                  have hra : rs[a]? = some (rs[a]'(by omega)) := List.getElem?_eq_getElem _
                  generalize rs[a]'(by omega) = xa at hra
                  have HRY := (HRW.out w6 T6.out).only HO.out (.inl (Nat.le_refl _))
                  obtain ⟨r0, r1, _, _⟩ := HRY.atOwn hra
                  obtain ⟨_, s1, _, _⟩ := HRY.atOwn HR0.out
                  have hlv : x0.lv = xa.lv := by
                    have h1 := HJF.out.lv q HQM.out a0 a (List.mem_of_getElem? HZ0.out) (List.mem_of_getElem? hz)
                    rw [dLv_get HR0.out, dLv_get hra] at h1
                    exact h1
                  rw [hlv] at s1
                  obtain ⟨gI, rfl, _, _, _⟩ := HI6.out.at_ (show 0 < im by omega)
                  have hid1 : (idsOf (rs.map Rg.dat) q)[j]? = some xa.id := by
                    unfold idsOf
                    rw [List.getElem?_map, hz, Option.map_some, show ((a : Int)).toNat = a by omega, dId_get hra]
                  have si : wy.cell? ⟨gI, j, none⟩ = some (.string xa.id) := by
                    rw [(HI6.out.only HO.out (.inr HWX.out)).1.cellAt j (by omega)]
                    simp [strs, hid1]
                  obtain ⟨q0, hq0, sz⟩ := ownInt (((HSN.out w6 T6.out).only HO.out (.inl (Nat.le_refl _)))) hx0
                  obtain rfl : (a0 : Int) = q0 := by rw [HZ0.out] at hq0; exact Option.some.inj hq0
                  have e1 : (xa.lv != xa.lv) = false := by simp
                  have e3 : (xa.id.toList != xa.id.toList) = false := by simp
                  have hjj : (j : Int) < (im : Int) := by omega
                  have hj0 : (0 : Int) ≤ (j : Int) := by omega
                  have haK : (a : Int) < (k : Int) := by omega
                  have haa0 : (0 : Int) ≤ (a : Int) := by omega
                  have hiw : IntKind.i64.wrap ((i : Int) + 1) = (i : Int) + 1 := IntWalk.i64_in _ (by omega)
                  have HZ := Lib.hid hz
                  have HST := Lib.hid (fun nq => HM.out.set HQ.out hz haN nq)
                  clear hz hv hra hlv hid1 hq0 HRY
                  go_wp2
                  go_quiet (fail)
                  go_wp2
                  go_roundw
                  case rel => exact ⟨j + 1, _, by omega, by go_num, Lib.hid (HST.out _).1, Lib.hid (HO.out.trans (HST.out _).2)⟩
                  case measure => simp [intOf] <;> omega
                · obtain rfl : j = im := by omega
                  have HN : Hid (MK w3 wy (joinedV (rs.map Rg.dat)) (i + 1) 0 k at_) := Lib.hid ((show MK w3 wy (joinedV (rs.map Rg.dat)) i q.length k at_ by rw [HQL.out]; exact HM.out).next HQ.out)
                  go_wp2
                  go_roundw
                  case rel => exact ⟨i + 1, at_, by omega, by go_num, HN⟩
                  case measure => simp [intOf] <;> omega
            · as_aux_lemma =>
              obtain rfl : i = ns := by omega
              have HMF := Lib.hid (show MK w3 wo (joinedV (rs.map Rg.dat)) (joinedV (rs.map Rg.dat)).length 0 k at_ by rw [HLN.out]; exact HM.out)
              have HTO := Lib.hid (HT3.out wo HM.out.bel)
              have HRO := Lib.hid (HR3.out.below HM.out.bel (Nat.le_refl _))
              have hszo := HM.out.bel.size
              clear HM HR3 HG3 HLX HT3 HLN
              go_wp2
              go_loopw [16] (fun iv wr => ∃ i : Nat, i ≤ k ∧ iv = .int .i64 i ∧ Hid (Below wo.heap.size wo wr)) (fun iv _ => k - (intOf iv).toNat)
              case atStart => exact ⟨0, Nat.zero_le _, rfl, Lib.hid (Below.refl _ _)⟩
              case round =>
                obtain ⟨a, ha, rfl, HB⟩ := hrel
                generalize wr = wa at *
                by_cases hak : a < k
                · as_aux_lemma =>
                  have hdl : (rs.map Rg.dat).length = k := by rw [List.length_map]; exact hrk
                  have HAT : Hid (AtI (joinedV (rs.map Rg.dat)) (joinedV (rs.map Rg.dat)).length 0 (rs.map Rg.dat).length at_) := Lib.hid (by rw [hdl]; exact HMF.out.at_)
                  obtain ⟨gE, rfl, _, _, _⟩ := HRO.out.row.at_ (show 0 < k by omega)
                  obtain ⟨va, hva, cva⟩ := (HMF.out.more HB.out).get hak
                  have hva0 : (va == 0) = false := by rw [beq_eq_false_iff_ne]; exact HAT.out.ne0 hva
                  have hxa : rs[a]? = some (rs[a]'(by omega)) := List.getElem?_eq_getElem _
                  generalize rs[a]'(by omega) = x at hxa
                  have HXA := Lib.hid hxa
                  have HVA := Lib.hid hva
                  have haa : (a : Int) < (k : Int) := by omega
                  have ha0 : (0 : Int) ≤ (a : Int) := by omega
                  clear hxa hva
                  go_wp2
                  go_loopw [17] (fun jv wr => ∃ b : Nat, b ≤ k ∧ jv = .int .i64 b ∧ Hid (Below wo.heap.size wo wr)) (fun jv _ => k - (intOf jv).toNat)
                  case atStart => exact ⟨0, Nat.zero_le _, rfl, HB⟩
                  case round =>
                    clear HB cva
                    obtain ⟨b, hb, rfl, HB⟩ := hrel
                    generalize wr = wb at *
                    by_cases hbk : b < k
                    · have hHM := HMF.out.more HB.out
                      obtain ⟨va', hva', cva⟩ := hHM.get hak
                      obtain rfl : va = va' := by have := HVA.out; rw [hva'] at this; exact (Option.some.inj this).symm
                      obtain ⟨vb, hvb, cvb⟩ := hHM.get hbk
                      have hyb : rs[b]? = some (rs[b]'(by omega)) := List.getElem?_eq_getElem _
                      generalize rs[b]'(by omega) = y at hyb
                      have HRB := HRO.out.below HB.out hszo
                      obtain ⟨_, xa1, xa2, _⟩ := HRB.atOwn HXA.out
                      obtain ⟨yb0, yb1, _, _⟩ := HRB.atOwn hyb
                      have hin := HRB.inn x (List.mem_of_getElem? HXA.out)
                      have hxn := HX.out x (List.mem_of_getElem? HXA.out)
                      have HIN : Hid (∀ nb, nearV x.near y.id = nb → ∀ W, Below wb.heap.size wb W → Calls Tryz.prog 10 #[.slice x.A x.n x.c, .string y.id] W fun e w' => e = .returned (.bool nb) ∧ Below W.heap.size W w') := Lib.hid (fun nb hnb W hW => inside_ok x.A x.n x.c _ x.near y.id nb hnb W (hin.below hW (Nat.le_trans hszo HB.out.size)).reads hxn)
                      have hTC : isNb (rs.map Rg.dat) a b = true → ((va = vb) ↔ (x.lv = y.lv)) := fun h => by
                        have h1 := HAT.out.touch HJF.out hva' hvb h
                        rw [dLv_get HXA.out, dLv_get hyb] at h1
                        exact h1
                      have hNB : isNb (rs.map Rg.dat) a b = nearV x.near y.id := by
                        unfold isNb
                        rw [dNr_get HXA.out, dId_get hyb]
                      rw [hNB] at hTC
                      have hbb : (b : Int) < (k : Int) := by omega
                      have hb0 : (0 : Int) ≤ (b : Int) := by omega
                      clear hHM hva' hvb hyb HRB hin hxn hNB
                      cases hnb : nearV x.near y.id
                      · have HI2 := Lib.hid (HIN.out false hnb)
                        clear HIN hTC hnb
                        go_upto_region 35 with (fail)
                        have qxa1 := cell_regrown xa1
                        have qxa2 := cell_regrown xa2
                        have qyb0 := cell_regrown yb0
                        have qyb1 := cell_regrown yb1
                        have qcva := cell_regrown cva
                        have qcvb := cell_regrown cvb
                        refine wp_region_quiet_below (by kernel_rfl) (by kernel_rfl) ?_
                        repeat (first | go_big_quiet_step (((go_at_call 10; exact Calls.regrown_of (HI2.out _ (below_regrown _ _ _))))) | quiet_step (((go_at_call 10; exact Calls.regrown_of (HI2.out _ (below_regrown _ _ _))))))
                        refine wpQuiet_nil ?_
                        intro W2 B2
                        replace B2 := Lib.hid (show Below (wb).heap.size (wb) W2 from by obtain ⟨pq, rfl⟩ := B2; exact below_regrown _ _ _)
                        clear qxa1 qxa2 qyb0 qyb1 qcva qcvb
                        go_wp2
                        go_roundw
                        case rel => exact ⟨b + 1, by omega, by go_num, Lib.hid (HB.out.trans (B2.out.mono HB.out.size))⟩
                        case measure => simp [intOf] <;> omega
                      · have HI2 := Lib.hid (HIN.out true hnb)
                        have hT := hTC hnb
                        obtain ⟨bb, hb1, hb2⟩ : ∃ bb : Bool, (va == vb) = bb ∧ (x.lv == y.lv) = bb := by
                          by_cases e : va = vb
                          · exact ⟨true, by simpa using e, by simpa using hT.1 e⟩
                          · exact ⟨false, by simpa using e, by rw [beq_eq_false_iff_ne]; exact fun h => e (hT.2 h)⟩
                        have hb3 : (bb != bb) = false := by simp
                        clear HIN hTC hnb hT
                        go_upto_region 35 with (fail)
                        have qxa1 := cell_regrown xa1
                        have qxa2 := cell_regrown xa2
                        have qyb0 := cell_regrown yb0
                        have qyb1 := cell_regrown yb1
                        have qcva := cell_regrown cva
                        have qcvb := cell_regrown cvb
                        refine wp_region_quiet_below (by kernel_rfl) (by kernel_rfl) ?_
                        repeat (first | go_big_quiet_step (((go_at_call 10; exact Calls.regrown_of (HI2.out _ (below_regrown _ _ _))))) | quiet_step (((go_at_call 10; exact Calls.regrown_of (HI2.out _ (below_regrown _ _ _))))))
                        refine wpQuiet_nil ?_
                        intro W2 B2
                        replace B2 := Lib.hid (show Below (wb).heap.size (wb) W2 from by obtain ⟨pq, rfl⟩ := B2; exact below_regrown _ _ _)
                        clear qxa1 qxa2 qyb0 qyb1 qcva qcvb
                        go_wp2
                        go_roundw
                        case rel => exact ⟨b + 1, by omega, by go_num, Lib.hid (HB.out.trans (B2.out.mono HB.out.size))⟩
                        case measure => simp [intOf] <;> omega
                    · obtain rfl : b = k := by omega
                      go_wp2
                      go_roundw
                      case rel => exact ⟨a + 1, by omega, by go_num, HB⟩
                      case measure => simp [intOf] <;> omega
                · as_aux_lemma =>
                  obtain rfl : a = k := by omega
                  have TA := Lib.hid (HTO.out.trans (HB.out.mono HTO.out.size))
                  have HRA := Lib.hid (HRO.out.below HB.out hszo)
                  have hsa : w3.heap.size ≤ wa.heap.size := Nat.le_trans hszo HB.out.size
                  clear HB HRO HMF HTO
                  go_wp2_with fail
                  refine (iRegionsText_c E a ce _ rs wa HRA.out.regs hsa HX.out (by omega) (HE.out wa TA.out).tab).mono ?_
                  rintro e w4 ⟨rfl, B4⟩
                  have T4 := Lib.hid (TA.out.trans (B4.mono TA.out.size))
                  have HR4 := Lib.hid (HRA.out.below B4 hsa)
                  have hs4 := B4.size
                  have HRT := Lib.hid (rr_text HVD.out)
                  have HRS := Lib.hid (rt_size HVR.out)
                  generalize rtV (rs.map Rg.dat) = tx at *
                  clear B4 HRA TA
                  go_wp2_with fail
                  refine (read_ok tx _ HRT.out HRS.out w4 (HE.out w4 T4.out)).mono ?_
                  rintro e w5 ⟨U, u, cu, us, rfl, OU, hud, hun, hux, B5⟩
                  have T5 := Lib.hid (T4.out.trans (B5.mono T4.out.size))
                  have HR5 := Lib.hid (HR4.out.below B5 (Nat.le_trans hsa hs4))
                  have HU := Lib.hid OU
                  have HUD : Hid (us.map Rg.dat = rs.map Rg.dat) := Lib.hid hud
                  have HUX := Lib.hid hux
                  have hs5 := B5.size
                  clear B5 OU hud hux T4 HR4
                  simp only at HU ⊢
                  go_wp2_with fail
                  refine (iSame_e U u cu _ us E a ce _ rs w5 HU.out.regs (Nat.le_refl _) HUX.out (by omega) HR5.out.regs (by omega) HX.out (by omega) HUD.out).mono ?_
                  rintro e w6 ⟨rfl, B6⟩
                  have T6 := Lib.hid (T5.out.trans (B6.mono T5.out.size))
                  clear B6
                  go_wp2_with fail
                  go_meet
                  exact T6
      case rest =>
        as_aux_lemma =>
        have T3 := hcut
        clear hcut HR3 HG3 HLX HX HSV HCV T1 hrk hs12 hs23
        generalize wc = w3 at *
        go_wp2_with fail
        refine (drawSpread_c D m d cs w3 ((HD.out.below T3.out).more T3.out.size) hm).mono ?_
        rintro e w4 ⟨F, f, cf, ts, id, rfl, ⟨OF, hf9, hff, B4⟩, hid⟩
        have T4 := Lib.hid (T3.out.trans (B4.mono T3.out.size))
        have HF := Lib.hid OF
        have HFX : Hid (∀ x ∈ ts, x.n ≤ 1048576) := Lib.hid (fun x hx => Nat.le_trans (hff x hx) (by omega))
        have HID := Lib.hid (names7_small hid)
        clear OF B4 T3 hid hff
        by_cases hg : validD (ts.map Rg.dat) = true ∧ 0 ≤ findD (ts.map Rg.dat) id
        · obtain ⟨nx, s1, s2, s3, s4⟩ := sp_facts hg.1 hg.2
          have HN1 := Lib.hid s1
          have HN2 := Lib.hid s2
          have HN3 := Lib.hid s3
          have HN4 := Lib.hid s4
          clear s1 s2 s3 s4 hg
          go_wp2_with fail
          refine (spread_ok F f cf w4.heap.size ts id (nx, 0) HN1.out w4 HF.out.regs (Nat.le_refl _) HFX.out (by omega) HID.out).mono ?_
          rintro e w5 ⟨P, p, cp5, q, rfl, OQ, hp, hq, hqx, B5⟩
          have T5 := Lib.hid (T4.out.trans (B5.mono T4.out.size))
          have HF5 := Lib.hid (HF.out.below B5 (Nat.le_refl _))
          have HQ := Lib.hid OQ
          have HQE : Hid (q.map Rg.dat = nx) := Lib.hid hq
          have HQX := Lib.hid hqx
          have hs5 := B5.size
          clear OQ hq hqx B5 HF T4
          go_wp2_with fail
          refine (spread_ok P p cp5 w5.heap.size q id (nx, 0) (by rw [HQE.out]; exact HN3.out) w5 HQ.out.regs (Nat.le_refl _) HQX.out (by omega) HID.out).mono ?_
          rintro e w6 ⟨P2, p2, cp6, q2, rfl, OQ2, hp2, hq2, hqx2, B6⟩
          have T6 := Lib.hid (T5.out.trans (B6.mono T5.out.size))
          have HF6 := Lib.hid (HF5.out.below B6 hs5)
          have HQ6 := Lib.hid (HQ.out.below B6 (Nat.le_refl _))
          have HU := Lib.hid OQ2
          have HUE : Hid (q2.map Rg.dat = q.map Rg.dat) := Lib.hid (by rw [HQE.out]; exact hq2)
          have HUX := Lib.hid hqx2
          have hs6 := B6.size
          clear OQ2 hq2 hqx2 B6 HF5 HQ T5
          go_wp2_with fail
          refine (merge_ok P p cp5 w5.heap.size q F f cf w4.heap.size ts (nx, 0) (by rw [HQE.out]; exact HN4.out) w6 HQ6.out.regs hs6 HQX.out (by omega) HF6.out.regs (by omega) HFX.out (by omega)).mono ?_
          rintro e w7 ⟨P3, p3, cp7, q3, rfl, OQ3, hp3, hq3, hqx3, B7⟩
          have T7 := Lib.hid (T6.out.trans (B7.mono T6.out.size))
          have HQ7 := Lib.hid (HQ6.out.below B7 hs6)
          have HU7 := Lib.hid (HU.out.below B7 (Nat.le_refl _))
          have HV7 := Lib.hid OQ3
          have HVE : Hid (q3.map Rg.dat = q.map Rg.dat) := Lib.hid (by rw [HQE.out]; exact hq3)
          have HVX := Lib.hid hqx3
          have hs7 := B7.size
          clear OQ3 hq3 hqx3 B7 HF6 HQ6 HU T6
          go_wp2_with fail
          refine (sSame_e P2 p2 cp6 w6.heap.size q2 P p cp5 w5.heap.size q w7 HU7.out.regs hs7 HUX.out (by omega) HQ7.out.regs (by omega) HQX.out (by omega) HUE.out).mono ?_
          rintro e w8 ⟨rfl, B8⟩
          have T8 := Lib.hid (T7.out.trans (B8.mono T7.out.size))
          have HQ8 := Lib.hid (HQ7.out.below B8 (by omega))
          have HV8 := Lib.hid (HV7.out.below B8 (Nat.le_refl _))
          have hs8 := B8.size
          clear B8 HQ7 HU7 HV7 T7
          go_wp2_with fail
          refine (sSame_e P3 p3 cp7 w7.heap.size q3 P p cp5 w5.heap.size q w8 HV8.out.regs hs8 HVX.out (by omega) HQ8.out.regs (by omega) HQX.out (by omega) HVE.out).mono ?_
          rintro e w9 ⟨rfl, B9⟩
          have T9 := Lib.hid (T8.out.trans (B9.mono T8.out.size))
          have HQ9 := Lib.hid (HQ8.out.below B9 (by omega))
          have hs9 := B9.size
          clear B9 HQ8 HV8 T8
          go_wp2_with fail
          refine (valid_ok P p cp5 w5.heap.size q (by rw [HQE.out]; exact HN2.out) w9 HQ9.out.regs (by omega) HQX.out (by omega)).mono ?_
          rintro e w10 ⟨rfl, B10⟩
          have T10 := Lib.hid (T9.out.trans (B10.mono T9.out.size))
          clear B10
          go_wp2
          go_ret
          exact ⟨rfl, T10.out⟩
        · obtain ⟨z, hz1, hz2⟩ := sp_bad hg
          have HZ1 := Lib.hid hz1
          have hzb : (z != 0) = true := by simpa using hz2
          clear hz1 hz2 hg
          go_wp2_with fail
          refine (spread_ok F f cf w4.heap.size ts id ([], z) HZ1.out w4 HF.out.regs (Nat.le_refl _) HFX.out (by omega) HID.out).mono ?_
          rintro e w5 ⟨P, p, cp5, q, rfl, OQ, hp, hq, hqx, B5⟩
          have T5 := Lib.hid (T4.out.trans (B5.mono T4.out.size))
          obtain rfl : p = 0 := by
            have h1 := OQ.regs.len
            have h2 := congrArg List.length hq
            simp at h2
            rw [h2] at h1
            simpa using h1.symm
          clear OQ hq hqx B5
          go_wp2
          go_ret
          exact ⟨rfl, T5.out⟩
end Go.Proofs.YteklfeeamjgplaaGreatDoor
