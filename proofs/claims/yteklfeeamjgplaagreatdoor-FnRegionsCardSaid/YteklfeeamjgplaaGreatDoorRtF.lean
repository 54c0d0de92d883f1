/- The text of regions or nothing, by the program. -/
import Derived.Test.YteklfeeamjgplaaGreatDoorRtAC
import Derived.Test.YteklfeeamjgplaaGreatDoorRgN
import Derived.Test.YteklfeeamjgplaaGreatDoorNmB
import Derived.Test.YteklfeeamjgplaaGreatDoorTx
import Derived.Test.YteklfeeamjgplaaGreatDoorEnv
import Derived.Test.YteklfeeamjgplaaGreatDoorRgRS
import Derived.Deep.RegionHeld3
namespace Go.Proofs.YteklfeeamjgplaaGreatDoor
open Go.ChangeShapes Go.WideShapes Go.ChangeAt Go.RowKit
set_option linter.unusedVariables false
theorem keepGB {r : Option Nat} {wr W W1 : World} {S : World → Prop} (hS : ∀ W', wr.grownBy W' r → S W') (hb : Below W.heap.size W W1) (h : wr.grownBy W r) : wr.grownBy W1 r ∧ S W1 := by
  have e : wr.grownBy W1 r := ⟨hb.os.trans h.os, hb.tape.trans h.tape, hb.output.trans h.output, Nat.le_trans h.size hb.size, fun k hk hne => (hb.block k (Nat.lt_of_lt_of_le hk h.size)).trans (h.block k hk hne)⟩
  exact ⟨e, hS _ e⟩
theorem keepGL {r : Option Nat} {wr W W1 : World} {S : World → Prop} (hS : ∀ W', wr.grownBy W' r → S W') (hb : Below wr.heap.size W W1) (h : wr.grownBy W r) : wr.grownBy W1 r ∧ S W1 := by
  have e : wr.grownBy W1 r := ⟨hb.os.trans h.os, hb.tape.trans h.tape, hb.output.trans h.output, Nat.le_trans h.size hb.size, fun k hk hne => (hb.block k hk).trans (h.block k hk hne)⟩
  exact ⟨e, hS _ e⟩
theorem keepGG {r : Option Nat} {wr W W1 : World} {S : World → Prop} (hS : ∀ W', wr.grownBy W' r → S W') (hb : W.grownBy W1 r) (h : wr.grownBy W r) : wr.grownBy W1 r ∧ S W1 := by
  have e : wr.grownBy W1 r := ⟨hb.os.trans h.os, hb.tape.trans h.tape, hb.output.trans h.output, Nat.le_trans h.size hb.size, fun k hk hne => (hb.block k (Nat.lt_of_lt_of_le hk h.size) hne).trans (h.block k hk hne)⟩
  exact ⟨e, hS _ e⟩
theorem keepGD {r : Option Nat} {wr W : World} {S : World → Prop} (hS : ∀ W', wr.grownBy W' r → S W') (h : wr.grownBy W r) : wr.grownBy W.drew r ∧ S W.drew := ⟨only_drew h, hS _ (only_drew h)⟩
theorem keepGA {r : Option Nat} {wr W : World} {S : World → Prop} {o : Obj} (hS : ∀ W', wr.grownBy W' r → S W') (h : wr.grownBy W r) : wr.grownBy (W.alloc o) r ∧ S (W.alloc o) := ⟨only_alloc h o, hS _ (only_alloc h o)⟩
theorem join_c (lo hi : Nat) (A : Option Addr) (n c : Nat) (l : List ByteArray) (sep : ByteArray) (w : World) (h : Own w lo hi 9 1 (.slice A n c) n (strs l)) (hl : (Lib.join (tlZ l) sep.data.toList).length ≤ 140737488355328) (hn : n ≤ 140737488355328) :
    Calls Tryz.prog 29 #[.slice A n c, .string sep] w fun e w' => e = .returned (.string ⟨(Lib.join (tlZ l) sep.data.toList).toArray⟩) ∧ Below w.heap.size w w' := by
  have hr := h.reads
  have e : l.length = n := Reads.strLen hr
  subst e
  by_cases h0 : 0 < l.length
  · obtain ⟨g, rfl, hg1, hg2, hg3⟩ := h.at_ h0
    have hc : l.length ≤ c := by
      obtain ⟨A', c', e, h1, _⟩ := h.slice
      injection e with _ _ e
      omega
    exact Tryz.strings_Join g 0 c l sep w (fun j x hx => by
      have h1 := h.1.cells (g := g) rfl j (.string x) (by simp [strs, hx])
      rw [Nat.zero_add]
      rw [show (⟨g, 0, none⟩ : Addr).add j = ⟨g, j, none⟩ from by unfold Addr.add; split <;> simp_all] at h1
      exact h1) hg3 hn hc hl
  · have e0 : l = [] := List.eq_nil_of_length_eq_zero (by omega)
    subst e0
    rcases h.1.2 with ⟨e1, _⟩ | ⟨g, cap, cur, e1, _, hb, h2, h3, h4⟩
    · injection e1 with e1 e2 e3
      subst e1
      exact (Tryz.strings_Join_none none c sep w).mono fun e w' ⟨h1, h2⟩ => ⟨h1, by subst h2; exact Below.refl _ _⟩
    · injection e1 with e1 e2 e3
      subst e1
      exact (Tryz.strings_Join_none (some ⟨g, 0, none⟩) c sep w).mono fun e w' ⟨h1, h2⟩ => ⟨h1, by subst h2; exact Below.refl _ _⟩
set_option maxHeartbeats 4000000 in
set_option maxRecDepth 100000 in
theorem iRegionsText_c (A : Option Addr) (n c BA : Nat) (rs : List Rg) (w : World) (ha : Regs w BA A n rs) (hB : BA ≤ w.heap.size) (hx : ∀ x ∈ rs, x.n ≤ 1048576) (hn : n ≤ 1048576) (ht : Tab10 w) :
    Calls Tryz.prog 12 #[.slice A n c] w fun e w' => e = .returned (.string (rtV (rs.map Rg.dat))) ∧ Below w.heap.size w w' := by
  have HC := Lib.hid (iValidRegions_d A n c BA rs w ha hB hx hn)
  have HV := Lib.hid (show rtV (rs.map Rg.dat) = if validD (rs.map Rg.dat) = true then rgT (rs.map Rg.dat) else ⟨#[]⟩ from rfl)
  have HL := Lib.hid ha.len
  have HA := Lib.hid ha
  have HX := Lib.hid hx
  have HTab := Lib.hid (fun W (hW : Below w.heap.size w W) => ht.below hW)
  clear ha hx ht
  go_enter Tryz.func12, Tryz.ntmps12
  go_wp2_with fail
  refine HC.out.mono ?_
  rintro e w1 ⟨rfl, B1⟩
  have HB := Lib.hid B1
  clear B1 HC
  cases hv : validD (rs.map Rg.dat)
  · rw [hv, if_neg (by decide)] at HV
    go_wp2
    go_ret
    exact ⟨by rw [HV.out]; rfl, HB.out⟩
  · rw [hv, if_pos rfl] at HV
    have HF := Lib.hid (valid_facts (rs := rs) (by rw [validR_dat]; exact hv)).2
    have hn8 : n ≤ 8 := by have := validD_len hv; have := HL.out; omega
    go_wp2
    go_loopw [3, 11] (fun o i wr => ∃ k : Nat, k ≤ n ∧ i = .int .i64 k ∧ Hid (wr.ownsRow w1.heap.size 9 1 o k (strs (((rs.map Rg.dat).take k).map regT))) ∧ Hid (Below w1.heap.size w1 wr)) (fun _ i _ => n - (intOf i).toNat)
    case atStart => exact ⟨0, Nat.zero_le _, rfl, Lib.hid (World.ownsRow_nil _ _ _ _), Lib.hid (Below.refl _ _)⟩
    case round =>
      obtain ⟨k, hk, rfl, HO, HW⟩ := hrel
      have hwr := HW.out.size
      have hw1 := HB.out.size
      by_cases hlt : k < n
      · obtain ⟨ad, x, rfl, hbd, hs, hnx, c0, c1, c2⟩ := ((HA.out.below (HB.out.mono hB)).below (HW.out.mono (Nat.le_trans hB hw1))).at_ hlt
        have HNX := Lib.hid hnx
        have HS0 := Lib.hid hs
        have hmem := List.mem_of_getElem? hs
        have hxn := HX.out x hmem
        have hf := HF.out x hmem
        have hTB := HW.out.mono hw1
        have HD := Lib.hid (fun W (hW : Below w.heap.size w W) => iDecimalZ_c x.lv W (by omega) (by omega) (HTab.out W hW))
        obtain ⟨W1, hW1⟩ : ∃ W1, W1 = wr.alloc (.cells #[.string x.id, .int .i64 x.lv, .slice x.A x.n x.c] 37) := ⟨_, rfl⟩
        have hsz1 : W1.heap.size = wr.heap.size + 1 := by rw [hW1]; simp
        have KB : Hid (Blk W1 wr.heap.size 37 #[.string x.id, .int .i64 x.lv, .slice x.A x.n x.c]) := Lib.hid (by rw [hW1]; exact Blk.new _ _ _)
        have T1 : Hid (Below w.heap.size w W1) := Lib.hid (by rw [hW1]; exact (HB.out.trans (HW.out.mono hw1)).alloc (by omega) _)
        clear hs hnx hmem
        have TW : Hid (Below w1.heap.size w1 W1) := Lib.hid (by rw [hW1]; exact HW.out.alloc hwr _)
        have OW : Hid (Own W1 w1.heap.size W1.heap.size 9 1 u3 k (strs (((rs.map Rg.dat).take k).map regT))) := Lib.hid (by rw [hW1]; exact Own.of_owns (owns_alZ HO.out _) (Nat.le_refl _))
        have HS : Hid (∀ W', W1.grownBy W' u3.ownBlock → (W'.cell? ⟨wr.heap.size, 0, none⟩ = some (.string x.id) ∧ W'.cell? ⟨wr.heap.size, 1, none⟩ = some (.int .i64 x.lv) ∧ W'.cell? ⟨wr.heap.size, 2, none⟩ = some (.slice x.A x.n x.c))) := Lib.hid fun W' hW => by
          have hK := KB.out.grown hW (fun e => own_blk_ne OW.out.1 KB.out (by decide) e.symm)
          exact ⟨hK.cell 0, hK.cell 1, hK.cell 2⟩
        have HNW := Lib.hid (fun W (hW : Below W1.heap.size W1 W) => (show Reads W BA 1 x.A x.n (strs x.near) from (HNX.out.below ((by rw [hW1]; exact (Below.refl _ _).alloc (by omega) _ : Below BA wr W1))).below (hW.mono (by omega))))
        have HJ : Hid (∀ W lo hi D d, Own W lo hi 9 1 (.slice D (2 + x.n) d) (2 + x.n) (strs (wordsD x.dat)) → Calls Tryz.prog 29 #[.slice D (2 + x.n) d, .string ⟨#[32]⟩] W fun e w' => e = .returned (.string (regT x.dat)) ∧ Below W.heap.size W w') := Lib.hid fun W lo hi D d h => join_c lo hi D (2 + x.n) d (wordsD x.dat) ⟨#[32]⟩ W h (by
          have h2 := regT_size hf.1 hf.2.1 hf.2.2
          have h3 : x.near.length = x.n := Reads.strLen HNX.out
          have h4 : (Lib.join (tlZ (wordsD x.dat)) [32]).length = (regT x.dat).size := rfl
          show (Lib.join (tlZ (wordsD x.dat)) [32]).length ≤ _
          omega) (by omega)
        obtain ⟨i0, hi, hz, hs, hb⟩ := info_parts info_str
        have HI := Lib.hid (And.intro hi (And.intro hz (And.intro hs hb)))
        have HLA : Hid (∀ w3 : World, (w3.alloc (.cells #[.string x.id, .string (decZ x.lv)] 9)).ownsRow w3.heap.size 9 1 (.slice (some ⟨w3.heap.size, 0, none⟩) 2 2) 2 (strs [x.id, decZ x.lv])) := Lib.hid (fun w3 => World.ownsRow_lit (w := w3) (base := w3.heap.size) (e := 9) (size := 1) #[.string x.id, .string (decZ x.lv)] 2 (Nat.le_refl _) (by simp [maxLen]) (by simp))
        have HDX : Hid (Calls Tryz.prog 30 #[.int .i64 x.lv] W1.drew fun e w' => e = .returned (.string (decZ x.lv)) ∧ Below W1.heap.size W1 w') := Lib.hid ((HD.out _ T1.out.drew).mono fun e w' ⟨h1, B3⟩ => ⟨h1, B3.os, B3.tape, B3.output, B3.size, B3.block⟩)
        clear HD
        have HA2 : Hid (∀ w3 va wa, Below W1.heap.size W1 w3 → wa.ownsRow w3.heap.size 9 1 va (2 + x.n) (strs [x.id, decZ x.lv] ++ strs x.near) → (w3.alloc (.cells #[.string x.id, .string (decZ x.lv)] 9)).grownBy wa (Value.slice (some ⟨w3.heap.size, 0, none⟩) 2 2).ownBlock → Below W1.heap.size (w3.alloc (.cells #[.string x.id, .string (decZ x.lv)] 9)) wa ∧ Below W1.heap.size W1 wa ∧ ∃ D d, va = .slice D (2 + x.n) d ∧ Own wa w3.heap.size wa.heap.size 9 1 (.slice D (2 + x.n) d) (2 + x.n) (strs (wordsD x.dat))) := Lib.hid (by
          intro w3 va wa B3 O4 G4
          have BA1 : Below w3.heap.size (w3.alloc (.cells #[.string x.id, .string (decZ x.lv)] 9)) wa := (Below.refl _ _).grown G4 (by simp) (fun q hq => ((HLA.out w3).lt q hq).1)
          have BA2 : Below W1.heap.size (w3.alloc (.cells #[.string x.id, .string (decZ x.lv)] 9)) wa := BA1.mono B3.size
          obtain ⟨D, d, hva, _, _⟩ := (Own.of_owns O4 (Nat.le_refl _)).slice
          subst hva
          refine ⟨BA2, (B3.alloc B3.size _).trans BA2, D, d, rfl, ?_⟩
          have h := Own.of_owns O4 (Nat.le_refl _)
          simpa [strs, wordsD, Rg.dat] using h)
        have hG := World.grownBy.refl W1 u3.ownBlock
        clear hi hz hs hb hf
        go_upto_region 7 with (fail)
        rw [← hW1]
        clear hW1
        go_region_held3 (fun w' => W1.grownBy w' u3.ownBlock ∧ (w'.cell? ⟨wr.heap.size, 0, none⟩ = some (.string x.id) ∧ w'.cell? ⟨wr.heap.size, 1, none⟩ = some (.int .i64 x.lv) ∧ w'.cell? ⟨wr.heap.size, 2, none⟩ = some (.slice x.A x.n x.c)))
          (first | exact keepGL HS.out (by assumption) (by first | assumption | exact And.left (by assumption)) | exact keepGB HS.out (by assumption) (by first | assumption | exact And.left (by assumption)) | exact keepGD HS.out (by assumption) | exact keepGA HS.out (by first | assumption | exact And.left (by assumption)) | exact keepGG HS.out (by assumption) (by first | assumption | exact And.left (by assumption)) | (go_keep; done))
          (first
            | (go_at_call 30; refine HDX.out.mono ?_; rintro e w3 ⟨rfl, B3⟩
               have BKp : Below W1.heap.size W1.drew w3 := ⟨B3.os, B3.tape, B3.output, B3.size, B3.block⟩
               have B30 := Lib.hid B3
               have HL2 := Lib.hid (HLA.out w3))
            | (refine step_append_any _ (by rfl) (.tmp 21) (.tmp 23) _ (by rfl) w3.heap.size 9 i0 _ 1 16 Tryz.underlying33 HI.out.1 HI.out.2.1 HI.out.2.2.1 HI.out.2.2.2 rfl (by omega) _ 2 (strs [x.id, decZ x.lv]) (by rfl) HL2.out BA x.A x.n x.c (strs x.near) (by rfl) (HNW.out _ (B30.out.alloc (B30.out.size) _)) (strs_one x.near) (by simp [maxLen]; omega) (by omega) (by simp) ?_
               intro va wa O4 G4 h4
               obtain ⟨BKq, B4, D, d, rfl, OD⟩ := HA2.out w3 va wa B30.out O4 G4
               have B40 := Lib.hid B4
               have HO4 := Lib.hid OD)
            | (go_at_call 29; refine (HJ.out wa _ _ D d HO4.out).mono ?_; rintro e w5 ⟨rfl, B5⟩
               have B50 : Hid (Below W1.heap.size W1 w5) := Lib.hid (B40.out.trans (B5.mono B40.out.size))
               have OW5 : Hid (Own (w5.alloc (.cells #[.string (regT x.dat)] 9)) w1.heap.size W1.heap.size 9 1 u3 k (strs (((rs.map Rg.dat).take k).map regT))) := Lib.hid (OW.out.below (B50.out.alloc B50.out.size _) (Nat.le_refl _)))
            | (refine step_append_any _ (by rfl) (.tmp 15) (.tmp 26) _ (by rfl) w1.heap.size 9 i0 _ 1 16 Tryz.underlying33 HI.out.1 HI.out.2.1 HI.out.2.2.1 HI.out.2.2.2 rfl (by omega) _ k (strs (((rs.map Rg.dat).take k).map regT)) (by rfl) OW5.out.1 (w5.heap.size + 1) (some ⟨w5.heap.size, 0, none⟩) 1 1 [.string (regT x.dat)] (by rfl) (reads_one w5 9 [.string (regT x.dat)]) (by simp [Value.oneCell']) (by simp [maxLen]; omega) (by omega) (by have := B50.out.size; simp; omega) ?_
               intro v2 w2 O5 G5 h5
               have HO5 := Lib.hid O5
               have HB5 : Hid (Below w1.heap.size w1 w2) := Lib.hid ((TW.out.trans ((B50.out.alloc B50.out.size _).mono (by omega))).trans ((Below.refl _ _).grown G5 (by have := B50.out.size; simp; omega) (fun q hq => (OW5.out.1.lt q hq).1))))
            | fail "no arm")
        have HSN : Hid (strs (((rs.map Rg.dat).take k).map regT) ++ [.string (regT x.dat)] = strs (((rs.map Rg.dat).take (k + 1)).map regT)) := Lib.hid (by
          rw [List.take_add_one, show (rs.map Rg.dat)[k]? = some x.dat from by rw [List.getElem?_map, HS0.out]; rfl]
          simp [strs])
        rw [HSN.out] at HO5
        clear HS HNW HJ HLA HDX HA2 HL2 HO4 OW5 hG HI KB OW
        go_wp2
        go_roundw
        case rel => exact ⟨k + 1, by omega, by go_num, HO5, HB5⟩
        case measure => simp [intOf]; omega
      · obtain rfl : k = n := by omega
        have hO := Own.of_owns HO.out (Nat.le_refl _)
        obtain ⟨A', c', hv', _, _⟩ := hO.slice
        subst hv'
        have HTK : Hid (((rs.map Rg.dat).take k).map regT = (rs.map Rg.dat).map regT) := Lib.hid (by rw [List.take_of_length_le (by rw [List.length_map, HL.out]; exact Nat.le_refl _)])
        have HOS := Lib.hid (outK_size (rs := rs) (N := 1048576) HF.out (fun x h => by rw [(show x.near.length = x.n from Reads.strLen (HA.out.near x h))]; exact HX.out x h) k)
        have HEQ : Hid (outK (rs.map Rg.dat) k = rgT (rs.map Rg.dat)) := Lib.hid (by
          have h := outK_all (rs.map Rg.dat)
          rw [List.length_map, HL.out] at h
          exact h)
        have HJ : Hid (Calls Tryz.prog 29 #[.slice A' k c', .string ⟨#[47]⟩] wr fun e w' => e = .returned (.string (rgT (rs.map Rg.dat))) ∧ Below wr.heap.size wr w') := Lib.hid (join_c _ _ A' k c' ((rs.map Rg.dat).map regT) ⟨#[47]⟩ wr (by rw [HTK.out] at hO; exact hO) (by
          have h4 : (Lib.join (tlZ ((rs.map Rg.dat).map regT)) [47]).length = (rgT (rs.map Rg.dat)).size := rfl
          have h5 := HOS.out
          rw [HEQ.out] at h5
          show (Lib.join (tlZ ((rs.map Rg.dat).map regT)) [47]).length ≤ _
          omega) (by omega))
        clear hO HOS HEQ HTK
        generalize rgT (rs.map Rg.dat) = gt at *
        go_wp2_with fail
        refine HJ.out.mono ?_
        rintro e w2 ⟨rfl, B2⟩
        have HB2 := Lib.hid (HB.out.trans ((HW.out.trans (B2.mono hwr)).mono hw1))
        clear B2 HJ
        go_wp2
        go_ret
        exact ⟨by rw [HV.out]; rfl, HB2.out⟩
end Go.Proofs.YteklfeeamjgplaaGreatDoor
