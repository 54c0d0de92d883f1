/- Bulletins: BulletinText of both. -/
import Derived.Test.YthbnliepgjjbdaaGreatDoorSnV
namespace Go.Proofs.YthbnliepgjjbdaaGreatDoor
open Go.ChangeShapes Go.WideShapes Go.ChangeAt Go.RowKit
set_option linter.unusedVariables false
def txB (l : Nat) (s : Sen) : ByteArray := ⟨(s.text l).toArray⟩
set_option maxHeartbeats 2000000 in
theorem iBulletinText_c (A : Option Addr) (n c BA : Nat) (ss : List Sen) (z : Int) (w : World) (ha : Reads w BA 3 A n (sens ss)) (hA : BA ≤ w.heap.size) (hn : n ≤ 1152921504606846976) (m0 : Int) (hm0 : w.cell? ⟨0, 0, none⟩ = some (.int .i64 m0)) (ht : Tab10 w) :
    Calls Tryz.prog 13 #[.slice A n c, .int .i64 z] w fun e w' => e = .returned (.tuple #[.string (btV ss z).1, .int .i64 (btV ss z).2]) ∧ Below w.heap.size w w' := by
  have HB := Lib.hid (iValidBulletin_c A n c BA ss w ha hA hn)
  have HN := Lib.hid fun W => languageOk_c z W
  have HL := Lib.hid ha.senLen
  have HA := Lib.hid ha
  have HM : Hid (∀ W, Below w.heap.size w W → W.cell? ⟨0, 0, none⟩ = some (.int .i64 m0)) := Lib.hid (fun W hW => (hW.cell (World.block_lt_of_cell? _ _ hm0)).trans hm0)
  have HTB := Lib.hid (fun W (hW : Below w.heap.size w W) => ht.below hW)
  clear hm0 ht
  cases hb : bulB ss
  · rw [hb] at HB
    have HV : Hid (btV ss z = (⟨#[]⟩, 1)) := Lib.hid (by unfold btV; rw [if_pos hb])
    clear hb ha
    go_enter Tryz.func13, Tryz.ntmps13
    go_wp2_with fail
    refine HB.out.mono ?_
    rintro e w1 ⟨rfl, B1⟩
    go_wp2
    go_ret2
    exact ⟨by rw [HV.out]; rfl, B1⟩
  · rw [hb] at HB
    cases hz : inB z 1 4
    · rw [hz] at HN
      have HV : Hid (btV ss z = (⟨#[]⟩, 2)) := Lib.hid (by unfold btV; rw [if_neg (by rw [hb]; simp), if_pos hz])
      clear hb hz ha
      go_enter Tryz.func13, Tryz.ntmps13
      go_wp2_with fail
      refine HB.out.mono ?_
      rintro e w1 ⟨rfl, B1⟩
      have T1 := Lib.hid B1
      clear B1
      go_wp2_with fail
      refine (HN.out _).mono ?_
      rintro e w2 ⟨rfl, rfl⟩
      go_wp2
      go_ret2
      exact ⟨by rw [HV.out]; rfl, T1.out⟩
    · rw [hz] at HN
      have HV : Hid (btV ss z = (⟨(bulT z.toNat ss).toArray⟩, 0)) := Lib.hid (by unfold btV; rw [if_neg (by rw [hb]; simp), if_neg (by rw [hz]; simp)])
      obtain ⟨l, rfl, hl0⟩ := inB_lang hz
      rw [Int.toNat_natCast] at HV
      obtain ⟨hall, h7⟩ := bulB_all hb
      have hl := Lib.hid hl0
      have HALL := Lib.hid hall
      have hn7 : n ≤ 7 := by have := HL.out; omega
      clear hb hz ha hall h7 hl0
      by_cases h0 : n = 0
      · subst h0
        have HV2 : Hid (bulT l ss = [45]) := Lib.hid (by unfold bulT; rw [if_pos (List.eq_nil_of_length_eq_zero HL.out)])
        go_enter Tryz.func13, Tryz.ntmps13
        go_wp2_with fail
        refine HB.out.mono ?_
        rintro e w1 ⟨rfl, B1⟩
        have T1 := Lib.hid B1
        clear B1
        go_wp2_with fail
        refine (HN.out _).mono ?_
        rintro e w2 ⟨rfl, rfl⟩
        go_wp2
        go_ret2
        exact ⟨by rw [HV.out, HV2.out]; rfl, T1.out⟩
      · have HV2 : Hid (bulT l ss = joinS l ss) := Lib.hid (by unfold bulT; rw [if_neg (fun e => h0 (by have := HL.out; rw [e] at this; exact this.symm))])
        have hn0 : ((n : Int) == 0) = false := by simpa using h0
        go_enter Tryz.func13, Tryz.ntmps13
        go_wp2_with fail
        refine HB.out.mono ?_
        rintro e w1 ⟨rfl, B1⟩
        have T1 := Lib.hid B1
        have O1 : Hid (w1.ownsRow w.heap.size 9 1 (.slice none 0 0) 0 (strs ((ss.take 0).map (txB l)))) := Lib.hid (World.ownsRow_nil _ _ _ _)
        clear B1
        go_wp2_with fail
        refine (HN.out _).mono ?_
        rintro e w2 ⟨rfl, rfl⟩
        go_wp2
        go_loopw [6, 23] (fun ov iv wr => ∃ k : Nat, k ≤ n ∧ iv = .int .i64 k ∧ Hid (wr.ownsRow w.heap.size 9 1 ov k (strs ((ss.take k).map (txB l)))) ∧ Hid (Below w.heap.size w wr)) (fun _ iv _ => n - (intOf iv).toNat)
        case atStart => exact ⟨0, Nat.zero_le _, rfl, O1, T1⟩
        case round =>
          clear O1 T1
          obtain ⟨k, hk, rfl, HO, HBW⟩ := hrel
          have hwr := HBW.out.size
          by_cases hlt : k < n
          · obtain ⟨ad, s, rfl, hbl, hs, c0, c1, c2⟩ := (HA.out.below (HBW.out.mono hA)).sen hlt
            have hok := HALL.out s (List.mem_of_getElem? hs)
            have HT : Hid ((ss.take (k + 1)).map (txB l) = (ss.take k).map (txB l) ++ [txB l s]) := Lib.hid (by rw [List.take_add_one, hs, List.map_append]; rfl)
            obtain ⟨kk, sa, sb⟩ := s
            obtain ⟨kn, rfl, q1, q7, hna, hnb, hzz⟩ := okS_num hok
            have HTX := Lib.hid (fun W hW => iText_c kn l sa sb m0 ⟨q1, q7⟩ hl.out hna hnb W (HM.out W hW) (HTB.out W hW))
            have het : txB l (⟨kn, sa, sb⟩ : Sen) = ⟨(textT kn l sa sb).toArray⟩ := rfl
            rw [← het] at HTX
            generalize txB l (⟨kn, sa, sb⟩ : Sen) = tb at *
            have T2 : Hid (Below w.heap.size w (wr.alloc (.cells #[.int .i64 kn, .int .i64 sa, .int .i64 sb] 38))) := Lib.hid (HBW.out.alloc hwr _)
            have HO2 := Lib.hid (owns_alZ HO.out (.cells #[.int .i64 kn, .int .i64 sa, .int .i64 sb] 38))
            have hkn : (k : Int) < (n : Int) := by omega
            have hk0 : (0 : Int) ≤ (k : Int) := by omega
            clear hs hok q1 q7 hna hnb hzz het HO
            go_wp2_with fail
            refine (HTX.out _ T2.out).mono ?_
            rintro e w3 ⟨rfl, B⟩
            have T3 := Lib.hid (T2.out.trans (B.mono T2.out.size))
            have HO3 := Lib.hid (owns_belZ HO2.out B (Nat.le_refl _))
            have HOW := Lib.hid (owns_alZ HO3.out (.cells #[.string tb] 9))
            have hs3 := T3.out.size
            clear B HO2 HO3 T2 HTX c0 c1 c2
            go_wp2_with (at_builtin; refine app_str rfl (.tmp 27) (.tmp 31) rfl w.heap.size _ k ((ss.take k).map (txB l)) tb _ rfl HOW.out rfl ?_ (by omega) ?_ ?_)
            rotate_left 2
            · intro v' w4 O4 B4 hs4
              have HO4 : Hid (w4.ownsRow w.heap.size 9 1 v' (k + 1) (strs ((ss.take (k + 1)).map (txB l)))) := Lib.hid (by rw [HT.out, List.map_take]; exact O4)
              have T4 := Lib.hid (T3.out.trans (((Below.refl w.heap.size w3).alloc hs3 (.cells #[.string tb] 9)).trans B4))
              clear O4 B4 hs4 HOW
              go_wp2
              go_roundw
              case rel => exact ⟨k + 1, by omega, by go_num, HO4, T4⟩
              case measure => simp [intOf]; omega
            · exact (Blk.new _ _ _).cell 0
            · simp; omega
          · obtain rfl : k = n := by omega
            obtain ⟨A2, c2, rfl, hc2, _⟩ := (Own.of_owns HO.out (Nat.le_refl _)).slice
            rw [List.take_of_length_le (by have := HL.out; omega)] at HO
            have HLX : Hid ((ss.map (txB l)).length = k) := Lib.hid (by rw [List.length_map]; exact HL.out)
            obtain ⟨g, rfl, _, _, hgl⟩ := (Own.of_owns HO.out (Nat.le_refl _)).at_ (by omega)
            have hjj : Lib.join ((ss.map (txB l)).map (·.data.toList)) (⟨#[47]⟩ : ByteArray).data.toList = joinS l ss := by unfold joinS; rw [List.map_map]; rfl
            have HJ := Lib.hid (Tryz.strings_Join g 0 c2 (ss.map (txB l)) ⟨#[47]⟩ wr (fun j x hx => by
                have hj : j < k := by have h1 := (List.getElem?_eq_some_iff.1 hx).1; have := HLX.out; omega
                rw [Nat.zero_add, HO.out.cellAt j (by omega)]
                unfold strs
                rw [List.getElem?_map, hx]; rfl) hgl (by rw [HLX.out]; omega) (by rw [HLX.out]; exact hc2) (by
                rw [hjj]
                have h := joinS_len hl.out ss HALL.out
                have := HL.out
                omega))
            rw [HLX.out, hjj] at HJ
            clear hjj
            go_wp2_with fail
            refine HJ.out.mono ?_
            rintro e w2 ⟨rfl, B2⟩
            go_wp2
            go_ret2
            exact ⟨by rw [HV.out, HV2.out]; rfl, HBW.out.trans (B2.mono HBW.out.size)⟩
end Go.Proofs.YthbnliepgjjbdaaGreatDoor
