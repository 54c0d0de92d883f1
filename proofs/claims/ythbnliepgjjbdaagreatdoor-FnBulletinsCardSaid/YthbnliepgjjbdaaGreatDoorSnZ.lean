/- Bulletins: reading one from a text, by both. -/
import Derived.Test.YthbnliepgjjbdaaGreatDoorSnY
namespace Go.Proofs.YthbnliepgjjbdaaGreatDoor
open Go.ChangeShapes Go.WideShapes Go.ChangeAt Go.RowKit
set_option linter.unusedVariables false
theorem eqDash (s : ByteArray) : (s.toList == [45]) = decide (s = ⟨#[45]⟩) := by
  have h := eqT s ⟨#[45]⟩
  have e : (⟨#[45]⟩ : ByteArray).toList = [45] := by rw [ByteArray.toList_eq]
  rwa [e] at h
set_option maxHeartbeats 2000000 in
set_option maxRecDepth 100000 in
theorem iReadBulletin_c (s : ByteArray) (z : Int) (hs : s.size ≤ 1048576) (w : World) (he : Env w) :
    Calls Tryz.prog 14 #[.string s, .int .i64 z] w (RBPost (rbV z s) w) := by
  have HN := Lib.hid fun W => languageOk_c z W
  have HEN := Lib.hid (fun W (hW : Below w.heap.size w W) => he.below hW)
  have HD := Lib.hid (eqDash s)
  cases hz : inB z 1 4
  · rw [hz] at HN
    have HV := Lib.hid (rbV_lang hz s)
    clear hz he
    go_enter Tryz.func14, Tryz.ntmps14
    go_wp2_with fail
    refine (HN.out _).mono ?_
    rintro e w1 ⟨rfl, rfl⟩
    go_wp2
    go_ret2
    exact RBPost.nil HV.out (Below.refl _ _)
  · rw [hz] at HN
    by_cases hd : s = ⟨#[45]⟩
    · have hq : (s.toList == [45]) = true := by rw [HD.out]; simpa using hd
      have HV := Lib.hid (rbV_dash hz hd)
      clear hz hd he
      go_enter Tryz.func14, Tryz.ntmps14
      go_wp2_with fail
      refine (HN.out _).mono ?_
      rintro e w1 ⟨rfl, rfl⟩
      go_wp2
      go_ret2
      exact RBPost.nil HV.out (Below.refl _ _)
    · have hq : (s.toList == [45]) = false := by rw [HD.out]; simpa using hd
      have HBAD := Lib.hid (fun (p : ByteArray) (hp : p ∈ splitS s 47) hb => rbV_bad hz hd hp hb)
      have HGOOD := Lib.hid (rbV_good hz hd)
      obtain ⟨l, rfl, hl0⟩ := inB_lang hz
      rw [Int.toNat_natCast] at HBAD HGOOD
      obtain ⟨m0, hm0⟩ := he.m0
      have hsp := Tryz.strings_Split s ⟨#[47]⟩ m0 w (by omega) hm0 (by show 1 ≤ 1; omega)
      rw [splitB_all, split_count] at hsp
      have HSP := Lib.hid hsp
      have HRD := Lib.hid (fun (p : ByteArray) (hp : p ∈ splitS s 47) W hW => iReadS_c l hl0 p (Nat.le_trans (part_size hp) hs) W hW)
      have hlen : (splitS s 47).length ≤ 1048577 := by have := split_len s 47; omega
      have HRL := Lib.hid (show rbL l s = (splitS s 47).map fun p => (rdP l p).1 from rfl)
      generalize rbV (l : Int) s = v at *
      generalize rbL l s = RL at *
      generalize splitS s 47 = L at *
      clear hz hd hl0 HD hsp hm0 he
      go_enter Tryz.func14, Tryz.ntmps14
      go_wp2_with fail
      refine (HN.out _).mono ?_
      rintro e w1 ⟨rfl, rfl⟩
      go_wp2_with fail
      refine HSP.out.mono ?_
      rintro e w1 ⟨rfl, hw1⟩
      have HS1 : Hid (w1.heap.size = w.heap.size + 1) := Lib.hid (by rw [hw1]; simp)
      have HBK : Hid (Blk w1 w.heap.size 9 (strs L).toArray) := Lib.hid (by rw [hw1]; exact Blk.new _ _ _)
      have HB1 : Hid (Below w.heap.size w w1) := Lib.hid (by rw [hw1]; exact (Below.refl _ _).alloc (Nat.le_refl _) _)
      have HO1 : Hid (w1.ownsRow w1.heap.size 38 3 (.slice none 0 0) 0 (sens ((L.take 0).map fun p => (rdP l p).1))) := Lib.hid (World.ownsRow_nil _ _ _ _)
      clear HSP HN hw1
      go_wp2
      go_loopw [6, 21] (fun ov iv wr => ∃ k : Nat, k ≤ L.length ∧ iv = .int .i64 k ∧ Hid (wr.ownsRow w1.heap.size 38 3 ov k (sens ((L.take k).map fun p => (rdP l p).1))) ∧ Hid (∀ p ∈ L.take k, (rdP l p).2 = true) ∧ Hid (Below w1.heap.size w1 wr)) (fun _ iv _ => L.length - (intOf iv).toNat)
      case atStart => exact ⟨0, Nat.zero_le _, rfl, HO1, Lib.hid (fun p hp => by cases hp), Lib.hid (Below.refl _ _)⟩
      case round =>
        clear HO1
        obtain ⟨k, hk, rfl, HO, HOK, HB⟩ := hrel
        generalize wr = wo at *
        by_cases hlt : k < L.length
        · have hp : L[k]? = some (L[k]) := List.getElem?_eq_getElem hlt
          obtain ⟨p, hpe⟩ : ∃ p, p = L[k] := ⟨_, rfl⟩
          rw [← hpe] at hp
          have cp : wo.cell? ⟨w.heap.size, k, none⟩ = some (.string p) := by
            rw [(HBK.out.below HB.out (by have := HS1.out; omega)).cell k]
            simp [strs, hp]
          have hmem := List.mem_of_getElem? hp
          have hkn : (k : Int) < (L.length : Int) := by omega
          have hk0 : (0 : Int) ≤ (k : Int) := by omega
          have HT : Hid ((L.take (k + 1)).map (fun p => (rdP l p).1) = (L.take k).map (fun p => (rdP l p).1) ++ [(rdP l p).1]) := Lib.hid (by rw [List.take_add_one, hp, List.map_append]; rfl)
          have HTK : Hid (L.take (k + 1) = L.take k ++ [p]) := Lib.hid (by rw [List.take_add_one, hp]; rfl)
          have HR1 := Lib.hid (fun W hW => HRD.out p hmem W hW)
          have HBD := Lib.hid (fun h => HBAD.out p hmem h)
          have hpd : readV l p.data.toList = rdP l p := rfl
          rw [hpd] at HR1
          obtain ⟨x, hx⟩ : ∃ x, x = rdP l p := ⟨_, rfl⟩
          have HX := Lib.hid hx
          rw [← hx] at HT HR1 HBD
          obtain ⟨⟨xk, xa, xb⟩, xok⟩ := x
          simp only [Sen.val] at HR1 HT HBD
          have TW := Lib.hid (HB1.out.trans (HB.out.mono HB1.out.size))
          clear hp hmem hpd hx hpe
          go_wp2_with fail
          refine (HR1.out _ (HEN.out _ TW.out)).mono ?_
          rintro e w2 ⟨rfl, B⟩
          have hso := HB.out.size
          have HB2 := Lib.hid (HB.out.trans (B.mono hso))
          have HO2 := Lib.hid (owns_belZ HO.out B (Nat.le_refl _))
          have hs2 := B.size
          clear B cp HR1 TW
          go_upto_region 10 with (fail)
          obtain ⟨w3, hw3⟩ : ∃ W, W = w2.alloc (.cells #[.int .i64 xk, .int .i64 xa, .int .i64 xb] 38) := ⟨_, rfl⟩
          have HB3 : Hid (Below w1.heap.size w1 w3) := Lib.hid (by rw [hw3]; exact HB2.out.alloc HB2.out.size _)
          have HO3 : Hid (w3.ownsRow w1.heap.size 38 3 _ k (sens ((L.take k).map fun p => (rdP l p).1))) := Lib.hid (by rw [hw3]; exact owns_alZ HO2.out _)
          have HX3 : Hid (Blk w3 w2.heap.size 38 #[.int .i64 xk, .int .i64 xa, .int .i64 xb]) := Lib.hid (by rw [hw3]; exact Blk.new _ _ _)
          rw [← hw3]
          clear hw3 HB2 HO2 HO
          have c0 : w3.cell? ⟨w2.heap.size, 0, none⟩ = some (.int .i64 xk) := HX3.out.cell 0
          have c1' : w3.cell? ⟨w2.heap.size, 1, none⟩ = some (.int .i64 xa) := HX3.out.cell 1
          have c2' : w3.cell? ⟨w2.heap.size, 2, none⟩ = some (.int .i64 xb) := HX3.out.cell 2
          cases xok
          · have HV := Lib.hid (HBD.out rfl)
            go_wp2
            go_ret2
            exact RBPost.nil HV.out (HB1.out.trans (HB3.out.mono HB1.out.size))
          · have HO4 := Lib.hid (owns_alZ HO3.out (.cells #[.int .i64 xk, .int .i64 xa, .int .i64 xb] 38))
            have HB4 := Lib.hid (HB3.out.alloc HB3.out.size (.cells #[.int .i64 xk, .int .i64 xa, .int .i64 xb] 38))
            have hsw := HB3.out.size
            have HAL : Hid ((w3.alloc (.cells #[.int .i64 xk, .int .i64 xa, .int .i64 xb] 38)).heap.size = w3.heap.size + 1) := Lib.hid (by simp)
            have HOK2 : Hid (∀ p ∈ L.take (k + 1), (rdP l p).2 = true) := Lib.hid (fun y hy => by
              rw [HTK.out] at hy
              rcases List.mem_append.1 hy with hy | hy
              · exact HOK.out y hy
              · rw [List.mem_singleton] at hy; rw [hy, ← HX.out])
            clear HO3 HB3 HBD HTK HX
            go_wp2_with (at_builtin; refine app_senk rfl (.tmp 33) (.tmp 35) rfl w1.heap.size _ k ((L.take k).map fun p => (rdP l p).1) ⟨xk, xa, xb⟩ w3.heap.size rfl HO4.out rfl ?_ (by omega) ?_ ?_)
            any_goals first | exact Blk.new _ _ _ | (have := HAL.out; omega)
            · intro v' w5 O5 G5 h5
              have HO5 : Hid (w5.ownsRow w1.heap.size 38 3 v' (k + 1) (sens ((L.take (k + 1)).map fun p => (rdP l p).1))) := Lib.hid (by rw [HT.out, List.map_take]; exact O5)
              have HB5 : Hid (Below w1.heap.size w1 w5) := Lib.hid (HB4.out.trans ((Below.refl _ _).grown G5 (by have := HAL.out; omega) (fun q hq => (HO4.out.lt q hq).1)))
              clear O5 G5 h5 HO4 HB4 c0 c1' c2'
              go_wp2
              go_roundw
              case rel => exact ⟨k + 1, by omega, by go_num, HO5, HOK2, HB5⟩
              case measure => simp [intOf]; omega
        · obtain rfl : k = L.length := by omega
          rw [List.take_length] at HO HOK
          rw [← HRL.out] at HO
          obtain ⟨A2, c2, rfl, _, _⟩ := (Own.of_owns HO.out (Nat.le_refl _)).slice
          have HV := Lib.hid (HGOOD.out HOK.out)
          have HLN : Hid (RL.length = L.length) := Lib.hid (by rw [HRL.out, List.length_map])
          have TW := Lib.hid (HB1.out.trans (HB.out.mono HB1.out.size))
          have HBL := Lib.hid (iValidBulletin_c A2 L.length c2 wo.heap.size RL wo (Own.of_owns HO.out (Nat.le_refl _)).reads (Nat.le_refl _) (by omega))
          cases hb : bulB RL
          · rw [hb] at HBL HV
            go_wp2_with fail
            refine HBL.out.mono ?_
            rintro e w2 ⟨rfl, B⟩
            have T2 := Lib.hid (TW.out.trans (B.mono TW.out.size))
            clear B hb
            go_wp2
            go_ret2
            exact RBPost.nil (by rw [HV.out]; rfl) T2.out
          · rw [hb] at HBL HV
            go_wp2_with fail
            refine HBL.out.mono ?_
            rintro e w2 ⟨rfl, B⟩
            have T2 := Lib.hid (TW.out.trans (B.mono TW.out.size))
            have HO2 := Lib.hid (owns_belZ HO.out B (Nat.le_refl _))
            clear B hb
            go_wp2
            go_ret2
            refine ⟨A2, c2, by rw [HV.out]; simp only [if_true]; rw [HLN.out]; rfl, ?_, T2.out⟩
            rw [HV.out]
            simp only [if_true]
            rw [HLN.out]
            exact (Own.of_owns HO2.out (Nat.le_refl _)).widen (by have := HS1.out; omega) (Nat.le_refl _)
end Go.Proofs.YthbnliepgjjbdaaGreatDoor
