/- LevelOfSlopes by the program and by the reference. -/
import Derived.Test.YtipchejcgbmpgaaLayH
namespace Go.Proofs.Ytipchejcgbmpgaa
open Go.ChangeShapes Go.WideShapes Go.ChangeAt Go.RowKit
set_option linter.unusedVariables false

def maxI {α : Type} (f : α → Int) (c : Int) (l : List α) : Int := l.foldl (fun a r => max a (f r)) c
theorem maxI_take {α : Type} (f : α → Int) (c : Int) {l : List α} {k : Nat} {x : α} (h : l[k]? = some x) : maxI f c (l.take (k + 1)) = max (maxI f c (l.take k)) (f x) := by
  rw [List.take_add_one, h]; simp [maxI, List.foldl_append]
theorem maxI_init {α : Type} (f : α → Int) (x : α) (l : List α) (h : 1 ≤ f x) : maxI f 0 (x :: l) = maxI f 1 (x :: l) := by
  simp only [maxI, List.foldl_cons]
  rw [show max 0 (f x) = max 1 (f x) from by omega]
theorem maxI_bd {α : Type} (f : α → Int) (M : Int) (hf : ∀ x, 0 ≤ f x ∧ f x ≤ M) : ∀ (l : List α) (c : Int), 0 ≤ c → c ≤ M → 0 ≤ maxI f c l ∧ maxI f c l ≤ M
  | [], c, h0, h1 => ⟨h0, h1⟩
  | x :: l, c, h0, h1 => by
    have := hf x
    exact maxI_bd f M hf l (max c (f x)) (by omega) (by omega)
theorem likeV_bd (a b : Int) : 1 ≤ likeV a b ∧ likeV a b ≤ 4 := by unfold likeV; repeat' split <;> omega
theorem extentV_bd (a b : Int) : 1 ≤ extentV a b ∧ extentV a b ≤ 3 := by unfold extentV; repeat' split <;> omega
theorem sizeV_bd (a : Int) : 1 ≤ sizeV a ∧ sizeV a ≤ 5 := by unfold sizeV; repeat' split <;> omega
def likeR (ls : List Lay) (run d r : Int) : Int := likeV (weakV ls 0 r run d).2 (idxHi ls 0 r run d (weakV ls 0 r run d).1.toNat)
def unstR (ls : List Lay) (run d r : Int) : Int := if (weakV ls 0 r run d).2 < 1000 then 1 else 0
def okR (run d t z : Int) : Bool := slopeB z run && doubtB d && inB t 0 1000000
def lvlV (ls : List Lay) (rs : List Int) (run d t : Int) : Int × Int :=
  if proB ls = false then (0, 1) else if ((0 :: rs).all (okR run d t)) = false then (0, 2) else if rs.length < 1 ∨ 64 < rs.length then (0, 7) else if ls.length = 0 then (0, 3)
  else (dangerV (maxI (likeR ls run d) 1 rs) (extentV (sumI (unstR ls run d) rs) rs.length) (sizeV t), 0)
theorem okR_get {run d t : Int} {zs : List Int} {k : Nat} {z : Int} (h : zs.all (okR run d t) = true) (hz : zs[k]? = some z) : okR run d t z = true := List.all_eq_true.1 h z (List.mem_of_getElem? hz)
theorem unst_bd (ls : List Lay) (run d : Int) (rs : List Int) : 0 ≤ sumI (unstR ls run d) rs ∧ sumI (unstR ls run d) rs ≤ rs.length := by
  have := sumI_bd (unstR ls run d) 1 (by omega) rs (fun x _ => by unfold unstR; split <;> omega)
  omega
theorem weakV_some {ls : List Lay} {r run d : Int} (h : ls.length ≠ 0) : ∃ j : Nat, j < ls.length ∧ weakV ls 0 r run d = ((j : Int), idxLo ls 0 r run d j) := by
  unfold weakV
  rcases weakF_bd (idxLo ls 0 r run d) 1000000 ls.length with ⟨h0, _⟩ | h
  · exact absurd h0 h
  · exact h

set_option maxHeartbeats 4000000 in
theorem iLevelOfSlopes_c (A : Option Addr) (n c BA : Nat) (ls : List Lay) (D : Option Addr) (m e BD : Nat) (rs : List Int) (run d t : Int) (w : World) (ha : Reads w BA 7 A n (lays ls)) (hB : BA ≤ w.heap.size) (hn : n ≤ 1048576) (hnc : n ≤ c)
    (hd : Reads w BD 1 D m (ints rs)) (hBD : BD ≤ w.heap.size) (hm : m ≤ 1048576) :
    Calls Try.prog 25 #[.slice A n c, .slice D m e, .int .i64 run, .int .i64 d, .int .i64 t] w fun en w' => en = .returned (.tuple #[.int .i64 (lvlV ls rs run d t).1, .int .i64 (lvlV ls rs run d t).2]) ∧ Below w.heap.size w w' := by
  have HO := Lib.hid (iValidProfile_c A n c BA ls w ha hB (by omega))
  have HR := Lib.hid ha
  have HD := Lib.hid hd
  have HLN := Lib.hid ha.layLen
  have HLM := Lib.hid hd.len
  clear ha hd
  cases hp : proB ls
  · have HP := Lib.hid hp; clear hp
    go_enter Try.func25, Try.ntmps25
    go_wp2_with fail
    refine HO.out.mono ?_
    rintro en w1 ⟨rfl, hb1⟩
    rw [HP.out]
    go_wp2
    go_ret2
    exact ⟨ret2 (by rw [lvlV, if_pos HP.out]) (by rw [lvlV, if_pos HP.out]), hb1⟩
  · have HP := Lib.hid hp; clear hp
    have HV : Hid (lvlV ls rs run d t = if ((0 :: rs).all (okR run d t)) = false then (0, 2) else if rs.length < 1 ∨ 64 < rs.length then (0, 7) else if ls.length = 0 then (0, 3) else (dangerV (maxI (likeR ls run d) 1 rs) (extentV (sumI (unstR ls run d) rs) rs.length) (sizeV t), 0)) := Lib.hid (by rw [lvlV, if_neg (by simp [HP.out])])
    go_enter Try.func25, Try.ntmps25
    go_wp2_with fail
    refine HO.out.mono ?_
    rintro en w1 ⟨rfl, hb1⟩
    rw [HP.out]
    have HB1 := Lib.hid hb1
    have hs1 := hb1.size
    clear hb1 HO
    have hown : Hid ((w1.alloc (.cells #[.int .i64 0] 2)).ownsRow w1.heap.size 2 1 (.slice (some ⟨w1.heap.size, 0, none⟩) 1 1) 1 (ints [0])) := Lib.hid (by
      have := World.ownsRow_lit (w := w1) (base := w1.heap.size) (e := 2) (size := 1) #[.int .i64 0] 1 (Nat.le_refl _) (by simp [maxLen]) (by simp)
      exact this)
    go_wp2_with (at_builtin; refine app_i64s rfl (.tmp 26) (.tmp 27) rfl w1.heap.size _ 1 [0] rs BD D m e rfl hown.out rfl ((HD.out.below (HB1.out.mono hBD)).alloc (by omega) _) (by omega) (by simp) ?_)
    intro v2 w2 o2 b2 hs2
    obtain ⟨A2, c2, rfl, hnc2, _⟩ := (Own.of_owns o2 (Nat.le_refl _)).slice
    have hs2' : w1.heap.size ≤ w2.heap.size := by have h3 := hs2; first | omega | (simp at h3; omega)
    have HB2 := Lib.hid (HB1.out.trans ((((Below.refl w1.heap.size w1).alloc (Nat.le_refl _) _).trans b2).mono hs1))
    have R2 := Lib.hid (Reads.of_own o2)
    clear o2 b2 hs2 hown HB1
    have HL2 := Lib.hid R2.out.len
    go_wp2
    go_loopw [13, 30] (fun _ i wr => ∃ k : Nat, k ≤ 1 + m ∧ i = .int .i64 k ∧ Hid (((0 :: rs).take k).all (okR run d t) = true) ∧ wr = w2) (fun _ i _ => 1 + m - (intOf i).toNat)
    case atStart => exact ⟨0, Nat.zero_le _, rfl, Lib.hid rfl, rfl⟩
    case round =>
      obtain ⟨k, hk, rfl, HA, rfl⟩ := hrel
      by_cases hlt : k < 1 + m
      · obtain ⟨ad, z, hA2, hbl, hz, hc⟩ := R2.out.int hlt
        subst hA2
        have HZ := Lib.hid hz
        clear hz
        have hlt' : (k : Int) < ((1 + m : Nat) : Int) := by omega
        have hlt2 : (k : Int) < 1 + (m : Int) := by omega
        cases h1 : slopeB z run <;> cases h2 : doubtB d <;> cases h3 : inB t 0 1000000
        all_goals
          go_wp2_with (first | (go_at_call 63; refine (slopeOk_c _ _ _).mono ?_; rintro e w' ⟨rfl, rfl⟩) | (go_at_call 64; refine (doubtValid_c _ _).mono ?_; rintro e w' ⟨rfl, rfl⟩) | (go_at_call 65; refine (within_c _ _ _ _).mono ?_; rintro e w' ⟨rfl, rfl⟩))
        rotate_right 1
        · go_roundw
          case rel => exact ⟨k + 1, by omega, by go_num, Lib.hid (by rw [List.take_add_one, HZ.out, List.all_append, HA.out]; simp [okR, h1, h2, h3]), by first | trivial | rfl⟩
          case measure => simp [intOf]; omega
        all_goals
          go_ret2
          have hv : lvlV ls rs run d t = (0, 2) := by
            rw [HV.out, if_pos]
            exact List.all_eq_false.2 ⟨z, List.mem_of_getElem? HZ.out, by simp [okR, h1, h2, h3]⟩
          exact ⟨ret2 (by rw [hv]) (by rw [hv]), HB2.out⟩
      · have hge : ¬ (k : Int) < 1 + (m : Int) := by omega
        have hall : (0 :: rs).all (okR run d t) = true := by
          have h := HA.out
          rwa [List.take_of_length_le (by have := HL2.out; omega)] at h
        obtain ⟨kz, hkz⟩ : ∃ kz : Int, kz = (k : Int) := ⟨_, rfl⟩
        rw [← hkz] at hge ⊢
        clear hkz
        have HV2 : Hid (lvlV ls rs run d t = if rs.length < 1 ∨ 64 < rs.length then (0, 7) else if ls.length = 0 then (0, 3) else (dangerV (maxI (likeR ls run d) 1 rs) (extentV (sumI (unstR ls run d) rs) rs.length) (sizeV t), 0)) := Lib.hid (by rw [HV.out, if_neg (by simp [hall])])
        have HALL := Lib.hid hall
        clear hall HA HV R2 HL2 hk hlt
        by_cases hm7 : m < 1 ∨ 64 < m
        · have hv : Hid (lvlV ls rs run d t = (0, 7)) := Lib.hid (by rw [HV2.out, HLM.out, if_pos hm7])
          rcases hm7 with h | h
          · go_wp2
            go_ret2
            exact ⟨ret2 (by rw [hv.out]) (by rw [hv.out]), HB2.out⟩
          · go_wp2
            go_ret2
            exact ⟨ret2 (by rw [hv.out]) (by rw [hv.out]), HB2.out⟩
        · have hm1 : 1 ≤ m := by omega
          have hm64 : m ≤ 64 := by omega
          by_cases hn0 : n = 0
          · have hv : Hid (lvlV ls rs run d t = (0, 3)) := Lib.hid (by rw [HV2.out, HLM.out, HLN.out, if_neg hm7, if_pos hn0])
            subst hn0
            go_wp2
            go_ret2
            exact ⟨ret2 (by rw [hv.out]) (by rw [hv.out]), HB2.out⟩
          · have hv : Hid (lvlV ls rs run d t = (dangerV (maxI (likeR ls run d) 0 rs) (extentV (sumI (unstR ls run d) rs) m) (sizeV t), 0)) := Lib.hid (by
              rw [HV2.out, HLM.out, HLN.out, if_neg hm7, if_neg hn0]
              have hl := HLM.out
              cases rs with
              | nil => simp at hl; omega
              | cons x rs => rw [maxI_init (likeR ls run d) x rs (by unfold likeR; exact (likeV_bd _ _).1)])
            have hn1 : 0 < n := by omega
            have hbd := Lib.hid (unst_bd ls run d)
            have hmx := Lib.hid fun l => maxI_bd (likeR ls run d) 4 (fun x => by have := likeV_bd (weakV ls 0 x run d).2 (idxHi ls 0 x run d (weakV ls 0 x run d).1.toNat); unfold likeR; omega) l 0 (by omega) (by omega)
            have htt : inB t 0 1000000 = true := by
              have := okR_get HALL.out (k := 0) rfl
              simp only [okR, Bool.and_eq_true] at this
              exact this.2
            have htd : 0 ≤ t ∧ t ≤ 1000000 := by simpa [inB] using htt
            have hsv := sizeV_bd t
            have hev := extentV_bd (sumI (unstR ls run d) rs) m
            have HB2s := HB2.out.size
            clear hm7 htt htd HV2
            have bb1 : decide ((m : Int) < 1) = false := by simp; omega
            have bb2 : decide (64 < (m : Int)) = false := by simp; omega
            have bb3 : ((n : Int) == 0) = false := by simp; omega
            go_wp2
            clear bb1 bb2 bb3
            go_loopw [14, 15, 64] (fun a b i wr => ∃ k : Nat, k ≤ m ∧ i = .int .i64 k ∧ a = .int .i64 (maxI (likeR ls run d) 0 (rs.take k)) ∧ b = .int .i64 (sumI (unstR ls run d) (rs.take k)) ∧ Hid (Below w.heap.size w wr)) (fun _ _ i _ => m - (intOf i).toNat)
            case atStart => exact ⟨0, Nat.zero_le _, rfl, rfl, rfl, HB2⟩
            case round =>
              clear HB2
              obtain ⟨k, hk, rfl, rfl, rfl, HT⟩ := hrel
              by_cases hlt : k < m
              · obtain ⟨ad, r, rfl, hbl, hr, hc⟩ := (HD.out.below (HT.out.mono hBD)).int hlt
                have hok := okR_get HALL.out (k := k + 1) (by rw [List.getElem?_cons_succ]; exact hr)
                simp only [okR, Bool.and_eq_true] at hok
                obtain ⟨⟨ok1, ok2⟩, -⟩ := hok
                have HG := Lib.hid (args_of (more := 0) (by omega) (by omega) ok1 ok2)
                obtain ⟨j, hj, hw⟩ := weakV_some (ls := ls) (r := r) (run := run) (d := d) (by rw [HLN.out]; omega)
                rw [HLN.out] at hj
                have HMX := Lib.hid (maxI_take (likeR ls run d) 0 hr)
                have HSM := Lib.hid (sumI_take (unstR ls run d) hr)
                have HLK : Hid (likeR ls run d r = likeV (idxLo ls 0 r run d j) (idxHi ls 0 r run d j)) := Lib.hid (by rw [likeR, hw, Int.toNat_natCast])
                have HUN : Hid (unstR ls run d r = if idxLo ls 0 r run d j < 1000 then 1 else 0) := Lib.hid (by rw [unstR, hw])
                have hx := hmx.out (rs.take k)
                have hy := hbd.out (rs.take k)
                have hy2 : (rs.take k).length ≤ m := by rw [List.length_take, HLM.out]; omega
                have hsT := HT.out.size
                have HWK := Lib.hid fun W (hW : Below w.heap.size w W) => weakest_c A n c BA ls 0 r run d W (HR.out.below (hW.mono hB)) (by have := hW.size; omega) hnc HP.out HG.out
                have HIX := Lib.hid fun W (hW : Below w.heap.size w W) => index_c A n c BA j ls 0 r run d W (HR.out.below (hW.mono hB)) (by have := hW.size; omega) hnc HP.out hj HG.out
                rw [hw] at HWK
                have HHR := Lib.hid hr
                clear hr ok1 ok2 hw HG
                simp only [slabV] at HWK HIX
                go_wp2_with fail
                refine (HWK.out _ (HT.out.alloc hsT _)).mono ?_
                rintro en w3 ⟨rfl, hb3⟩
                have K3 := (Blk.new wr 56 #[.slice A n c, .int .i64 r, .int .i64 run, .int .i64 d, .int .i64 0]).below hb3 (by simp)
                have x0 : w3.cell? ⟨wr.heap.size, 0, none⟩ = some (.slice A n c) := K3.cell 0
                have x1 : w3.cell? ⟨wr.heap.size, 1, none⟩ = some (.int .i64 r) := K3.cell 1
                have x2 : w3.cell? ⟨wr.heap.size, 2, none⟩ = some (.int .i64 run) := K3.cell 2
                have x3 : w3.cell? ⟨wr.heap.size, 3, none⟩ = some (.int .i64 d) := K3.cell 3
                have x4 : w3.cell? ⟨wr.heap.size, 4, none⟩ = some (.int .i64 0) := K3.cell 4
                have HT3 := Lib.hid ((HT.out.alloc hsT _).trans (hb3.mono (by simp; omega)))
                clear hb3 K3 hc
                go_wp2_with fail
                refine (HIX.out _ HT3.out).mono ?_
                rintro en w4 ⟨rfl, hb4⟩
                have HT4 := Lib.hid (HT3.out.trans (hb4.mono HT3.out.size))
                clear hb4 x0 x1 x2 x3 x4
                have hlk := likeV_bd (idxLo ls 0 r run d j) (idxHi ls 0 r run d j)
                go_wp2_with fail
                refine (likelihoodOf_c _ _ _).mono ?_
                rintro en w' ⟨rfl, rfl⟩
                rcases Int.lt_or_le (maxI (likeR ls run d) 0 (rs.take k)) (likeV (idxLo ls 0 r run d j) (idxHi ls 0 r run d j)) with hml | hml <;> rcases Int.lt_or_le (idxLo ls 0 r run d j) 1000 with hlo | hlo
                all_goals
                  go_wp2
                  go_roundw
                  case rel => exact ⟨k + 1, by omega, by go_num, by rw [HMX.out, HLK.out]; congr 1; omega, by rw [HSM.out, HUN.out]; first | rw [if_pos hlo] | (rw [if_neg (by omega)]; congr 1; omega), HT4⟩
                  case measure => simp [intOf]; omega
              · obtain rfl : k = m := by omega
                have HE : Hid (rs.take k = rs) := Lib.hid (List.take_of_length_le (by have := HLM.out; omega))
                rw [HE.out]
                have hx := hmx.out rs
                have hy := hbd.out rs
                rw [HLM.out] at hy
                go_wp2_with fail
                refine (extentOf_c _ _ _ (by omega) (by omega) (by omega) (by omega)).mono ?_
                rintro en w' ⟨rfl, rfl⟩
                go_wp2_with fail
                refine (sizeClass_c _ _).mono ?_
                rintro en w' ⟨rfl, rfl⟩
                go_wp2_with fail
                refine (dangerLevel_c _ _ _ _ (by omega) (by omega) (by omega) (by omega) (by omega) (by omega)).mono ?_
                rintro en w' ⟨rfl, rfl⟩
                go_wp2
                go_ret2
                exact ⟨ret2 (by rw [hv.out]) (by rw [hv.out]), HT.out⟩
end Go.Proofs.Ytipchejcgbmpgaa
