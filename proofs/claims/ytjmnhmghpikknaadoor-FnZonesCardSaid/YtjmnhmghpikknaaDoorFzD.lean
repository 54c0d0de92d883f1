/- FnZones: MayBuild. -/
import Derived.Test.YtjmnhmghpikknaaDoorFzC
namespace Go.Proofs.YtjmnhmghpikknaaDoor
open Go.ChangeShapes Go.WideShapes Go.ChangeAt Go.RowKit
set_option linter.unusedVariables false
theorem Reads.pre {w : World} {B n k : Nat} {A : Option Addr} {xs : List Value} (h : Reads w B 1 A n xs) (hk : k ≤ n) : Reads w B 1 A k (xs.take k) := by
  refine ⟨by rw [List.length_take, h.1]; omega, fun h0 => ?_⟩
  obtain ⟨ad, e, hb, hc⟩ := h.2 (by omega)
  refine ⟨ad, e, hb, fun j u hu => hc j u ?_⟩
  rw [List.getElem?_take] at hu
  split at hu
  · exact hu
  · cases hu
theorem ints_seg (zs : List Int) (f k : Nat) : ((ints zs).drop (f * 1)).take k = ints ((zs.drop f).take k) := by simp [ints, List.map_drop, List.map_take]
set_option maxHeartbeats 2000000 in
theorem mayBuild_c (A : Option Addr) (n c B : Nat) (zs : List Int) (f u : Nat) (m : Int) (w : World) (ha : Reads w B 1 A n (ints zs)) (hB : B ≤ w.heap.size) (hok : okZ zs = true) (hnc : n ≤ c) (hcm : c ≤ maxLen) (hfu : f ≤ u) (hun : u < n) (hm : inB m 0 3 = true) :
    Calls Tryd.prog 14 #[.slice A n c, .int .i64 f, .int .i64 u, .int .i64 m] w fun e w' => e = .returned (.bool (decide (maxL ((zs.drop f).take (u + 1 - f)) ≤ m))) ∧ Below w.heap.size w w' := by
  have hl := ha.len
  have hn64 : n ≤ 64 := by rw [okZ_iff] at hok; omega
  have HZ := Lib.hid (zonesOk_z A n c B zs w w ha hB (by omega))
  rw [hok] at HZ
  have HF := Lib.hid (fun W => indexValid_c A n c f W (by omega))
  have HU := Lib.hid (fun W => indexValid_c A n c u W (by omega))
  have e1 : inB (f : Int) 0 ((n : Int) - 1) = true := inB_t (by omega) (by omega)
  have e2 : inB (u : Int) 0 ((n : Int) - 1) = true := inB_t (by omega) (by omega)
  rw [e1] at HF
  rw [e2] at HU
  have HM := Lib.hid (fun W => zoneOk_c m W)
  rw [hm] at HM
  obtain ⟨ad, rfl, hbl, _⟩ := ha.2 (by omega)
  have HR : Hid (∀ W, Below w.heap.size w W → Reads W W.heap.size 1 (if c = f then some ad else some (ad.add f)) (u + 1 - f) (ints ((zs.drop f).take (u + 1 - f)))) := Lib.hid (fun W hW => by
    have h := ((ha.below (hW.mono hB)).more (Nat.le_trans hB hW.size)).cut (k := f) (cap := c) (by omega) (by omega)
    have h2 := h.pre (k := u + 1 - f) (by omega)
    rw [ints_seg] at h2
    rw [Nat.mul_one] at h2
    exact h2)
  simp only [maxLen] at hcm
  have hcf : ¬ (c = f) := by omega
  rw [if_neg hcf] at HR
  have hfu' : ¬ ((u : Int) < (f : Int)) := by omega
  have hw1 : IntKind.i64.wrap ((u : Int) + 1) = ((u + 1 : Nat) : Int) := IntWalk.i64_in _ (by omega)
  clear ha e1 e2 hm hok hl
  go_enter Tryd.func14, Tryd.ntmps14
  go_wp2_with fail
  refine HZ.out.mono ?_
  rintro e w1 ⟨rfl, B1⟩
  have T1 := Lib.hid B1
  clear B1 HZ
  go_wp2_with fail
  refine (HF.out w1).mono ?_
  rintro e w2 ⟨rfl, rfl⟩
  go_wp2_with fail
  refine (HU.out w1).mono ?_
  rintro e w2 ⟨rfl, rfl⟩
  go_wp2_with fail
  refine (HM.out w1).mono ?_
  rintro e w2 ⟨rfl, rfl⟩
  have HR1 := Lib.hid (HR.out w1 T1.out)
  clear HR
  obtain ⟨seg, hseg⟩ : ∃ seg, seg = (zs.drop f).take (u + 1 - f) := ⟨_, rfl⟩
  rw [← hseg] at HR1
  have HSG := Lib.hid hseg
  clear hseg
  go_wp2_with fail
  refine (maxI_c (some (ad.add f)) (u + 1 - f) (c - f) w1.heap.size seg w1 HR1.out (by omega) (by omega)).mono ?_
  rintro e w2 ⟨rfl, rfl⟩
  go_wp2
  go_ret
  exact ⟨by rw [← HSG.out]; rfl, T1.out⟩
end Go.Proofs.YtjmnhmghpikknaaDoor
