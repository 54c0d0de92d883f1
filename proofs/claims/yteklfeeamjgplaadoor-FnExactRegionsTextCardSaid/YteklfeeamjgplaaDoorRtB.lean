/- The text of regions by the reference. -/
import Derived.Test.YteklfeeamjgplaaDoorRtD
import Derived.Test.YteklfeeamjgplaaDoorRgN
import Derived.Test.YteklfeeamjgplaaDoorDcA
import Derived.BigQuiet
import Derived.Lib.QuietBelow
namespace Go.Proofs.YteklfeeamjgplaaDoor
open Go.ChangeShapes Go.WideShapes Go.ChangeAt Go.RowKit
set_option linter.unusedVariables false
theorem l01Dec_z (z : Int) (W : World) (hz : 1 ≤ z ∧ z ≤ 5) : Calls Tryd.prog 35 #[.int .i64 z] W fun e w' => e = .returned (.string (decZ z)) ∧ Below W.heap.size W w' := by
  have h := l01Dec_c z.toNat W (by omega)
  have e : ((z.toNat : Nat) : Int) = z := by omega
  have e2 : decB z.toNat = decZ z := by unfold decZ decB; rw [(decZ_one hz).2.2]
  rw [e, e2] at h
  exact h
set_option maxHeartbeats 4000000 in
set_option maxRecDepth 100000 in
theorem l18Text_c (A : Option Addr) (n c BA : Nat) (rs : List Rg) (w : World) (ha : Regs w BA A n rs) (hB : BA ≤ w.heap.size) (hv : validR rs = true) (hx : ∀ x ∈ rs, x.n ≤ 1048576) :
    Calls Tryd.prog 16 #[.slice A n c] w fun e w' => e = .returned (.string (rgT (rs.map Rg.dat))) ∧ Below w.heap.size w w' := by
  have hv2 := valid_facts hv
  have HL := Lib.hid ha.len
  have hln := ha.len
  have hn8 : n ≤ 8 := by omega
  have HA := Lib.hid ha
  have HX := Lib.hid hx
  have HF := Lib.hid hv2.2
  have HNL := Lib.hid (fun x (h : x ∈ rs) => (show x.near.length = x.n from (Reads.strLen (ha.near x h))))
  have HOS := Lib.hid (fun k => outK_size (rs := rs) (N := 1048576) hv2.2 (fun x h => by rw [(show x.near.length = x.n from Reads.strLen (ha.near x h))]; exact hx x h) k)
  clear ha hx hv2 hv hln
  go_enter Tryd.func16, Tryd.ntmps16
  go_wp2
  go_loopw [3, 4] (fun ov iv wr => ∃ k : Nat, k ≤ n ∧ iv = .int .i64 k ∧ ov = .string (outK (rs.map Rg.dat) k) ∧ Hid (Below w.heap.size w wr)) (fun _ iv _ => n - (intOf iv).toNat)
  case atStart => exact ⟨0, Nat.zero_le _, rfl, rfl, Lib.hid (Below.refl _ _)⟩
  case round =>
    obtain ⟨k, hk, rfl, rfl, HB⟩ := hrel
    by_cases hlt : k < n
    · obtain ⟨ad, x, rfl, hbd, hs, hnx, c0, c1, c2⟩ := (HA.out.below (HB.out.mono hB)).at_ hlt
      have hmem := List.mem_of_getElem? hs
      have hxn := HX.out x hmem
      have hf := HF.out x hmem
      have HNX := Lib.hid hnx
      have HSD : Hid ((rs.map Rg.dat)[k]? = some x.dat) := Lib.hid (by rw [List.getElem?_map, hs]; rfl)
      have HOK := Lib.hid (outK_succ HSD.out)
      have HD := Lib.hid (fun W => l01Dec_z x.lv W hf.2.1)
      have z0 : (outK (rs.map Rg.dat) k).size ≤ 100000000 := Nat.le_trans (HOS.out k) (by omega)
      have z1 : (preK (rs.map Rg.dat) k).size ≤ 100000001 := by
        unfold preK
        split
        · simp [ByteArray.size]
        · rw [ByteArray.size_append]
          have e47 : (⟨#[47]⟩ : ByteArray).size = 1 := rfl
          omega
      have HZR := Lib.hid (fun j => Nat.le_trans (regK_size hf.1 hf.2.1 hf.2.2 j) (show 11 * (x.near.length + 2) ≤ 20000000 by rw [HNL.out x hmem]; omega))
      have hi1 := (name_facts hf.1).2.1
      have hd1 := (decZ_one hf.2.1).1
      have HK0 : Hid (preK (rs.map Rg.dat) k ++ regK x.dat 0 = preK (rs.map Rg.dat) k ++ ((x.id ++ ⟨#[32]⟩) ++ decZ x.lv)) := Lib.hid (by rw [regK_zero]; rfl)
      have HP0 : Hid (k = 0 → outK (rs.map Rg.dat) k = preK (rs.map Rg.dat) k) := Lib.hid (fun h => by subst h; rfl)
      have HP1 : Hid (k ≠ 0 → outK (rs.map Rg.dat) k ++ ⟨#[47]⟩ = preK (rs.map Rg.dat) k) := Lib.hid (fun h => by unfold preK; rw [if_neg h])
      generalize preK (rs.map Rg.dat) k = pb at *
      have s1 : ¬ (9223372036854775807 < (outK (rs.map Rg.dat) k).size + 1) := by omega
      have HS0 := Lib.hid hs
      clear hs hnx hmem hf
      by_cases hk0 : k = 0
      · have hkz : ¬ ((0 : Int) < (k : Int)) := by omega
        rw [HP0.out hk0]
        clear HP0 HP1 hk0
        go_upto_region 7 with (fail)
        have s4 : ¬ (9223372036854775807 < x.id.size + 1) := by omega
        have s5 : ¬ (9223372036854775807 < x.id.size + 1 + (decZ x.lv).size) := by omega
        have s6 : ¬ (9223372036854775807 < pb.size + (x.id.size + 1 + (decZ x.lv).size)) := by omega
        have qc0 := cell_regrown c0
        have qc1 := cell_regrown c1
        refine wp_region_quiet_below (by kernel_rfl) (by kernel_rfl) ?_
        repeat (first | go_big_quiet_step ((go_at_call 35; exact Calls.regrown_of (HD.out _))) | quiet_step ((go_at_call 35; exact Calls.regrown_of (HD.out _))))
        refine wpQuiet_nil ?_
        intro W2 B2
        replace B2 := Lib.hid (show Below (wr).heap.size (wr) W2 from by obtain ⟨pq, rfl⟩ := B2; exact below_regrown _ _ _)
        clear qc0 qc1
        have T2 := Lib.hid (HB.out.trans (B2.out.mono HB.out.size))
        rw [← HK0.out]
        have hnx2 : Near W2 BA x := HNX.out.below (B2.out.mono (Nat.le_trans hB HB.out.size))
        have HNX2 := Lib.hid hnx2
        clear c0 c1 c2 hnx2 s4 s5 s6
        go_wp2
        go_loopw [3, 5] (fun ov iv wq => ∃ j : Nat, j ≤ x.n ∧ iv = .int .i64 j ∧ ov = .string (pb ++ regK x.dat j) ∧ Hid (Below w.heap.size w wq)) (fun _ iv _ => x.n - (intOf iv).toNat)
        case atStart => exact ⟨0, Nat.zero_le _, rfl, rfl, T2⟩
        case round =>
          obtain ⟨j, hj, rfl, rfl, HB3⟩ := hrel
          obtain ⟨ad2, x2, had, _, hs2, hnx2, d0, d1, d2⟩ := (HA.out.below (HB3.out.mono hB)).at_ hlt
          obtain rfl : ad = ad2 := by injection had
          obtain rfl : x = x2 := by have h := HS0.out; rw [hs2] at h; injection h with h; exact h.symm
          by_cases hjl : j < x.n
          · obtain ⟨adn, m, hxA, _, hm, hc⟩ := Reads.str hnx2 hjl
            have HR1 := Lib.hid (regK_succ (d := x.dat) (j := j) hm)
            have hz1 := HZR.out j
            have hz2 := HZR.out (j + 1)
            have hms : m.size ≤ 20000000 := by
              rw [HR1.out, ByteArray.size_append, ByteArray.size_append] at hz2; omega
            have HRA : Hid (pb ++ regK x.dat (j + 1) = (pb ++ regK x.dat j) ++ (⟨#[32]⟩ ++ m)) := Lib.hid (by rw [HR1.out]; apply ba_ext; simp only [ba_app, List.append_assoc])
            have hzo : (pb ++ regK x.dat j).size ≤ 200000000 := by rw [ByteArray.size_append]; omega
            generalize pb ++ regK x.dat j = ob at *
            have s7 : ¬ (9223372036854775807 < 1 + m.size) := by omega
            have s8 : ¬ (9223372036854775807 < ob.size + (1 + m.size)) := by omega
            rw [hxA] at d2
            clear hs2 hnx2 hm hz1 hz2 hms hzo had
            go_wp2
            go_roundw
            case rel => exact ⟨j + 1, by omega, by go_num, by rw [HRA.out], HB3⟩
            case measure => simp [intOf]; omega
          · obtain rfl : j = x.n := by omega
            have HE : Hid (pb ++ regK x.dat x.n = outK (rs.map Rg.dat) (k + 1)) := Lib.hid (by
              rw [HOK.out, ← regK_all]
              have h := HNL.out x (List.mem_of_getElem? HS0.out)
              rw [show x.dat.2.2.length = x.n from h])
            rw [HE.out]
            clear hs2 hnx2 d0 d1 had
            go_wp2
            go_roundw
            case rel => exact ⟨k + 1, by omega, by go_num, rfl, HB3⟩
            case measure => simp [intOf]; omega
      · have hkz : (0 : Int) < (k : Int) := by omega
        have HP := Lib.hid (HP1.out hk0)
        clear HP0 HP1 hk0
        go_upto_region 7 with (fail)
        rw [HP.out]
        have s4 : ¬ (9223372036854775807 < x.id.size + 1) := by omega
        have s5 : ¬ (9223372036854775807 < x.id.size + 1 + (decZ x.lv).size) := by omega
        have s6 : ¬ (9223372036854775807 < pb.size + (x.id.size + 1 + (decZ x.lv).size)) := by omega
        have qc0 := cell_regrown c0
        have qc1 := cell_regrown c1
        refine wp_region_quiet_below (by kernel_rfl) (by kernel_rfl) ?_
        repeat (first | go_big_quiet_step ((go_at_call 35; exact Calls.regrown_of (HD.out _))) | quiet_step ((go_at_call 35; exact Calls.regrown_of (HD.out _))))
        refine wpQuiet_nil ?_
        intro W2 B2
        replace B2 := Lib.hid (show Below (wr).heap.size (wr) W2 from by obtain ⟨pq, rfl⟩ := B2; exact below_regrown _ _ _)
        clear qc0 qc1
        have T2 := Lib.hid (HB.out.trans (B2.out.mono HB.out.size))
        rw [← HK0.out]
        have hnx2 : Near W2 BA x := HNX.out.below (B2.out.mono (Nat.le_trans hB HB.out.size))
        have HNX2 := Lib.hid hnx2
        clear c0 c1 c2 hnx2 s4 s5 s6
        go_wp2
        go_loopw [3, 5] (fun ov iv wq => ∃ j : Nat, j ≤ x.n ∧ iv = .int .i64 j ∧ ov = .string (pb ++ regK x.dat j) ∧ Hid (Below w.heap.size w wq)) (fun _ iv _ => x.n - (intOf iv).toNat)
        case atStart => exact ⟨0, Nat.zero_le _, rfl, rfl, T2⟩
        case round =>
          obtain ⟨j, hj, rfl, rfl, HB3⟩ := hrel
          obtain ⟨ad2, x2, had, _, hs2, hnx2, d0, d1, d2⟩ := (HA.out.below (HB3.out.mono hB)).at_ hlt
          obtain rfl : ad = ad2 := by injection had
          obtain rfl : x = x2 := by have h := HS0.out; rw [hs2] at h; injection h with h; exact h.symm
          by_cases hjl : j < x.n
          · obtain ⟨adn, m, hxA, _, hm, hc⟩ := Reads.str hnx2 hjl
            have HR1 := Lib.hid (regK_succ (d := x.dat) (j := j) hm)
            have hz1 := HZR.out j
            have hz2 := HZR.out (j + 1)
            have hms : m.size ≤ 20000000 := by
              rw [HR1.out, ByteArray.size_append, ByteArray.size_append] at hz2; omega
            have HRA : Hid (pb ++ regK x.dat (j + 1) = (pb ++ regK x.dat j) ++ (⟨#[32]⟩ ++ m)) := Lib.hid (by rw [HR1.out]; apply ba_ext; simp only [ba_app, List.append_assoc])
            have hzo : (pb ++ regK x.dat j).size ≤ 200000000 := by rw [ByteArray.size_append]; omega
            generalize pb ++ regK x.dat j = ob at *
            have s7 : ¬ (9223372036854775807 < 1 + m.size) := by omega
            have s8 : ¬ (9223372036854775807 < ob.size + (1 + m.size)) := by omega
            rw [hxA] at d2
            clear hs2 hnx2 hm hz1 hz2 hms hzo had
            go_wp2
            go_roundw
            case rel => exact ⟨j + 1, by omega, by go_num, by rw [HRA.out], HB3⟩
            case measure => simp [intOf]; omega
          · obtain rfl : j = x.n := by omega
            have HE : Hid (pb ++ regK x.dat x.n = outK (rs.map Rg.dat) (k + 1)) := Lib.hid (by
              rw [HOK.out, ← regK_all]
              have h := HNL.out x (List.mem_of_getElem? HS0.out)
              rw [show x.dat.2.2.length = x.n from h])
            rw [HE.out]
            clear hs2 hnx2 d0 d1 had
            go_wp2
            go_roundw
            case rel => exact ⟨k + 1, by omega, by go_num, rfl, HB3⟩
            case measure => simp [intOf]; omega
    · obtain rfl : k = n := by omega
      have e : outK (rs.map Rg.dat) k = rgT (rs.map Rg.dat) := by
        have h := outK_all (rs.map Rg.dat)
        rw [List.length_map, HL.out] at h
        exact h
      rw [e]
      go_wp2
      go_ret
      exact ⟨rfl, HB.out⟩
end Go.Proofs.YteklfeeamjgplaaDoor
