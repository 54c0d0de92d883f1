/- Sentences compared by the language's own equality; SameMeaning of both (printed by wip/tools/mk_soa.py). -/
import Derived.Test.YthbnliepgjjbdaaGreatDoorSnZ
import Derived.Laws.StructEq
namespace Go.Proofs.YthbnliepgjjbdaaGreatDoor
open Go.ChangeShapes Go.WideShapes Go.ChangeAt Go.RowKit
set_option linter.unusedVariables false
theorem sen_fields : Tryz.prog.underlying 38 = some (.struct (Tryz.prog.fieldsOf 38)) := by kernel_rfl
theorem sen_held : Tryz.prog.stoodInHeld 38 = false := by kernel_rfl
theorem eqSenIn (k a b k' a' b' : Int) (W : World) : (Op.equalIn 10000 38 (.agg #[.int .i64 k, .int .i64 a, .int .i64 b]) (.agg #[.int .i64 k', .int .i64 a', .int .i64 b'])).run Tryz.prog W = .ok (decide ((⟨k, a, b⟩ : Sen) = ⟨k', a', b'⟩)) W := by
  rw [show (10000 : Nat) = 9999 + 1 from rfl, run_equalIn_struct W 9999 _ _ _ sen_fields sen_held]
  have hi : Tryz.prog.underlying 2 = some (.int .i64) := Tryz.underlying2
  unfold Program.fieldsOf
  rw [Tryz.underlying38]
  simp [Op.eqFields, go_sem, hi]
  by_cases h1 : k = k' <;> by_cases h2 : a = a' <;> by_cases h3 : b = b' <;> simp [h1, h2, h3]
noncomputable def smV (a : ByteArray) (n : Int) (b : ByteArray) (m : Int) : Bool := decide ((rbV n a).2 = 0 ∧ (rbV m b).2 = 0 ∧ (rbV n a).1 = (rbV m b).1)
set_option maxHeartbeats 1000000 in
theorem equalSen_c (A D : Option Addr) (n m c d BA BD : Nat) (l l' : List Sen) (w : World) (ha : Reads w BA 3 A n (sens l)) (hd : Reads w BD 3 D m (sens l')) (hn : n ≤ 1152921504606846976) (hm : m ≤ 1152921504606846976) :
    Calls Tryz.prog 28 #[.slice A n c, .slice D m d] w fun e w' => e = .returned (.bool (decide (l = l'))) ∧ Below w.heap.size w w' := by
  by_cases hnm : n = m
  · subst hnm
    have HLA := Lib.hid ha.senLen
    have HLD := Lib.hid hd.senLen
    go_enter Tryz.func28, Tryz.ntmps28
    go_wp2
    go_loopw [13] (fun i wr => ∃ k q : Nat, k ≤ n ∧ i = .int .i64 k ∧ Hid (l.take k = l'.take k) ∧ wr = w.drewN q) (fun i _ => n - (intOf i).toNat)
    case atStart => exact ⟨0, 0, Nat.zero_le _, rfl, Lib.hid (by simp), rfl⟩
    case round =>
      obtain ⟨k, q, hk, rfl, HT, rfl⟩ := hrel
      by_cases hlt : k < n
      · obtain ⟨ad, s, rfl, _, hsk, c0, c1, c2⟩ := ha.sen hlt
        obtain ⟨ad', t, rfl, _, htk, d0, d1, d2⟩ := hd.sen hlt
        have hkn : (k : Int) < (n : Int) := by omega
        have HS := Lib.hid hsk
        have HY := Lib.hid htk
        have HEQ := Lib.hid (fun W => eqSenIn s.k s.a s.b t.k t.a t.b W)
        have hst : ((⟨s.k, s.a, s.b⟩ : Sen) = ⟨t.k, t.a, t.b⟩) = (s = t) := rfl
        clear ha hd hsk htk
        by_cases he : s = t
        · have heq : ∀ W, (Op.equalIn 10000 38 (.agg #[.int .i64 s.k, .int .i64 s.a, .int .i64 s.b]) (.agg #[.int .i64 t.k, .int .i64 t.a, .int .i64 t.b])).run Tryz.prog W = .ok true W := fun W => by rw [HEQ.out W]; simp only [he, decide_true]
          have HE := Lib.hid he
          clear he hst HEQ
          go_wp2
          go_quiet (fail)
          go_wp2
          go_roundw
          case rel => exact ⟨k + 1, _, by omega, by go_num, Lib.hid (by rw [List.take_add_one, List.take_add_one, HS.out, HY.out, HT.out, HE.out]), rfl⟩
          case measure => simp [intOf]; omega
        · have heq : ∀ W, (Op.equalIn 10000 38 (.agg #[.int .i64 s.k, .int .i64 s.a, .int .i64 s.b]) (.agg #[.int .i64 t.k, .int .i64 t.a, .int .i64 t.b])).run Tryz.prog W = .ok false W := fun W => by rw [HEQ.out W]; simp only [hst, he, decide_false]
          have HN : Hid (l ≠ l') := Lib.hid (fun e => he (by have h1 := HS.out; rw [e, HY.out] at h1; exact (Option.some.inj h1).symm))
          clear he hst HEQ
          go_wp2
          go_quiet (fail)
          go_wp2
          go_ret
          exact ⟨ret_bool (by rw [decide_eq_false HN.out]), below_drewN (below_drewN (Below.refl _ _) _) _⟩
      · have HE : Hid (l = l') := Lib.hid (by
          have h := HT.out
          rwa [List.take_of_length_le (by rw [HLA.out]; omega), List.take_of_length_le (by rw [HLD.out]; omega)] at h)
        clear HT ha hd
        go_wp2
        go_ret
        exact ⟨ret_bool (by rw [decide_eq_true HE.out]), below_drewN (Below.refl _ _) _⟩
  · have HF : Hid (l ≠ l') := Lib.hid (fun e => hnm (by rw [← ha.senLen, ← hd.senLen, e]))
    have hne : ((n : Int) != (m : Int)) = true := by rw [bne_iff_ne]; omega
    clear hnm ha hd
    go_enter Tryz.func28, Tryz.ntmps28
    go_wp2
    go_ret
    exact ⟨ret_bool (by rw [decide_eq_false HF.out]), Below.refl _ _⟩
set_option maxHeartbeats 1000000 in
theorem iSameMeaning_c (a : ByteArray) (n : Int) (b : ByteArray) (m : Int) (ha : a.size ≤ 1048576) (hb : b.size ≤ 1048576) (w : World) (he : Env w) :
    Calls Tryz.prog 15 #[.string a, .int .i64 n, .string b, .int .i64 m] w fun e w' => e = .returned (.bool (smV a n b m)) ∧ Below w.heap.size w w' := by
  have H1 := Lib.hid (iReadBulletin_c a n ha w he)
  have H2 := Lib.hid (fun W (hW : Below w.heap.size w W) => iReadBulletin_c b m hb W (he.below hW))
  have l1 := rbV_len n a
  have l2 := rbV_len m b
  have HV := Lib.hid (show smV a n b m = decide ((rbV n a).2 = 0 ∧ (rbV m b).2 = 0 ∧ (rbV n a).1 = (rbV m b).1) from rfl)
  generalize rbV n a = v1 at *
  generalize rbV m b = v2 at *
  obtain ⟨L1, z1⟩ := v1
  obtain ⟨L2, z2⟩ := v2
  simp only at H1 H2 HV l1 l2
  clear he
  go_enter Tryz.func15, Tryz.ntmps15
  go_wp2_with fail
  refine H1.out.mono ?_
  rintro e w1 ⟨A1, c1, rfl, O1, B⟩
  have T1 := Lib.hid B
  have HO1 := Lib.hid O1
  have hs1 := B.size
  clear B O1 H1
  go_wp2_with fail
  refine (H2.out _ T1.out).mono ?_
  rintro e w2 ⟨A2, c2, rfl, O2, B⟩
  have T2 := Lib.hid (T1.out.trans (B.mono T1.out.size))
  have HO1b := Lib.hid (HO1.out.below B (Nat.le_refl _))
  have HO2 := Lib.hid O2
  have hs2 := B.size
  clear B O2 H2 HO1 T1
  by_cases h1 : z1 = 0
  · by_cases h2 : z2 = 0
    · have e1 : (z1 == 0) = true := by simpa using h1
      have e2 : (z2 == 0) = true := by simpa using h2
      have HVV : Hid (smV a n b m = decide (L1 = L2)) := Lib.hid (by rw [HV.out]; simp [h1, h2])
      have HE := Lib.hid (equalSen_c A1 A2 L1.length L2.length c1 c2 _ _ L1 L2 w2 HO1b.out.reads HO2.out.reads (by omega) (by omega))
      clear h1 h2
      go_wp2_with fail
      refine HE.out.mono ?_
      rintro e w3 ⟨rfl, B⟩
      have T3 := Lib.hid (T2.out.trans (B.mono T2.out.size))
      clear B
      go_wp2
      go_ret
      exact ⟨ret_bool (by rw [HVV.out]), T3.out⟩
    · have e1 : (z1 == 0) = true := by simpa using h1
      have e2 : (z2 == 0) = false := by simpa using h2
      have HVV : Hid (smV a n b m = false) := Lib.hid (by rw [HV.out]; simp [h2])
      clear h1 h2
      go_wp2
      go_ret
      exact ⟨ret_bool (by rw [HVV.out]), T2.out⟩
  · have e1 : (z1 == 0) = false := by simpa using h1
    have HVV : Hid (smV a n b m = false) := Lib.hid (by rw [HV.out]; simp [h1])
    clear h1
    go_wp2
    go_ret
    exact ⟨ret_bool (by rw [HVV.out]), T2.out⟩
end Go.Proofs.YthbnliepgjjbdaaGreatDoor
