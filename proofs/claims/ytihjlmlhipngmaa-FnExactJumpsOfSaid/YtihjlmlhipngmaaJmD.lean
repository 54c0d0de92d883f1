/- The laws' helpers for rows of rows (string). Printed by wip/tools/mk_rows.py. -/
import Derived.Test.YtihjlmlhipngmaaJmC
namespace Go.Proofs.Ytihjlmlhipngmaa
open Go.ChangeShapes Go.WideShapes Go.ChangeAt Go.RowKit
set_option linter.unusedVariables false
structure RdG (w : World) (B : Nat) (A : Option Addr) (n : Nat) (l : List GRow) : Prop where
  row : Reads w B 1 A n (gcs l)
  inn : ∀ x ∈ l, Reads w B 1 x.A x.n x.xs
theorem OwnG.rd {TR TE : TypeId} {w : World} {lo hi n c : Nat} {A : Option Addr} {l : List GRow} (h : OwnG TR TE w lo hi (.slice A n c) n l) : RdG w hi A n l := ⟨h.row.reads, fun x hx => (h.inn x hx).reads⟩
theorem RdG.below {w w' : World} {B n : Nat} {A : Option Addr} {l : List GRow} (h : RdG w B A n l) (hb : Below B w w') : RdG w' B A n l := ⟨h.row.below hb, fun x hx => (h.inn x hx).below hb⟩
theorem RdG.len {w : World} {B n : Nat} {A : Option Addr} {l : List GRow} (h : RdG w B A n l) : l.length = n := by have := h.row.1; rw [gcs_len] at this; omega
theorem RdG.at_ {w : World} {B n k : Nat} {A : Option Addr} {l : List GRow} (h : RdG w B A n l) (hk : k < n) : ∃ ad x, A = some ad ∧ ad.block < B ∧ l[k]? = some x ∧ w.cell? (ad.add k) = some (.slice x.A x.n x.c) ∧ Reads w B 1 x.A x.n x.xs := by
  obtain ⟨ad, u, h1, h2, h3, h4⟩ := h.row.at_ hk
  have hl : l[k]? = some (l[k]'(by have := h.len; omega)) := List.getElem?_eq_getElem _
  rw [gcs_get hl] at h3
  injection h3 with h3
  subst h3
  exact ⟨ad, _, h1, h2, hl, h4, h.inn _ (List.mem_of_getElem? hl)⟩
def totN (l : List GRow) : Nat := (l.map GRow.n).sum
theorem totN_take {l : List GRow} {k : Nat} {x : GRow} (h : l[k]? = some x) : totN (l.take (k + 1)) = totN (l.take k) + x.n := by
  unfold totN; rw [List.take_add_one, h]; simp
theorem totN_le {N : Nat} : ∀ {l : List GRow}, (∀ x ∈ l, x.n ≤ N) → totN l ≤ l.length * N
  | [], _ => by simp [totN]
  | x :: l, h => by
    have h1 := totN_le (fun y hy => h y (List.mem_cons_of_mem _ hy)) (l := l)
    have h2 := h x (List.mem_cons_self ..)
    simp only [totN, List.map_cons, List.sum_cons, List.length_cons, Nat.add_mul] at h1 ⊢
    omega
theorem totN_bd {l : List GRow} {n : Nat} (hx : ∀ x ∈ l, x.n ≤ 1048576) (hl : l.length = n) (hn : n ≤ 1048576) : (totN l : Int) ≤ 1099511627776 := by
  have h1 := totN_le hx
  have h2 : l.length * 1048576 ≤ 1048576 * 1048576 := Nat.mul_le_mul_right _ (by omega)
  omega
def mrkG : Int → List GRow → List GRow
  | _, [] => []
  | k, x :: r => { x with xs := strs (mts k x.n) } :: mrkG (k + x.n) r
theorem mrkG_app : ∀ (a b : List GRow) (k : Int), mrkG k (a ++ b) = mrkG k a ++ mrkG (k + totN a) b
  | [], b, k => by simp [mrkG, totN]
  | x :: a, b, k => by
    rw [List.cons_append, mrkG, mrkG, mrkG_app a b, List.cons_append]
    congr 3
    simp [totN]; omega
theorem mrkG_len : ∀ (a : List GRow) (k : Int), (mrkG k a).length = a.length
  | [], k => rfl
  | x :: a, k => by rw [mrkG, List.length_cons, List.length_cons, mrkG_len a]
theorem drop_get {α : Type} {l : List α} {k : Nat} {z : α} (h : l[k]? = some z) : l = l.take k ++ z :: l.drop (k + 1) := drop_cons_get h
theorem mrkG_get {l : List GRow} {i : Nat} {x : GRow} (k : Int) (h : l[i]? = some x) : (mrkG k l)[i]? = some { x with xs := strs (mts (k + totN (l.take i)) x.n) } := by
  have hi := (List.getElem?_eq_some_iff.1 h).1
  conv => lhs; rw [drop_get h]
  have hl : (l.take i).length = i := by rw [List.length_take]; omega
  rw [mrkG_app, List.getElem?_append_right (by rw [mrkG_len, hl]; exact Nat.le_refl _), mrkG_len, hl, Nat.sub_self, mrkG]; rfl
def mrkGTo (k : Int) (l : List GRow) (m : Nat) : List GRow := mrkG k (l.take m) ++ l.drop m
theorem mrkGTo_zero (k : Int) (l : List GRow) : mrkGTo k l 0 = l := by simp [mrkGTo, mrkG]
theorem mrkGTo_get {l : List GRow} {m : Nat} {x : GRow} (k : Int) (h : l[m]? = some x) : (mrkGTo k l m)[m]? = some x := by
  have hi := (List.getElem?_eq_some_iff.1 h).1
  unfold mrkGTo
  have hl : (l.take m).length = m := by rw [List.length_take]; omega
  rw [List.getElem?_append_right (by rw [mrkG_len, hl]; exact Nat.le_refl _), mrkG_len, hl, Nat.sub_self, List.getElem?_drop, Nat.add_zero, h]
theorem mrkGTo_set {l : List GRow} {m : Nat} {x : GRow} (k : Int) (h : l[m]? = some x) : (mrkGTo k l m).set m { x with xs := strs (mts (k + totN (l.take m)) x.n) } = mrkGTo k l (m + 1) := by
  have hi := (List.getElem?_eq_some_iff.1 h).1
  have hl : (l.take m).length = m := by rw [List.length_take]; omega
  unfold mrkGTo
  rw [List.set_append_right _ _ (by rw [mrkG_len, hl]; exact Nat.le_refl _), mrkG_len, hl, Nat.sub_self, take_snoc_rg h, mrkG_app, mrkG, mrkG, List.append_assoc]
  congr 1
  rw [List.drop_eq_getElem_cons hi, List.set_cons_zero]; rfl
theorem mrkGTo_all (k : Int) (l : List GRow) : mrkGTo k l l.length = mrkG k l := by simp [mrkGTo]
set_option maxHeartbeats 2000000 in
theorem eqStringSS_same (A D : Option Addr) (n m c d BA BD : Nat) (l l' : List GRow) (ss : List (List ByteArray)) (w : World) (ha : RdG w BA A n l) (hd : RdG w BD D m l') (hl : l.map GRow.xs = ss.map strs) (hl' : l'.map GRow.xs = ss.map strs) (hx : ∀ x ∈ l, x.n ≤ 1048576)
    (hA : BA ≤ w.heap.size) (hD : BD ≤ w.heap.size) (hn : n ≤ 1048576) :
    Calls Try.prog 9 #[.slice A n c, .slice D m d] w fun e w' => e = .returned (.bool true) ∧ Below w.heap.size w w' := by
  obtain rfl : n = m := by
    rw [← ha.len, ← hd.len]
    have h1 := congrArg List.length hl
    have h2 := congrArg List.length hl'
    simp at h1 h2
    omega
  have HA := Lib.hid ha
  have HDD := Lib.hid hd
  have HX := Lib.hid hx
  have HE1 := Lib.hid hl
  have HE2 := Lib.hid hl'
  clear ha hd hx hl hl'
  go_enter Try.func9, Try.ntmps9
  go_wp2
  go_loopw [5] (fun i wr => ∃ k : Nat, k ≤ n ∧ i = .int .i64 k ∧ Hid (Below w.heap.size w wr)) (fun i _ => n - (intOf i).toNat)
  case atStart => exact ⟨0, Nat.zero_le _, rfl, Lib.hid (Below.refl _ _)⟩
  case round =>
    obtain ⟨k, hk, rfl, HT⟩ := hrel
    by_cases hlt : k < n
    · have HA1 := Lib.hid (HA.out.below (HT.out.mono hA))
      have HD1 := Lib.hid (HDD.out.below (HT.out.mono hD))
      obtain ⟨ad, x, rfl, hb1, hs, c0, hnx⟩ := HA1.out.at_ hlt
      obtain ⟨ad', y, rfl, hb2, ht, d0, hny⟩ := HD1.out.at_ hlt
      obtain ⟨q, hq⟩ : ∃ q, ss[k]? = some q := by
        have h1 : (l.map GRow.xs)[k]? = some x.xs := by simp [hs]
        rw [HE1.out, List.getElem?_map, Option.map_eq_some_iff] at h1
        obtain ⟨q, hq, _⟩ := h1
        exact ⟨q, hq⟩
      have ex : x.xs = strs q := by
        have h1 : (l.map GRow.xs)[k]? = some x.xs := by simp [hs]
        rw [HE1.out, List.getElem?_map, hq] at h1; injection h1 with h1; exact h1.symm
      have ey : y.xs = strs q := by
        have h1 : (l'.map GRow.xs)[k]? = some y.xs := by simp [ht]
        rw [HE2.out, List.getElem?_map, hq] at h1; injection h1 with h1; exact h1.symm
      rw [ex] at hnx
      rw [ey] at hny
      have HNX := Lib.hid hnx
      have HNY := Lib.hid hny
      have hxn := HX.out x (List.mem_of_getElem? hs)
      have HS : Hid (∀ W', Below wr.heap.size wr W' → (W'.cell? (ad.add k) = some (.slice x.A x.n x.c) ∧ W'.cell? (ad'.add k) = some (.slice y.A y.n y.c))) := Lib.hid fun W' hW =>
        ⟨(hW.cell (p := ad.add k) (by rw [block_of_add]; have := HT.out.size; omega)).trans c0, (hW.cell (p := ad'.add k) (by rw [block_of_add]; have := HT.out.size; omega)).trans d0⟩
      have hB := Below.refl wr.heap.size wr
      have hwz := HT.out.size
      have hkn : (k : Int) < (n : Int) := by omega
      have hk0 : (0 : Int) ≤ (k : Int) := by omega
      clear hs ht hnx hny ex ey hq
      go_wp2
      go_region_held3 (fun w' => Below wr.heap.size wr w' ∧ (w'.cell? (ad.add k) = some (.slice x.A x.n x.c) ∧ w'.cell? (ad'.add k) = some (.slice y.A y.n y.c))) (first | exact keepB HS.out (by assumption) (by first | assumption | exact And.left (by assumption)) | exact keepD HS.out (by assumption) | (go_keep; done))
        (first | (go_at_call 31; refine (eqStringS_same x.A y.A x.n y.n x.c y.c BA BD q _ (HNX.out.below (Below.mono (by first | assumption | exact And.left (by assumption)) (by omega))) (HNY.out.below (Below.mono (by first | assumption | exact And.left (by assumption)) (by omega))) (by omega)).mono ?_; rintro e w1 ⟨rfl, hb⟩))
      replace hb := Lib.hid (HT.out.drew.trans (hb.mono HT.out.size))
      clear hB c0 d0 HS
      go_wp2
      go_roundw
      case rel => exact ⟨k + 1, by omega, by go_num, hb⟩
      case measure => simp [intOf]; omega
    · go_wp2
      go_ret
      exact ⟨rfl, HT.out⟩
set_option maxHeartbeats 2000000 in
theorem markStringSS_c (A : Option Addr) (n c lo hi : Nat) (l : List GRow) (k : Int) (w : World) (h : OwnG 47 9 w lo hi (.slice A n c) n l) (hx : ∀ x ∈ l, x.n ≤ 1048576) (hh : hi ≤ w.heap.size) (hn : n ≤ 1048576) (hk0 : 1 ≤ k) (hk1 : k ≤ 1099511627776000) :
    Calls Try.prog 12 #[.slice A n c, .int .i64 k] w fun e w' => e = .returned (.int .i64 (k + totN l)) ∧ OwnG 47 9 w' lo hi (.slice A n c) n (mrkG k l) ∧ Only lo hi w w' := by
  have HL := Lib.hid h.len
  have HX := Lib.hid hx
  have HM0 := Lib.hid (mrkGTo_zero k l)
  have HMB : Hid (∀ m, m ≤ n → (totN (l.take m) : Int) ≤ 1099511627776) := Lib.hid fun m hm => totN_bd (fun x hxm => hx x (List.mem_of_mem_take hxm)) (by have := h.len; rw [List.length_take]; omega) (by omega : m ≤ 1048576)
  have HO0 := Lib.hid h
  clear h hx
  go_enter Try.func12, Try.ntmps12
  go_wp2
  go_loopw [1, 5] (fun j i wr => ∃ (m : Nat) (z : Int), m ≤ n ∧ i = .int .i64 m ∧ j = .int .i64 z ∧ Hid (z = k + totN (l.take m)) ∧ Hid (OwnG 47 9 wr lo hi (.slice A n c) n (mrkGTo k l m)) ∧ Hid (Only lo hi w wr)) (fun _ i _ => n - (intOf i).toNat)
  case atStart => exact ⟨0, k, Nat.zero_le _, rfl, rfl, Lib.hid (by simp [totN]), Lib.hid (by rw [HM0.out]; exact HO0.out), Lib.hid (Only.refl _ _ _)⟩
  case round =>
    clear HM0 HO0
    obtain ⟨m, z, hm, rfl, rfl, HZ, HO, HW⟩ := hrel
    have hwz := HW.out.size
    have hzb : 1 ≤ z ∧ z ≤ 1200000000000000 := by have := HMB.out m hm; have := HZ.out; omega
    obtain ⟨hz1, hz2⟩ := hzb
    by_cases hlt : m < n
    · have hxs : l[m]? = some (l[m]'(by have := HL.out; omega)) := List.getElem?_eq_getElem _
      generalize l[m]'(by have := HL.out; omega) = x at hxs
      have HXS := Lib.hid hxs
      have hxn := HX.out x (List.mem_of_getElem? hxs)
      obtain ⟨g, x', hA, hg1, hg2, hx', hc, hox⟩ := HO.out.at_ hlt
      subst hA
      have HXM := Lib.hid (mrkGTo_get k HXS.out)
      obtain rfl : x = x' := by have h := HXM.out; rw [hx'] at h; injection h with h; exact h.symm
      obtain ⟨b, d, hnb, hbd⟩ := hox.narrow
      have hdz : d ≤ wr.heap.size := by
        rcases hbd with h | h
        · exact h.2.2.2.2
        · omega
      have HNB := Lib.hid hnb
      have HBD := Lib.hid hbd
      have hmn : (m : Int) < (n : Int) := by omega
      clear hxs hx' hox hnb hbd
      go_wp2_with fail
      refine (markStringS_c x.A x.n x.c b d _ z wr HNB.out (by omega) (by omega) (by omega) (by omega)).mono ?_
      rintro e w4 ⟨rfl, hn4, ho4⟩
      have hsn := HO.out.setIn (ys := strs (mts z x.n)) (by decide) HXM.out ho4 hn4 HBD.out
      have HS : Hid (OwnG 47 9 w4 lo hi (.slice (some ⟨g, 0, none⟩) n c) n (mrkGTo k l (m + 1))) := Lib.hid (by
        rw [← mrkGTo_set k HXS.out, ← HZ.out]; exact hsn.1)
      have HS2 := Lib.hid (HW.out.trans hsn.2)
      have HZ2 : Hid (z + x.n = k + totN (l.take (m + 1))) := Lib.hid (by rw [totN_take HXS.out, HZ.out]; omega)
      clear hsn hn4 ho4 hc HO HW
      go_wp2
      go_roundw
      case rel => exact ⟨m + 1, _, by omega, by go_num, rfl, HZ2, HS, HS2⟩
      case measure => simp [intOf]; omega
    · obtain rfl : m = n := by omega
      have hfin : mrkGTo k l m = mrkG k l := by have := mrkGTo_all k l; rw [HL.out] at this; exact this
      have htk : l.take m = l := List.take_of_length_le (by have := HL.out; omega)
      rw [hfin] at HO
      rw [htk] at HZ
      clear hfin htk
      go_wp2
      go_ret
      exact ⟨ret_int HZ.out, HO.out, HW.out⟩
set_option maxHeartbeats 2000000 in
theorem heldStringSS_c (A : Option Addr) (n c B : Nat) (l : List GRow) (k : Int) (w : World) (h : RdG w B A n (mrkG k l)) (hx : ∀ x ∈ l, x.n ≤ 1048576) (hB : B ≤ w.heap.size) (hn : n ≤ 1048576) (hk0 : 1 ≤ k) (hk1 : k ≤ 1099511627776000) :
    Calls Try.prog 13 #[.slice A n c, .int .i64 k] w fun e w' => e = .returned (.int .i64 (k + totN l)) ∧ Below w.heap.size w w' := by
  have HL := Lib.hid (show l.length = n by have := h.len; rw [mrkG_len] at this; exact this)
  have HX := Lib.hid hx
  have HMB : Hid (∀ m, m ≤ n → (totN (l.take m) : Int) ≤ 1099511627776) := Lib.hid fun m hm => totN_bd (fun x hxm => hx x (List.mem_of_mem_take hxm)) (by have := HL.out; rw [List.length_take]; omega) (by omega : m ≤ 1048576)
  have HA := Lib.hid h
  clear h hx
  go_enter Try.func13, Try.ntmps13
  go_wp2
  go_loopw [1, 5] (fun j i wr => ∃ (m : Nat) (z : Int), m ≤ n ∧ i = .int .i64 m ∧ j = .int .i64 z ∧ Hid (z = k + totN (l.take m)) ∧ Hid (Below w.heap.size w wr)) (fun _ i _ => n - (intOf i).toNat)
  case atStart => exact ⟨0, k, Nat.zero_le _, rfl, rfl, Lib.hid (by simp [totN]), Lib.hid (Below.refl _ _)⟩
  case round =>
    obtain ⟨m, z, hm, rfl, rfl, HZ, HW⟩ := hrel
    have hwz := HW.out.size
    have hzb : 1 ≤ z ∧ z ≤ 1200000000000000 := by have := HMB.out m hm; have := HZ.out; omega
    obtain ⟨hz1, hz2⟩ := hzb
    by_cases hlt : m < n
    · have hxs : l[m]? = some (l[m]'(by have := HL.out; omega)) := List.getElem?_eq_getElem _
      generalize l[m]'(by have := HL.out; omega) = x at hxs
      have HXS := Lib.hid hxs
      have hxn := HX.out x (List.mem_of_getElem? hxs)
      have hgx := mrkG_get k hxs
      rw [← HZ.out] at hgx
      have HR := Lib.hid (HA.out.below (HW.out.mono hB))
      obtain ⟨ad, y, rfl, hbl, hs, c0, hny⟩ := HR.out.at_ hlt
      obtain rfl : { x with xs := strs (mts z x.n) } = y := by rw [hgx] at hs; injection hs
      simp only at c0
      have HNY := Lib.hid hny
      have hmk : (m : Int) < (n : Int) := by omega
      clear hs hxs hgx hny
      go_wp2_with fail
      refine (heldStringS_c x.A x.n x.c B z wr HNY.out (by omega) (by omega) (by omega) (by omega)).mono ?_
      rintro e w2 ⟨rfl, hb⟩
      have HB2 := Lib.hid (HW.out.trans (hb.mono HW.out.size))
      have HZ2 : Hid (z + x.n = k + totN (l.take (m + 1))) := Lib.hid (by rw [totN_take HXS.out, HZ.out]; omega)
      have hng : ¬ (z + (x.n : Int) < 0) := by omega
      clear hb c0 HNY
      go_wp2
      go_roundw
      case rel => exact ⟨m + 1, _, by omega, by go_num, rfl, HZ2, HB2⟩
      case measure => simp [intOf]; omega
    · obtain rfl : m = n := by omega
      have htk : l.take m = l := List.take_of_length_le (by have := HL.out; omega)
      rw [htk] at HZ
      clear htk
      go_wp2
      go_ret
      exact ⟨ret_int HZ.out, HW.out⟩
end Go.Proofs.Ytihjlmlhipngmaa
