/- Texts of zones: parts, joining, reading by both. -/
import Derived.Test.YtjmnhmghpikknaaDoorZnB
import Derived.Test.YtjmnhmghpikknaaDoorSh
namespace Go.Proofs.YtjmnhmghpikknaaDoor
open Go.ChangeShapes Go.WideShapes Go.ChangeAt Go.RowKit
set_option linter.unusedVariables false
/-- the list of integers that a row of texts stands for -/
def SPost (l : List ByteArray) (w : World) (e : Ending) (w' : World) : Prop :=
  ∃ A c, e = .returned (.slice A l.length c) ∧ Own w' w.heap.size w'.heap.size 9 1 (.slice A l.length c) l.length (strs l) ∧ Below w.heap.size w w'
theorem byte_list (s : ByteArray) {k : Nat} (h : k < s.size) (c : UInt8) : decide (s.data.toList[k]? = some c) = ((((s[k]'h).toNat : Nat) : Int) == (c.toNat : Nat)) := by
  have h2 : s.data.toList[k]? = some (s[k]'h) := by
    rw [Array.getElem?_toList, Array.getElem?_eq_getElem h]; rfl
  rw [h2, Bool.eq_iff_iff, decide_eq_true_iff, beq_iff_eq, Option.some.injEq]
  constructor
  · rintro rfl; rfl
  · intro e
    exact UInt8.toNat_inj.1 (by omega)
def RZPost (v : List Int × Bool) (w : World) (e : Ending) (w' : World) : Prop :=
  ∃ A c, e = .returned (.tuple #[.slice A v.1.length c, .bool v.2]) ∧ Own w' w.heap.size w'.heap.size 2 1 (.slice A v.1.length c) v.1.length (ints v.1) ∧ v.1.length ≤ 1048576 ∧ Below w.heap.size w w'
theorem RZPost.nil {v : List Int × Bool} {b : Bool} {w w' : World} (hv : v = ([], b)) (hb : Below w.heap.size w w') : RZPost v w (.returned (.tuple #[.slice none 0 0, .bool b])) w' := by
  subst hv
  exact ⟨none, 0, rfl, Own.nil, by simp, hb⟩
theorem empT (s : ByteArray) : (s.toList == []) = decide (s.size = 0) := by
  have e : s.toList.length = s.size := by rw [ByteArray.toList_eq]; rfl
  rw [Bool.eq_iff_iff, beq_iff_eq, decide_eq_true_iff]
  constructor
  · intro h; rw [h] at e; simpa using e.symm
  · intro h; rw [h] at e; exact List.eq_nil_of_length_eq_zero e
/-- the zone of a name, sought from the first k names -/
def znK (b : ByteArray) : Nat → Int
  | 0 => -1
  | k + 1 => if nameZ k = b then k else znK b k
theorem znK_all (b : ByteArray) : znK b 4 = zn b := by
  simp only [znK, zn]
  by_cases h0 : nameZ 0 = b
  · subst h0; simp [nameZ]
  · by_cases h1 : nameZ 1 = b
    · subst h1; simp [nameZ]
    · by_cases h2 : nameZ 2 = b
      · subst h2; simp [nameZ]
      · by_cases h3 : nameZ 3 = b
        · subst h3; simp [nameZ]
        · simp [h0, h1, h2, h3]
theorem own_grownZ {w w' : World} {lo hi s n : Nat} {T : TypeId} {v : Value} {xs : List Value} {row : Option Nat} (h : Own w lo hi T s v n xs) (hg : w.grownBy w' row) (hne : ∀ g, v.ownBlock = some g → some g ≠ row) : Own w' lo hi T s v n xs := by
  refine ⟨⟨h.1.1, ?_⟩, h.2⟩
  rcases h.1.2 with hn | ⟨g, cap, cur, rfl, hb, hgb, rest⟩
  · exact .inl hn
  · refine .inr ⟨g, cap, cur, rfl, hb, ?_, rest⟩
    rw [hg.block g (Array.getElem?_eq_some_iff.1 hgb).1 (hne g (by simp [Value.ownBlock]))]
    exact hgb
theorem app_i64k {ops : Array Oper} {rest : List Oper} {o : Oper} {a : Act} {Q : Exit → Act → World → Prop} {w : World} (hgd : o.guard = none) (s x : Operand)
    (ho : o.op = .call { callee := .builtin .append, args := #[s, x], argTypes := #[27, 27] })
    (lo : Nat) (v : Value) (n : Nat) (zs : List Int) (z : Int) (g : Nat) (hs : a.eval s = v) (hown : w.ownsRow lo 2 1 v n (ints zs))
    (hx : a.eval x = .slice (some ⟨g, 0, none⟩) 1 1) (hc : w.cell? ⟨g, 0, none⟩ = some (.int .i64 z)) (hn : n ≤ 100000000000) (hlo : lo ≤ w.heap.size)
    (h : ∀ v' w', w'.ownsRow lo 2 1 v' (n + 1) (ints (zs ++ [z])) → w.grownBy w' v.ownBlock → (v'.ownBlock = v.ownBlock ∨ v'.ownBlock = some w.heap.size) → wpList Tryd.prog ops Q rest (a.put o.dst v') w') : wpList Tryd.prog ops Q (o :: rest) a w := by
  obtain ⟨i, hi, hz, hs', hb⟩ := info_parts info_i64
  have hg : g < w.heap.size := World.block_lt_of_cell? w ⟨g, 0, none⟩ hc
  refine wpList_append_any w hgd s x _ ho lo _ i _ 1 8 Tryd.underlying27 hi hz hs' hb rfl (by omega) v n (ints zs) hs hown w.heap.size (some ⟨g, 0, none⟩) 1 1 (ints [z]) hx
    ⟨rfl, fun _ => ⟨_, rfl, hg, fun j u hu => ?_⟩⟩ (ints_one [z]) (by simp only [maxLen]; omega) (by omega) hlo ?_
  · match j with
    | 0 => simp [ints] at hu; subst hu; exact hc
    | j + 1 => simp [ints] at hu
  · intro v' w' h2 h3 h4
    exact h v' w' (by rw [ints_app]; exact h2) h3 h4
theorem join_le (c : UInt8) : ∀ P : List (List UInt8), (∀ p ∈ P, p.length ≤ 6) → (Lib.join P [c]).length ≤ 7 * P.length
  | [], _ => by simp [Lib.join_nil]
  | [x], h => by rw [Lib.join_one]; have := h x (by simp); simp; omega
  | x :: y :: r, h => by
    have ih := join_le c (y :: r) (fun p hp => h p (List.mem_cons_of_mem _ hp))
    have := h x (by simp)
    rw [join_two, List.length_append, List.length_cons]
    simp only [List.length_cons] at ih ⊢
    omega
theorem nameZ_len (z : Int) : (nameZ z).data.toList.length ≤ 6 := by
  unfold nameZ
  split <;> decide
def textZ (zs : List Int) : ByteArray := ⟨(Lib.join (tlZ (zs.map nameZ)) [32]).toArray⟩
set_option maxHeartbeats 4000000 in
set_option maxRecDepth 100000 in
theorem iZonesText_c (A : Option Addr) (n c B : Nat) (zs : List Int) (w : World) (ha : Reads w B 1 A n (ints zs)) (hB : B ≤ w.heap.size) (hn : n ≤ 1048576) :
    Calls Tryd.prog 10 #[.slice A n c] w fun e w' => e = .returned (.string (if (decide (n ≤ 64) && allInB 0 3 zs) = true then textZ zs else ⟨#[]⟩)) ∧ Below w.heap.size w w' := by
  have HZ := Lib.hid (zonesOk_c A n c B zs w ha hB hn)
  have HA := Lib.hid ha
  have HLZ := Lib.hid ha.len
  clear ha
  cases hok : (decide (n ≤ 64) && allInB 0 3 zs)
  · rw [hok] at HZ
    clear hok
    go_enter Tryd.func10, Tryd.ntmps10
    go_wp2_with fail
    refine HZ.out.mono ?_
    rintro e w1 ⟨rfl, B1⟩
    go_wp2
    go_ret
    exact ⟨rfl, B1⟩
  · rw [hok] at HZ
    have hn64 : n ≤ 64 := by simp at hok; omega
    clear hok
    go_enter Tryd.func10, Tryd.ntmps10
    go_wp2_with fail
    refine HZ.out.mono ?_
    rintro e w1 ⟨rfl, B1⟩
    have HB1 := Lib.hid B1
    have O1 : Hid (w1.ownsRow w.heap.size 9 1 (.slice none 0 0) 0 (strs ((zs.take 0).map nameZ))) := Lib.hid (World.ownsRow_nil _ _ _ _)
    clear B1
    go_wp2
    go_loopw [3, 11] (fun ov iv wr => ∃ k : Nat, k ≤ n ∧ iv = .int .i64 k ∧ Hid (wr.ownsRow w.heap.size 9 1 ov k (strs ((zs.take k).map nameZ))) ∧ Hid (Below w.heap.size w wr)) (fun _ iv _ => n - (intOf iv).toNat)
    case atStart => exact ⟨0, Nat.zero_le _, rfl, O1, HB1⟩
    case round =>
      clear O1 HB1
      obtain ⟨k, hk, rfl, HO, HB⟩ := hrel
      have hwr := HB.out.size
      by_cases hlt : k < n
      · obtain ⟨ad, z, rfl, _, hz, cz⟩ := (HA.out.below (HB.out.mono hB)).int hlt
        have hkn : (k : Int) < (n : Int) := by omega
        have hk0 : (0 : Int) ≤ (k : Int) := by omega
        have HT : Hid ((zs.take (k + 1)).map nameZ = (zs.take k).map nameZ ++ [nameZ z]) := Lib.hid (by rw [List.take_add_one, hz, List.map_append]; rfl)
        have HOW := Lib.hid (owns_alZ HO.out (.cells #[.string (nameZ z)] 9))
        clear hz
        go_wp2_with fail
        refine (iZoneName_c z wr).mono ?_
        rintro e w2 ⟨rfl, rfl⟩
        go_wp2_with (at_builtin; refine app_str rfl (.tmp 15) (.tmp 18) rfl w.heap.size _ k ((zs.take k).map nameZ) (nameZ z) _ rfl HOW.out rfl ?_ (by omega) ?_ ?_)
        rotate_left 2
        · intro v' w2 O4 B4 hs4
          have HO2 : Hid (w2.ownsRow w.heap.size 9 1 v' (k + 1) (strs ((zs.take (k + 1)).map nameZ))) := Lib.hid (by rw [HT.out, List.map_take]; exact O4)
          have HB2 := Lib.hid (HB.out.trans ((((Below.refl w.heap.size wr).alloc hwr (.cells #[.string (nameZ z)] 9))).trans B4))
          clear O4 B4 hs4 HOW
          go_wp2
          go_roundw
          case rel => exact ⟨k + 1, by omega, by go_num, HO2, HB2⟩
          case measure => simp [intOf]; omega
        · exact (Blk.new _ _ _).cell 0
        · simp; omega
      · obtain rfl : k = n := by omega
        obtain ⟨A2, c2, rfl, hc2, _⟩ := (Own.of_owns HO.out (Nat.le_refl _)).slice
        rw [List.take_of_length_le (by have := HLZ.out; omega)] at HO
        have HLX : Hid ((zs.map nameZ).length = k) := Lib.hid (by rw [List.length_map]; exact HLZ.out)
        by_cases hk0 : k = 0
        · subst hk0
          have HJ := Lib.hid (Tryd.strings_Join_none A2 c2 ⟨#[32]⟩ wr)
          have HT : Hid (textZ zs = ⟨#[]⟩) := Lib.hid (by
            have h : zs = [] := List.eq_nil_of_length_eq_zero HLZ.out
            rw [h]; rfl)
          go_wp2_with fail
          refine HJ.out.mono ?_
          rintro e w2 ⟨rfl, rfl⟩
          go_wp2
          go_ret
          exact ⟨by first | (rw [if_pos trivial, HT.out]; rfl) | (rw [HT.out]; rfl), HB.out⟩
        · obtain ⟨g, rfl, _, _, hgl⟩ := (Own.of_owns HO.out (Nat.le_refl _)).at_ (by omega)
          have HJ := Lib.hid (Tryd.strings_Join g 0 c2 (zs.map nameZ) ⟨#[32]⟩ wr (fun j x hx => by
              have hj : j < k := by have h1 := (List.getElem?_eq_some_iff.1 hx).1; have := HLX.out; omega
              rw [Nat.zero_add, HO.out.cellAt j (by omega)]
              unfold strs
              rw [List.getElem?_map, hx]; rfl) hgl (by rw [HLX.out]; omega) (by rw [HLX.out]; exact hc2) (by
              have h := join_le 32 ((zs.map nameZ).map (·.data.toList)) (fun p hp => by
                obtain ⟨b, hb, rfl⟩ := List.mem_map.1 hp
                obtain ⟨z, _, rfl⟩ := List.mem_map.1 hb
                exact nameZ_len z)
              rw [List.length_map, HLX.out] at h
              exact Nat.le_trans h (by omega)))
          rw [HLX.out] at HJ
          go_wp2_with fail
          refine HJ.out.mono ?_
          rintro e w2 ⟨rfl, B2⟩
          go_wp2
          go_ret
          exact ⟨by unfold textZ tlZ; rw [List.map_map]; rfl, HB.out.trans (B2.mono HB.out.size)⟩
set_option maxHeartbeats 4000000 in
set_option maxRecDepth 100000 in
theorem iReadZones_c (s : ByteArray) (m0 : Int) (w : World) (hs : s.size ≤ 1048576) (hm0 : w.cell? ⟨0, 0, none⟩ = some (.int .i64 m0)) :
    Calls Tryd.prog 9 #[.string s] w (RZPost (specZ s) w) := by
  have HEM := Lib.hid (empT s)
  by_cases h0 : s.size = 0
  · have hd : (s.toList == []) = true := by rw [HEM.out]; simpa using h0
    have HV : Hid (specZ s = ([], true)) := Lib.hid (by rw [specZ, if_pos h0])
    clear h0
    go_enter Tryd.func9, Tryd.ntmps9
    go_wp2
    go_ret2
    exact RZPost.nil HV.out (Below.refl _ _)
  · have hd : (s.toList == []) = false := by rw [HEM.out]; simpa using h0
    have HSP := Lib.hid (Tryd.strings_SplitN s ⟨#[32]⟩ 65 m0 w (by omega) hm0 (by decide) (by omega) (by omega))
    have HNO := Lib.hid fun b (hb : b ∈ partsZ s) (hz : zn b < 0) => impl_no h0 hb hz
    have HYS := Lib.hid fun (h : ∀ b ∈ partsZ s, 0 ≤ zn b) => (impl_all h0 h).2
    have hpl : (partsZ s).length ≤ 65 := by
      have := Lib.splitB_length_le sp1 0 (min 65 (s.size + 1) - 1) s
      unfold partsZ; omega
    have hpn : (partsZ s).length ≤ min 65 (s.size + 1) := by
      have := Lib.splitB_length_le sp1 0 (min 65 (s.size + 1) - 1) s
      unfold partsZ; omega
    change Hid (Calls _ _ _ _ fun e w' => e = .returned (.slice (some ⟨w.heap.size, 0, none⟩) (partsZ s).length (min 65 (s.size + 1))) ∧ w' = w.alloc (.cells (Lib.cellsOf (partsZ s) (min 65 (s.size + 1))) 9)) at HSP
    generalize hL : partsZ s = L at *
    clear hL h0 hm0
    generalize hN : min 65 (s.size + 1) = N at *
    clear hN
    go_enter Tryd.func9, Tryd.ntmps9
    go_wp2_with fail
    refine HSP.out.mono ?_
    rintro e w1 ⟨rfl, hw1⟩
    have hs1 : w1.heap.size = w.heap.size + 1 := by rw [hw1]; simp
    have HB1 : Hid (Below w.heap.size w w1) := Lib.hid (by rw [hw1]; exact (Below.refl _ _).alloc (Nat.le_refl _) _)
    have HC : Hid (∀ (j : Nat) (b : ByteArray), L[j]? = some b → w1.cell? ⟨w.heap.size, j, none⟩ = some (.string b)) := Lib.hid (fun j b hb => by
      rw [hw1, (Blk.new _ _ _).cell j]
      have hj := (List.getElem?_eq_some_iff.1 hb).1
      unfold Lib.cellsOf
      rw [List.getElem?_toArray, List.getElem?_append_left (by simpa using hj), List.getElem?_map, hb]; rfl)
    have O1 : Hid (w1.ownsRow (w.heap.size + 1) 2 1 (.slice none 0 0) 0 (ints ((L.take 0).map zn))) := Lib.hid (World.ownsRow_nil _ _ _ _)
    have HB0 : Hid (Below (w.heap.size + 1) w1 w1) := Lib.hid (Below.refl _ _)
    clear hw1 HSP
    go_wp2
    go_loopw [4, 14] (fun ov iv wr => ∃ k : Nat, k ≤ L.length ∧ iv = .int .i64 k ∧ Hid (wr.ownsRow (w.heap.size + 1) 2 1 ov k (ints ((L.take k).map zn))) ∧ Hid (∀ b ∈ L.take k, 0 ≤ zn b) ∧ Hid (Below (w.heap.size + 1) w1 wr)) (fun _ iv _ => L.length - (intOf iv).toNat)
    case atStart => exact ⟨0, Nat.zero_le _, rfl, O1, Lib.hid (by simp), HB0⟩
    case round =>
      clear O1 HB0
      obtain ⟨k, hk, rfl, HO, HOK, HB⟩ := hrel
      have hwr := HB.out.size
      by_cases hlt : k < L.length
      · have hb : L[k]? = some (L[k]) := List.getElem?_eq_getElem hlt
        generalize L[k] = b at hb
        have cb : wr.cell? ⟨w.heap.size, k, none⟩ = some (.string b) := by rw [HB.out.cell (show w.heap.size < w.heap.size + 1 by omega)]; exact HC.out k b hb
        have hkn : (k : Int) < (L.length : Int) := by omega
        have hk0 : (0 : Int) ≤ (k : Int) := by omega
        have HMB := Lib.hid (List.mem_of_getElem? hb)
        have HT : Hid ((L.take (k + 1)).map zn = (L.take k).map zn ++ [zn b]) := Lib.hid (by rw [List.take_add_one, hb, List.map_append]; rfl)
        have HTK : Hid (L.take (k + 1) = L.take k ++ [b]) := Lib.hid (by rw [List.take_add_one, hb]; rfl)
        have HLE := Lib.hid (least_c _ _ _ (wr.alloc (.cells #[.string b] 9)) (readZones1_c b ⟨wr.heap.size, 0, none⟩ (wr.alloc (.cells #[.string b] 9)) ((Blk.new _ _ _).cell 0) (by simp)))
        rw [least_name] at HLE
        clear hb
        go_wp2_with fail
        refine HLE.out.mono ?_
        rintro e w2 ⟨rfl, B2⟩
        have HB2 := Lib.hid (HB.out.trans (((Below.refl wr.heap.size wr).alloc (Nat.le_refl _) (.cells #[.string b] 9)).trans (B2.mono (by simp)) |>.mono (by omega)))
        have HO2 := Lib.hid (owns_belZ (owns_alZ HO.out (.cells #[.string b] 9)) B2 (Nat.le_refl _))
        have hs2 : w.heap.size + 1 ≤ w2.heap.size := by have := HB2.out.size; omega
        clear B2 cb HLE HO HB
        by_cases hz : 0 ≤ zn b
        · rw [if_pos hz]
          have HOW := Lib.hid (owns_alZ HO2.out (.cells #[.int .i64 (zn b)] 2))
          go_wp2_with (at_builtin; refine app_i64 rfl (.tmp 25) (.tmp 27) rfl (w.heap.size + 1) _ k ((L.take k).map zn) (zn b) _ rfl HOW.out rfl ?_ (by omega) ?_ ?_)
          rotate_left 2
          · intro v' w3 O4 B4 hs4
            have HO4 : Hid (w3.ownsRow (w.heap.size + 1) 2 1 v' (k + 1) (ints ((L.take (k + 1)).map zn))) := Lib.hid (by rw [HT.out, List.map_take]; exact O4)
            have HB4 := Lib.hid (HB2.out.trans (((Below.refl (w.heap.size + 1) w2).alloc hs2 (.cells #[.int .i64 (zn b)] 2)).trans B4))
            have HOK4 : Hid (∀ b ∈ L.take (k + 1), 0 ≤ zn b) := Lib.hid (fun x hx => by
              rw [HTK.out] at hx
              rcases List.mem_append.1 hx with hx | hx
              · exact HOK.out x hx
              · rw [List.mem_singleton] at hx; rw [hx]; exact hz)
            clear O4 B4 hs4 HOW
            go_wp2
            go_roundw
            case rel => exact ⟨k + 1, by omega, by go_num, HO4, HOK4, HB4⟩
            case measure => simp [intOf]; omega
          · exact (Blk.new _ _ _).cell 0
          · simp; omega
        · rw [if_neg hz]
          have HV := Lib.hid (HNO.out b HMB.out (by omega))
          go_wp2
          go_ret2
          exact RZPost.nil HV.out (HB1.out.trans (HB2.out.mono (by omega)))
      · obtain rfl : k = L.length := by omega
        rw [List.take_length] at HO HOK
        obtain ⟨A2, c2, rfl, _, _⟩ := (Own.of_owns HO.out (Nat.le_refl _)).slice
        obtain ⟨hj, hv⟩ := HYS.out HOK.out
        have HV := Lib.hid hv
        have HJ := Lib.hid hj
        have hall : allInB 0 3 (L.map zn) = true := by
          unfold allInB
          rw [List.all_map, List.all_eq_true]
          intro b hb
          have h1 := HOK.out b hb
          have h2 := zn_bd b
          simp [inB]; omega
        have hnm : (L.map zn).map nameZ = L := by
          rw [List.map_map]
          conv => rhs; rw [← List.map_id L]
          exact List.map_congr_left (fun b hb => zn_name (HOK.out b hb))
        have HTX : Hid (textZ (L.map zn) = s) := Lib.hid (by
          unfold textZ
          rw [hnm, HJ.out])
        have HZT := Lib.hid (iZonesText_c A2 L.length c2 wr.heap.size (L.map zn) wr (Own.of_owns HO.out (Nat.le_refl _)).reads (Nat.le_refl _) (by omega))
        rw [hall, Bool.and_true] at HZT
        have HBW := Lib.hid (HB1.out.trans (HB.out.mono (by omega)))
        clear hj hv hall hnm
        by_cases hl : L.length ≤ 64
        · rw [if_pos (by simpa using hl), HTX.out] at HZT
          rw [if_pos hl] at HV
          go_wp2_with fail
          refine HZT.out.mono ?_
          rintro e w2 ⟨rfl, B2⟩
          have HO2 := Lib.hid (owns_belZ HO.out B2 (Nat.le_refl _))
          have HB2 := Lib.hid (HBW.out.trans (B2.mono HBW.out.size))
          clear B2 HO
          go_wp2
          go_ret2
          refine ⟨A2, c2, by rw [HV.out, List.length_map]; rfl, ?_, by rw [HV.out, List.length_map]; omega, HB2.out⟩
          rw [HV.out, List.length_map]; exact (Own.of_owns HO2.out (Nat.le_refl _)).widen (by omega) (Nat.le_refl _)
        · rw [if_neg (by simpa using hl)] at HZT
          rw [if_neg hl] at HV
          have hd2 : ([] == s.toList) = false := by
            have h := hd
            cases hq : s.toList with
            | nil => rw [hq] at h; cases h
            | cons a r => rfl
          go_wp2_with fail
          refine HZT.out.mono ?_
          rintro e w2 ⟨rfl, B2⟩
          have HB2 := Lib.hid (HBW.out.trans (B2.mono HBW.out.size))
          clear B2 HO
          go_wp2
          go_ret2
          exact RZPost.nil HV.out HB2.out
end Go.Proofs.YtjmnhmghpikknaaDoor
