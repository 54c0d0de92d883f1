/- FnZones: ZoneParts. -/
import Derived.Test.YtjmnhmghpikknaaDoorFzD
namespace Go.Proofs.YtjmnhmghpikknaaDoor
open Go.ChangeShapes Go.WideShapes Go.ChangeAt Go.RowKit
set_option linter.unusedVariables false
structure PZ (w wr : World) (v : Value) (P : List Pt) (l : List GRow) : Prop where
  g : OwnG 27 2 wr w.heap.size wr.heap.size v P.length l
  eq : l.map GRow.xs = P.map Pt.xs
  n3 : ∀ x ∈ l, x.n = 3
  bel : Below w.heap.size w wr
  small : P.length ≤ 1048576
theorem PZ.push {w wr w2 : World} {v v2 : Value} {P : List Pt} {l : List GRow} {z : Int} {k : Nat} (h : PZ w wr v P l)
    (O5 : w2.ownsRow w.heap.size 27 1 v2 (P.length + 1) (gcs l ++ [.slice (some ⟨wr.heap.size, 0, none⟩) 3 3])) (G5 : ((wr.alloc (.cells #[.int .i64 z, .int .i64 k, .int .i64 k] 2)).alloc (.cells #[.slice (some ⟨wr.heap.size, 0, none⟩) 3 3] 27)).grownBy w2 v.ownBlock)
    (hs : P.length + 1 ≤ 1048576) : PZ w w2 v2 (P ++ [⟨z, k, k⟩]) (l ++ [⟨some ⟨wr.heap.size, 0, none⟩, 3, 3, ints [z, (k : Int), (k : Int)]⟩]) := by
  have hbs := h.bel.size
  have hb1 : Below wr.heap.size wr (wr.alloc (.cells #[.int .i64 z, .int .i64 k, .int .i64 k] 2)) := (Below.refl _ _).alloc (Nat.le_refl _) _
  have hg1 : OwnG 27 2 (wr.alloc (.cells #[.int .i64 z, .int .i64 k, .int .i64 k] 2)) w.heap.size (wr.alloc (.cells #[.int .i64 z, .int .i64 k, .int .i64 k] 2)).heap.size v P.length l := (h.g.below hb1 (Nat.le_refl _)).widen (Nat.le_refl _) (by simp)
  have ho := Own.of_blk (lo := w.heap.size) (hi := (wr.alloc (.cells #[.int .i64 z, .int .i64 k, .int .i64 k] 2)).heap.size) (n := 3) (s := 1) (Blk.new wr 2 #[.int .i64 z, .int .i64 k, .int .i64 k]) rfl hbs (by simp) (by simp [maxLen])
  have hX : Below (wr.alloc (.cells #[.int .i64 z, .int .i64 k, .int .i64 k] 2)).heap.size (wr.alloc (.cells #[.int .i64 z, .int .i64 k, .int .i64 k] 2)) ((wr.alloc (.cells #[.int .i64 z, .int .i64 k, .int .i64 k] 2)).alloc (.cells #[.slice (some ⟨wr.heap.size, 0, none⟩) 3 3] 27)) := (Below.refl _ _).alloc (Nat.le_refl _) _
  have hfr : ∀ x ∈ l, ∀ g, x.row.ownBlock = some g → (Value.slice (some ⟨wr.heap.size, 0, none⟩) 3 3).ownBlock ≠ some g := fun x hx g hg e => by
    have h1 := (h.g.inn x hx).2 g hg
    simp [Value.ownBlock] at e
    omega
  have hp := OwnG.push (m := 3) (by decide) hg1 ho hfr hX O5 G5
  refine ⟨by rw [List.length_append]; exact hp, by rw [List.map_append, List.map_append, h.eq]; rfl, fun x hx => ?_, ?_, by simpa using hs⟩
  · rcases List.mem_append.1 hx with hx | hx
    · exact h.n3 x hx
    · rw [List.mem_singleton] at hx; subst hx; rfl
  · refine (h.bel.trans (hb1.mono hbs)).trans (((Below.refl _ _).alloc (by simp; omega) _).trans ((Below.refl _ _).grown G5 (by simp; omega) (fun q hq => (h.g.row.1.lt q hq).1)))
theorem PZ.store {w wr : World} {A : Option Addr} {c : Nat} {P : List Pt} {l : List GRow} (h : PZ w wr (.slice A P.length c) P l) (k : Nat) (hne : 0 < P.length) :
    ∃ (x : GRow) (gx gA : Nat) (cx : Nat), A = some ⟨gA, 0, none⟩ ∧ wr.cell? ⟨gA, P.length - 1, none⟩ = some (.slice (some ⟨gx, 0, none⟩) 3 cx) ∧ wr.cell? ⟨gx, 2, none⟩ = some (.int .i64 (lastP P).l) ∧ wr.frozen? ⟨gx, 2, none⟩ = false ∧
      PZ w (wr.setCell ⟨gx, 2, none⟩ (.int .i64 k)) (.slice A P.length c) (setLast P k) (l.set (P.length - 1) { x with xs := ints [(lastP P).z, ((lastP P).f : Int), (k : Int)] }) := by
  obtain ⟨gA, x, rfl, g1, g2, hx, hc, ho⟩ := h.g.at_ (k := P.length - 1) (by omega)
  have hx3 := h.n3 x (List.mem_of_getElem? hx)
  have hlp := lastP_get hne
  have hxs : x.xs = (lastP P).xs := by
    have e := congrArg (fun q => q[P.length - 1]?) h.eq
    simp only [List.getElem?_map, hx, hlp, Option.map_some] at e
    exact Option.some.inj e
  obtain ⟨b, d, hn, hb⟩ := ho.narrow
  obtain ⟨xA, xn, xc, xx⟩ := x
  simp only at hx3 hxs
  subst hx3; subst hxs
  obtain ⟨gx, rfl, q1, q2, q3⟩ := hn.at_ (by show 0 < 3; omega)
  have hcx : wr.cell? ⟨gx, 2, none⟩ = some (.int .i64 (lastP P).l) := hn.1.cellAt 2 (by show 2 < 3 * 1; omega)
  have hst := hn.stored (j := 2) (.int .i64 (k : Int))
  have hset : ((lastP P).xs).set 2 (.int .i64 (k : Int)) = ints [(lastP P).z, ((lastP P).f : Int), (k : Int)] := rfl
  rw [hset] at hst
  have hsi := h.g.setIn (by decide) hx hst.2 hst.1 hb
  refine ⟨⟨some ⟨gx, 0, none⟩, 3, xc, (lastP P).xs⟩, gx, gA, xc, rfl, hc, hcx, hn.1.frozenAt 2, ?_⟩
  refine ⟨?_, ?_, fun y hy => ?_, h.bel.trans (hsi.2.below (Nat.le_refl _) h.bel.size), by rw [setLast_len]; exact h.small⟩
  · rw [setLast_len]
    exact hsi.1.widen (Nat.le_refl _) (by simp)
  · unfold setLast
    rw [List.map_set, List.map_set, h.eq]; rfl
  · rcases List.mem_or_eq_of_mem_set hy with h1 | h1
    · exact h.n3 y h1
    · subst h1; rfl
def ZPPost (zs : List Int) (w : World) (e : Ending) (w' : World) : Prop :=
  if okZ zs = true then ∃ A c l, e = .returned (.tuple #[.slice A (partsK zs zs.length).length c, .int .i64 0]) ∧ PZ w w' (.slice A (partsK zs zs.length).length c) (partsK zs zs.length) l
  else e = .returned (.tuple #[.slice none 0 0, .int .i64 2]) ∧ Below w.heap.size w w'
set_option maxHeartbeats 4000000 in
set_option maxRecDepth 100000 in
theorem iZoneParts_c (A : Option Addr) (n c B : Nat) (zs : List Int) (w : World) (ha : Reads w B 1 A n (ints zs)) (hB : B ≤ w.heap.size) (hn : n ≤ 1000) :
    Calls Tryd.prog 13 #[.slice A n c] w (ZPPost zs w) := by
  have HZ := Lib.hid (zonesOk_z A n c B zs w w ha hB (by omega))
  have hl := ha.len
  have HA := Lib.hid ha
  clear ha
  unfold ZPPost
  cases h1 : okZ zs
  · rw [h1] at HZ
    simp only [Bool.false_eq_true, reduceIte]
    go_enter Tryd.func13, Tryd.ntmps13
    go_wp2_with fail
    refine HZ.out.mono ?_
    rintro e w1 ⟨rfl, B1⟩
    go_wp2
    go_ret2
    exact ⟨rfl, B1⟩
  · rw [h1] at HZ
    simp only [reduceIte]
    have HL := Lib.hid hl
    clear hl
    go_enter Tryd.func13, Tryd.ntmps13
    go_wp2_with fail
    refine HZ.out.mono ?_
    rintro e w1 ⟨rfl, B1⟩
    have H0 : Hid (PZ w w1 (.slice none 0 0) (partsK zs 0) []) := Lib.hid ⟨OwnG.nil, rfl, fun x hx => by simp at hx, B1, by simp [partsK]⟩
    clear B1 HZ
    go_wp2
    go_loopw [4, 12] (fun ov iv wr => ∃ (k : Nat) (l : List GRow), k ≤ n ∧ iv = .int .i64 k ∧ Hid (PZ w wr ov (partsK zs k) l)) (fun _ iv _ => n - (intOf iv).toNat)
    case atStart => exact ⟨0, [], Nat.zero_le _, rfl, H0⟩
    case round =>
      clear H0
      obtain ⟨k, l, hk, rfl, HP⟩ := hrel
      have hws := HP.out.bel.size
      have hple := partsK_le zs k
      by_cases hlt : k < n
      · obtain ⟨ad, z, rfl, hbl, hz, cz⟩ := (HA.out.below (HP.out.bel.mono hB)).int hlt
        have HZK := Lib.hid hz
        have hkn : (k : Int) < (n : Int) := by omega
        have hk0 : (0 : Int) ≤ (k : Int) := by omega
        clear hz
        by_cases h0 : k = 0
        · have hnew : newP zs k = true := by unfold newP; simp [h0]
          have hq0 : ((k : Int) == 0) = true := by simp [h0]
          clear h0
          have HBK : Hid (baseK zs k (partsK zs k) = partsK zs k ++ [⟨z, k, k⟩]) := Lib.hid (by unfold baseK; rw [if_pos hnew, iA_some HZK.out])
          have HROW := Lib.hid (owns_alZ (owns_alZ HP.out.g.row.1 (.cells #[.int .i64 z, .int .i64 k, .int .i64 k] 2)) (.cells #[.slice (some ⟨wr.heap.size, 0, none⟩) 3 3] 27))
          clear hnew
          go_wp2_with (at_builtin; refine app_rows rfl (.tmp 28) (.tmp 33) rfl w.heap.size _ (partsK zs k).length (gcs l) (some ⟨wr.heap.size, 0, none⟩) 3 3 _ rfl HROW.out rfl ?_ (by have := partsK_le zs k; omega) ?_ ?_)
          rotate_left 2
          · intro v2 w2 O5 G5
            have hpb : PZ w w2 v2 (baseK zs k (partsK zs k)) (l ++ [⟨some ⟨wr.heap.size, 0, none⟩, 3, 3, ints [z, (k : Int), (k : Int)]⟩]) := by
              rw [HBK.out]
              exact HP.out.push O5 G5 (by omega)
            clear O5 G5 HROW
            have HPB := Lib.hid hpb
            clear hpb
            have hne : 0 < (baseK zs k (partsK zs k)).length := Nat.lt_of_lt_of_eq (Nat.lt_of_lt_of_eq ((parts_inv zs k).step.ne (by omega)) (setLast_len _ _)) rfl
            have HPK : Hid (partsK zs (k + 1) = setLast (baseK zs k (partsK zs k)) k) := Lib.hid rfl
            obtain ⟨A5, c5, rfl, _, _⟩ := HPB.out.g.row.slice
            obtain ⟨x, gx, gA, cx, rfl, hc1, hc2, hf2, HST⟩ := HPB.out.store k hne
            have HST := Lib.hid HST
            have hbl := HPB.out.small
            have HLN : Hid ((partsK zs (k + 1)).length = (baseK zs k (partsK zs k)).length) := Lib.hid (by rw [HPK.out, setLast_len])
            generalize (baseK zs k (partsK zs k)).length = bl at *
            obtain ⟨bm, rfl⟩ : ∃ bm, bl = bm + 1 := ⟨bl - 1, by omega⟩
            simp only [Nat.add_sub_cancel] at hc1
            clear HPK HPB hne
            go_wp2
            go_roundw
            case rel => exact ⟨k + 1, _, by omega, by go_num, HST⟩
            case measure => simp [intOf] <;> omega
          · simp
          · simp; omega
        · have hq0 : ((k : Int) == 0) = false := by simp [h0]
          obtain ⟨ad', y, had, hbl', hy, cy⟩ := (HA.out.below (HP.out.bel.mono hB)).int (k := k - 1) (by omega)
          obtain rfl : ad = ad' := by injection had
          have HYK := Lib.hid hy
          have hkm : (k : Int) - 1 = ((k - 1 : Nat) : Int) := by omega
          have hwk : IntKind.i64.wrap ((k : Int) - 1) = ((k - 1 : Nat) : Int) := by rw [hkm]; exact IntWalk.i64_in _ (by omega)
          have hk1 : ((k - 1 : Nat) : Int) < (n : Int) := by omega
          obtain ⟨km, hkme⟩ : ∃ km, k - 1 = km := ⟨_, rfl⟩
          rw [hkme] at hwk hk1 cy
          clear hy had hkm
          by_cases hzy : z = y
          · have hnew : ¬ newP zs k = true := by unfold newP; rw [iA_some HZK.out, iA_some HYK.out]; simp [h0, hzy]
            have hq1 : (z != y) = false := by simp [hzy]
            have HBK : Hid (baseK zs k (partsK zs k) = partsK zs k) := Lib.hid (by unfold baseK; rw [if_neg hnew])
            have hpb : PZ w wr u4 (baseK zs k (partsK zs k)) l := by rw [HBK.out]; exact HP.out
            clear hnew hzy
            have HPB := Lib.hid hpb
            clear hpb
            have hne : 0 < (baseK zs k (partsK zs k)).length := Nat.lt_of_lt_of_eq (Nat.lt_of_lt_of_eq ((parts_inv zs k).step.ne (by omega)) (setLast_len _ _)) rfl
            have HPK : Hid (partsK zs (k + 1) = setLast (baseK zs k (partsK zs k)) k) := Lib.hid rfl
            obtain ⟨A5, c5, rfl, _, _⟩ := HPB.out.g.row.slice
            obtain ⟨x, gx, gA, cx, rfl, hc1, hc2, hf2, HST⟩ := HPB.out.store k hne
            have HST := Lib.hid HST
            have hbl := HPB.out.small
            have HLN : Hid ((partsK zs (k + 1)).length = (baseK zs k (partsK zs k)).length) := Lib.hid (by rw [HPK.out, setLast_len])
            generalize (baseK zs k (partsK zs k)).length = bl at *
            obtain ⟨bm, rfl⟩ : ∃ bm, bl = bm + 1 := ⟨bl - 1, by omega⟩
            simp only [Nat.add_sub_cancel] at hc1
            clear HPK HPB hne
            go_wp2
            go_roundw
            case rel => exact ⟨k + 1, _, by omega, by go_num, HST⟩
            case measure => simp [intOf] <;> omega
          · have hnew : newP zs k = true := by unfold newP; rw [iA_some HZK.out, iA_some HYK.out]; simp [hzy]
            have hq1 : (z != y) = true := by simp [hzy]
            clear hzy
            have HBK : Hid (baseK zs k (partsK zs k) = partsK zs k ++ [⟨z, k, k⟩]) := Lib.hid (by unfold baseK; rw [if_pos hnew, iA_some HZK.out])
            have HROW := Lib.hid (owns_alZ (owns_alZ HP.out.g.row.1 (.cells #[.int .i64 z, .int .i64 k, .int .i64 k] 2)) (.cells #[.slice (some ⟨wr.heap.size, 0, none⟩) 3 3] 27))
            clear hnew
            go_wp2_with (at_builtin; refine app_rows rfl (.tmp 28) (.tmp 33) rfl w.heap.size _ (partsK zs k).length (gcs l) (some ⟨wr.heap.size, 0, none⟩) 3 3 _ rfl HROW.out rfl ?_ (by have := partsK_le zs k; omega) ?_ ?_)
            rotate_left 2
            · intro v2 w2 O5 G5
              have hpb : PZ w w2 v2 (baseK zs k (partsK zs k)) (l ++ [⟨some ⟨wr.heap.size, 0, none⟩, 3, 3, ints [z, (k : Int), (k : Int)]⟩]) := by
                rw [HBK.out]
                exact HP.out.push O5 G5 (by omega)
              clear O5 G5 HROW
              have HPB := Lib.hid hpb
              clear hpb
              have hne : 0 < (baseK zs k (partsK zs k)).length := Nat.lt_of_lt_of_eq (Nat.lt_of_lt_of_eq ((parts_inv zs k).step.ne (by omega)) (setLast_len _ _)) rfl
              have HPK : Hid (partsK zs (k + 1) = setLast (baseK zs k (partsK zs k)) k) := Lib.hid rfl
              obtain ⟨A5, c5, rfl, _, _⟩ := HPB.out.g.row.slice
              obtain ⟨x, gx, gA, cx, rfl, hc1, hc2, hf2, HST⟩ := HPB.out.store k hne
              have HST := Lib.hid HST
              have hbl := HPB.out.small
              have HLN : Hid ((partsK zs (k + 1)).length = (baseK zs k (partsK zs k)).length) := Lib.hid (by rw [HPK.out, setLast_len])
              generalize (baseK zs k (partsK zs k)).length = bl at *
              obtain ⟨bm, rfl⟩ : ∃ bm, bl = bm + 1 := ⟨bl - 1, by omega⟩
              simp only [Nat.add_sub_cancel] at hc1
              clear HPK HPB hne
              go_wp2
              go_roundw
              case rel => exact ⟨k + 1, _, by omega, by go_num, HST⟩
              case measure => simp [intOf] <;> omega
            · simp
            · simp; omega
      · obtain rfl : k = n := by omega
        obtain ⟨A2, c2, rfl, _, _⟩ := HP.out.g.row.slice
        go_wp2
        go_ret2
        refine ⟨A2, c2, l, ?_, ?_⟩
        · rw [HL.out]; rfl
        · rw [HL.out]; exact HP.out
end Go.Proofs.YtjmnhmghpikknaaDoor
