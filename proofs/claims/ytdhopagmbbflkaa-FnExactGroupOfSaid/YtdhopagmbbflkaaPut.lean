/- Numbers put in order, by the reference (l00Put) and by insertion. -/
import Derived.Test.YtdhopagmbbflkaaOwn
import Derived.Test.YtdhopagmbbflkaaTa
namespace Go.Proofs.Ytdhopagmbbflkaa
open Go.ChangeShapes Go.WideShapes Go.ChangeAt Go.RowKit
set_option linter.unusedVariables false

theorem owns_bel {w w' : World} {lo B s n : Nat} {T : TypeId} {v : Value} {xs : List Value} (h : w.ownsRow lo T s v n xs) (hb : Below B w w') (hB : w.heap.size ≤ B) : w'.ownsRow lo T s v n xs :=
  ((Own.of_owns h (Nat.le_refl _)).below hb hB).1
theorem owns_al {w : World} {lo s n : Nat} {T : TypeId} {v : Value} {xs : List Value} (h : w.ownsRow lo T s v n xs) (o : Obj) : (w.alloc o).ownsRow lo T s v n xs := owns_bel h ((Below.refl _ _).alloc (Nat.le_refl _) o) (Nat.le_refl _)
def putF (n : Int) (s : List Int × Bool) (x : Int) : List Int × Bool :=
  if s.2 = false ∧ n ≤ x then ((if n < x then s.1 ++ [n] else s.1) ++ [x], true) else (s.1 ++ [x], s.2)
def putS (l : List Int) (n : Int) : List Int × Bool := l.foldl (putF n) ([], false)
def putV (l : List Int) (n : Int) : List Int := if (putS l n).2 then (putS l n).1 else (putS l n).1 ++ [n]
theorem putS_snoc (l : List Int) (n x : Int) : putS (l ++ [x]) n = putF n (putS l n) x := by simp [putS, List.foldl_append]
def ins (n : Int) : List Int → List Int
  | [] => [n]
  | x :: r => if n ≤ x then (if n < x then n :: x :: r else x :: r) else x :: ins n r
theorem put_true (n : Int) : ∀ (l a : List Int), l.foldl (putF n) (a, true) = (a ++ l, true)
  | [], a => by simp
  | x :: l, a => by
    have e : putF n (a, true) x = (a ++ [x], true) := by simp [putF]
    rw [List.foldl_cons, e, put_true n l]; simp
def putE (s : List Int × Bool) (n : Int) : List Int := if s.2 then s.1 else s.1 ++ [n]
theorem put_ins (n : Int) : ∀ (l a : List Int), putE (l.foldl (putF n) (a, false)) n = a ++ ins n l
  | [], a => by simp [ins, putE]
  | x :: l, a => by
    rw [List.foldl_cons]
    by_cases h : n ≤ x
    · by_cases h2 : n < x
      · have e : putF n (a, false) x = ((a ++ [n]) ++ [x], true) := by simp [putF, h, h2]
        rw [e, put_true, ins, if_pos h, if_pos h2]; simp [putE]
      · have e : putF n (a, false) x = (a ++ [x], true) := by simp [putF, h, h2]
        rw [e, put_true, ins, if_pos h, if_neg h2]; simp [putE]
    · have e : putF n (a, false) x = (a ++ [x], false) := by simp [putF, h]
      rw [e, put_ins n l, ins, if_neg h]; simp
theorem putV_ins (l : List Int) (n : Int) : putV l n = ins n l := (put_ins n l []).trans (List.nil_append _)
theorem ins_mem (n : Int) : ∀ (l : List Int) (y : Int), y ∈ ins n l ↔ y ∈ l ∨ y = n
  | [], y => by simp [ins]
  | x :: l, y => by
    have ih := ins_mem n l y
    rw [ins]
    by_cases h : n ≤ x
    · rw [if_pos h]
      by_cases h2 : n < x
      · rw [if_pos h2]; simp only [List.mem_cons]; grind
      · have : n = x := by omega
        rw [if_neg h2]; simp only [List.mem_cons]; grind
    · rw [if_neg h]; simp only [List.mem_cons, ih]; grind
theorem ins_asc (n : Int) : ∀ (l : List Int), l.Pairwise (· < ·) → (ins n l).Pairwise (· < ·)
  | [], _ => by simp [ins]
  | x :: l, h => by
    have hp := List.pairwise_cons.1 h
    rw [ins]
    by_cases h1 : n ≤ x
    · rw [if_pos h1]
      by_cases h2 : n < x
      · rw [if_pos h2, List.pairwise_cons]
        refine ⟨fun y hy => ?_, h⟩
        rcases List.mem_cons.1 hy with e | e
        · omega
        · have := hp.1 y e; omega
      · rw [if_neg h2]; exact h
    · rw [if_neg h1, List.pairwise_cons]
      refine ⟨fun y hy => ?_, ins_asc n l hp.2⟩
      rcases (ins_mem n l y).1 hy with e | e
      · exact hp.1 y e
      · omega
def sortV (q : List Int) : List Int := q.foldl putV []
theorem sortV_snoc (q : List Int) (x : Int) : sortV (q ++ [x]) = putV (sortV q) x := by simp [sortV, List.foldl_append]
theorem foldIns : ∀ (q a : List Int), a.Pairwise (· < ·) → (q.foldl putV a).Pairwise (· < ·) ∧ ∀ y, y ∈ q.foldl putV a ↔ y ∈ a ∨ y ∈ q
  | [], a, h => ⟨h, fun y => by simp⟩
  | x :: q, a, h => by
    rw [List.foldl_cons]
    have h1 : (putV a x).Pairwise (· < ·) := by rw [putV_ins]; exact ins_asc x a h
    obtain ⟨h2, h3⟩ := foldIns q (putV a x) h1
    refine ⟨h2, fun y => ?_⟩
    rw [h3 y, putV_ins, ins_mem]
    simp only [List.mem_cons]; grind
theorem sortV_asc (q : List Int) : (sortV q).Pairwise (· < ·) := (foldIns q [] List.Pairwise.nil).1
theorem sortV_mem (q : List Int) (y : Int) : y ∈ sortV q ↔ y ∈ q := by rw [sortV, (foldIns q [] List.Pairwise.nil).2 y]; simp
theorem ascZ_ext : ∀ {l m : List Int}, l.Pairwise (· < ·) → m.Pairwise (· < ·) → (∀ x, x ∈ l ↔ x ∈ m) → l = m
  | [], [], _, _, _ => rfl
  | [], b :: m, _, _, h => by have := (h b).2 (List.mem_cons_self ..); simp at this
  | a :: l, [], _, _, h => by have := (h a).1 (List.mem_cons_self ..); simp at this
  | a :: l, b :: m, hl, hm, h => by
    rw [List.pairwise_cons] at hl hm
    have hab : a = b := by
      rcases List.mem_cons.1 ((h a).1 (List.mem_cons_self ..)) with e | e
      · exact e
      · rcases List.mem_cons.1 ((h b).2 (List.mem_cons_self ..)) with e2 | e2
        · exact e2.symm
        · have h1 := hm.1 a e
          have h2 := hl.1 b e2
          omega
    subst hab
    rw [ascZ_ext hl.2 hm.2 (fun x => ?_)]
    constructor
    · intro hx
      rcases List.mem_cons.1 ((h x).1 (List.mem_cons_of_mem _ hx)) with e | e
      · have := hl.1 x hx; omega
      · exact e
    · intro hx
      rcases List.mem_cons.1 ((h x).2 (List.mem_cons_of_mem _ hx)) with e | e
      · have := hm.1 x hx; omega
      · exact e
/-- a list in order that holds the same numbers, each once -/
theorem sorted_sortV {q z : List Int} (hp : z.Perm q) (hn : q.Nodup) (hs : ∀ a b (hab : a < b) (hb : b < z.length), z[a] ≤ z[b]) : z = sortV q := by
  refine ascZ_ext ?_ (sortV_asc q) (fun x => ?_)
  · rw [List.pairwise_iff_getElem]
    intro a b ha hb hab
    have h1 := hs a b hab hb
    have hzn : z.Nodup := (hp.nodup_iff).2 hn
    have h2 := (List.pairwise_iff_getElem.1 hzn) a b ha hb hab
    omega
  · rw [sortV_mem, hp.mem_iff]
def PutPost (l : List Int) (w : World) (e : Ending) (w' : World) : Prop :=
  ∃ A n c, e = .returned (.slice A n c) ∧ Own w' w.heap.size w'.heap.size 2 1 (.slice A n c) n (ints l) ∧ Below w.heap.size w w'
set_option maxHeartbeats 4000000 in
theorem l00Put_c (A : Option Addr) (m c B : Nat) (l : List Int) (z : Int) (w : World) (ha : Reads w B 1 A m (ints l)) (hB : B ≤ w.heap.size) (hm : m ≤ 1000) :
    Calls Try.prog 81 #[.slice A m c, .int .i64 z] w (PutPost (putV l z) w) := by
  have HA := Lib.hid ha
  have HL := Lib.hid ha.len
  clear ha
  have O1 : Hid ((w.alloc (.cells #[] 2)).ownsRow w.heap.size 2 1 (.slice (some ⟨w.heap.size, 0, none⟩) 0 0) 0 (ints [])) := Lib.hid (World.ownsRow_lit (w := w) (base := w.heap.size) (e := 2) (size := 1) #[] 0 (Nat.le_refl _) (by simp [maxLen]) (by simp))
  have HT := Lib.hid ((Below.refl w.heap.size w).alloc (Nat.le_refl _) (.cells #[] 2))
  go_enter Try.func81, Try.ntmps81
  go_wp2
  go_loopw [5, 6, 7] (fun o d i wr => ∃ k n' : Nat, k ≤ m ∧ n' ≤ 2 * k ∧ i = .int .i64 k ∧ d = .bool (putS (l.take k) z).2 ∧ Hid (wr.ownsRow w.heap.size 2 1 o n' (ints (putS (l.take k) z).1)) ∧ Hid (Below w.heap.size w wr)) (fun _ _ i _ => m - (intOf i).toNat)
  case atStart => exact ⟨0, 0, Nat.zero_le _, by omega, rfl, rfl, O1, HT⟩
  case round =>
    clear O1 HT
    obtain ⟨k, n', hk, hn', rfl, rfl, HO, HT⟩ := hrel
    have hwz := HT.out.size
    by_cases hlt : k < m
    · obtain ⟨ad, x, rfl, hbl, hx, hc⟩ := (HA.out.below (HT.out.mono hB)).int hlt
      have HN : Hid (putS (l.take (k + 1)) z = putF z (putS (l.take k) z) x) := Lib.hid (by rw [List.take_add_one, hx]; exact putS_snoc _ _ _)
      have HX := Lib.hid hx
      clear hx
      obtain ⟨zs', d, hst⟩ : ∃ zs' d, putS (l.take k) z = (zs', d) := ⟨_, _, rfl⟩
      rw [hst] at HN HO ⊢
      clear hst
      simp only at HO ⊢
      cases d
      · by_cases hzx : z ≤ x
        · have hd1 : decide (z ≤ x) = true := by simpa using hzx
          by_cases hlx : z < x
          · have hd2 : decide (z < x) = true := by simpa using hlx
            have HF : Hid (putF z (zs', false) x = ((zs' ++ [z]) ++ [x], true)) := Lib.hid (by rw [putF, if_pos ⟨rfl, hzx⟩, if_pos hlx])
            clear hzx hlx
            go_wp2_with (at_builtin; refine app_i64 rfl (.tmp 31) (.tmp 33) rfl w.heap.size _ n' zs' z _ rfl (owns_al HO.out _) rfl ?_ (by omega) ?_ ?_)
            rotate_left 2
            · intro v5 w5 O5 B5 hs5
              have HO5 := Lib.hid O5
              have HT5 := Lib.hid (HT.out.trans (((Below.refl wr.heap.size wr).alloc (Nat.le_refl _) _ |>.mono HT.out.size).trans B5))
              clear O5 B5 hs5 hc
              have hw5 := HT5.out.size
              obtain ⟨ad2, x2, e2, _, hx2, hc⟩ := (HA.out.below (HT5.out.mono hB)).int hlt
              obtain rfl : ad = ad2 := by injection e2
              obtain rfl : x = x2 := by have h := HX.out; rw [hx2] at h; injection h with h; exact h.symm
              clear e2 hx2
              replace HT := HT5
              go_wp2_with (at_builtin; refine app_i64 rfl (.tmp 35) (.tmp 40) rfl w.heap.size _ (n' + 1) (zs' ++ [z]) x _ rfl (owns_al HO5.out _) rfl ?_ (by omega) ?_ ?_)
              rotate_left 2
              · intro v4 w4 O4 B4 hs4
                have O4' := Lib.hid O4
                have B4' := Lib.hid (HT5.out.trans (((Below.refl w5.heap.size w5).alloc (Nat.le_refl _) _ |>.mono HT5.out.size).trans B4))
                clear O4 B4 hs4
                go_wp2
                go_roundw
                case rel => exact ⟨k + 1, n' + 1 + 1, by omega, by omega, by go_num, by rw [HN.out, HF.out], Lib.hid (by rw [HN.out, HF.out]; simpa using O4'.out), B4'⟩
                case measure => simp [intOf]; omega
              · exact (Blk.new _ _ _).cell 0
              · simp; omega
            · exact (Blk.new _ _ _).cell 0
            · simp; omega
          · have hd2 : decide (z < x) = false := by simpa using hlx
            have HF : Hid (putF z (zs', false) x = (zs' ++ [x], true)) := Lib.hid (by rw [putF, if_pos ⟨rfl, hzx⟩, if_neg hlx])
            clear hzx hlx
            go_wp2_with (at_builtin; refine app_i64 rfl (.tmp 35) (.tmp 40) rfl w.heap.size _ n' zs' x _ rfl (owns_al HO.out _) rfl ?_ (by omega) ?_ ?_)
            rotate_left 2
            · intro v4 w4 O4 B4 hs4
              have O4' := Lib.hid O4
              have B4' := Lib.hid (HT.out.trans (((Below.refl wr.heap.size wr).alloc (Nat.le_refl _) _ |>.mono HT.out.size).trans B4))
              clear O4 B4 hs4
              go_wp2
              go_roundw
              case rel => exact ⟨k + 1, n' + 1, by omega, by omega, by go_num, by rw [HN.out, HF.out], Lib.hid (by rw [HN.out, HF.out]; exact O4'.out), B4'⟩
              case measure => simp [intOf]; omega
            · exact (Blk.new _ _ _).cell 0
            · simp; omega
        · have hd1 : decide (z ≤ x) = false := by simpa using hzx
          have HF : Hid (putF z (zs', false) x = (zs' ++ [x], false)) := Lib.hid (by rw [putF, if_neg (by simp; omega)])
          clear hzx
          go_wp2_with (at_builtin; refine app_i64 rfl (.tmp 35) (.tmp 40) rfl w.heap.size _ n' zs' x _ rfl (owns_al HO.out _) rfl ?_ (by omega) ?_ ?_)
          rotate_left 2
          · intro v4 w4 O4 B4 hs4
            have O4' := Lib.hid O4
            have B4' := Lib.hid (HT.out.trans (((Below.refl wr.heap.size wr).alloc (Nat.le_refl _) _ |>.mono HT.out.size).trans B4))
            clear O4 B4 hs4
            go_wp2
            go_roundw
            case rel => exact ⟨k + 1, n' + 1, by omega, by omega, by go_num, by rw [HN.out, HF.out], Lib.hid (by rw [HN.out, HF.out]; exact O4'.out), B4'⟩
            case measure => simp [intOf]; omega
          · exact (Blk.new _ _ _).cell 0
          · simp; omega
      · have HF : Hid (putF z (zs', true) x = (zs' ++ [x], true)) := Lib.hid (by rw [putF, if_neg (by simp)])
        go_wp2_with (at_builtin; refine app_i64 rfl (.tmp 35) (.tmp 40) rfl w.heap.size _ n' zs' x _ rfl (owns_al HO.out _) rfl ?_ (by omega) ?_ ?_)
        rotate_left 2
        · intro v4 w4 O4 B4 hs4
          have O4' := Lib.hid O4
          have B4' := Lib.hid (HT.out.trans (((Below.refl wr.heap.size wr).alloc (Nat.le_refl _) _ |>.mono HT.out.size).trans B4))
          clear O4 B4 hs4
          go_wp2
          go_roundw
          case rel => exact ⟨k + 1, n' + 1, by omega, by omega, by go_num, by rw [HN.out, HF.out], Lib.hid (by rw [HN.out, HF.out]; exact O4'.out), B4'⟩
          case measure => simp [intOf]; omega
        · exact (Blk.new _ _ _).cell 0
        · simp; omega
    · obtain rfl : k = m := by omega
      have htk : l.take k = l := List.take_of_length_le (by have := HL.out; omega)
      rw [htk] at HO ⊢
      have HV := Lib.hid (show putV l z = if (putS l z).2 then (putS l z).1 else (putS l z).1 ++ [z] from rfl)
      obtain ⟨zs', d, hst⟩ : ∃ zs' d, putS l z = (zs', d) := ⟨_, _, rfl⟩
      rw [hst] at HV HO ⊢
      clear hst htk
      simp only at HO HV ⊢
      cases d
      · go_wp2_with (at_builtin; refine app_i64 rfl (.tmp 44) (.tmp 46) rfl w.heap.size _ n' zs' z _ rfl (owns_al HO.out _) rfl ?_ (by omega) ?_ ?_)
        rotate_left 2
        · intro v4 w4 O4 B4 hs4
          have B4' := Lib.hid (HT.out.trans (((Below.refl wr.heap.size wr).alloc (Nat.le_refl _) _ |>.mono HT.out.size).trans B4))
          obtain ⟨A', c', hv', _, _⟩ := (Own.of_owns O4 (Nat.le_refl _)).slice
          subst hv'
          go_wp2
          go_ret
          exact ⟨A', n' + 1, c', rfl, by rw [HV.out]; exact (Own.of_owns O4 (Nat.le_refl _)).widen (Nat.le_refl _) (Nat.le_refl _), B4'.out⟩
        · exact (Blk.new _ _ _).cell 0
        · simp; omega
      · obtain ⟨A', c', hv', _, _⟩ := (Own.of_owns HO.out (Nat.le_refl _)).slice
        subst hv'
        go_wp2
        go_ret
        exact ⟨A', n', c', rfl, by rw [HV.out]; exact (Own.of_owns HO.out (Nat.le_refl _)).widen (Nat.le_refl _) (Nat.le_refl _), HT.out⟩
end Go.Proofs.Ytdhopagmbbflkaa
