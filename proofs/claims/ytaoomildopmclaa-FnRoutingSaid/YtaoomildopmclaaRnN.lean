/- The cells next to a cell in order (l09Near), beside the texts on running masses. -/
import Derived.Test.YtaoomildopmclaaRoE
namespace Go.Proofs.Ytaoomildopmclaa
open Go.ChangeShapes Go.WideShapes Go.ChangeAt Go.RowKit
set_option linter.unusedVariables false

def sumF (f : Int → Int) : List Int → Int
  | [] => 0
  | x :: l => f x + sumF f l
theorem sumF_app (f : Int → Int) (l m : List Int) : sumF f (l ++ m) = sumF f l + sumF f m := by
  induction l with
  | nil => simp [sumF]
  | cons x l ih => simp only [List.cons_append, sumF, ih]; omega
theorem sumF_one (f : Int → Int) (l : List Int) (x : Int) : sumF f (l ++ [x]) = sumF f l + f x := by rw [sumF_app]; simp [sumF]
theorem sumF_len (l : List Int) : sumF (fun _ => 1) l = l.length := by
  induction l with
  | nil => rfl
  | cons x l ih => simp only [sumF, ih, List.length_cons]; omega
theorem sumF_bd (f : Int → Int) (hi : ∀ x, -5000 ≤ f x ∧ f x ≤ 5000) (l : List Int) : -(5000 * (l.length : Int)) ≤ sumF f l ∧ sumF f l ≤ 5000 * (l.length : Int) := by
  induction l with
  | nil => simp [sumF]
  | cons x l ih => have := hi x; simp only [sumF, List.length_cons]; omega
def putF (n : Int) (s : List Int × Bool) (x : Int) : List Int × Bool :=
  if s.2 = false ∧ n ≤ x then ((if n < x then s.1 ++ [n] else s.1) ++ [x], true) else (s.1 ++ [x], s.2)
def putS (l : List Int) (n : Int) : List Int × Bool := l.foldl (putF n) ([], false)
def putV (l : List Int) (n : Int) : List Int := if (putS l n).2 then (putS l n).1 else (putS l n).1 ++ [n]
theorem putS_snoc (l : List Int) (n x : Int) : putS (l ++ [x]) n = putF n (putS l n) x := by simp [putS, List.foldl_append]
theorem putF_sum (f : Int → Int) (n : Int) : ∀ (l : List Int) (s : List Int × Bool), (∀ x ∈ l, x ≠ n) →
    sumF f (l.foldl (putF n) s).1 + (if (l.foldl (putF n) s).2 then 0 else f n) = sumF f s.1 + (if s.2 then 0 else f n) + sumF f l
  | [], s, _ => by simp only [List.foldl_nil, sumF]; exact (Int.add_zero _).symm
  | x :: l, s, h => by
    have hx := h x (List.mem_cons_self ..)
    rw [List.foldl_cons, putF_sum f n l _ (fun y hy => h y (List.mem_cons_of_mem _ hy))]
    obtain ⟨a, b⟩ := s
    by_cases hc : b = false ∧ n ≤ x
    · have hlt : n < x := by omega
      rw [putF, if_pos hc, if_pos hlt, hc.1, sumF_one, sumF_one]
      simp [sumF]; omega
    · rw [putF, if_neg hc, sumF_one]
      simp [sumF]; omega
theorem putF_mem (n : Int) : ∀ (l : List Int) (s : List Int × Bool) (y : Int), y ∈ (l.foldl (putF n) s).1 → y ∈ s.1 ∨ y ∈ l ∨ y = n
  | [], s, y, h => .inl h
  | x :: l, s, y, h => by
    rcases putF_mem n l _ y h with h1 | h1 | h1
    · obtain ⟨a, b⟩ := s
      unfold putF at h1
      split at h1
      · split at h1 <;> simp at h1 <;> simp <;> grind
      · simp at h1; simp; grind
    · simp [h1]
    · simp [h1]
theorem putV_sum (f : Int → Int) {l : List Int} {n : Int} (h : ∀ x ∈ l, x ≠ n) : sumF f (putV l n) = sumF f l + f n := by
  have e := putF_sum f n l ([], false) h
  unfold putV putS
  cases hd : (l.foldl (putF n) ([], false)).2
  · rw [hd] at e; simp [sumF] at e ⊢; rw [sumF_one]; omega
  · rw [hd] at e; simp [sumF] at e ⊢; omega
theorem putV_mem {l : List Int} {n y : Int} (h : y ∈ putV l n) : y ∈ l ∨ y = n := by
  unfold putV putS at h
  split at h
  · rcases putF_mem n l _ y h with h1 | h1 | h1
    · simp at h1
    · exact .inl h1
    · exact .inr h1
  · rw [List.mem_append] at h
    rcases h with h | h
    · rcases putF_mem n l _ y h with h1 | h1 | h1
      · simp at h1
      · exact .inl h1
      · exact .inr h1
    · simp at h; exact .inr h
/-- directions lead to different cells -/
theorem go_ne {g : Gr} {cell : Int} (hb : GrOk g) {a b : Nat} (hab : a < b) (h8 : b < 8) (ha : goB g cell a = true) (hbb : goB g cell b = true) : goV g cell a ≠ goV g cell b := by
  intro e
  obtain ⟨r1, c1, _⟩ := goB_bd hb ha
  obtain ⟨r2, c2, _⟩ := goB_bd hb hbb
  rw [goV, if_pos ha, goV, if_pos hbb] at e
  have ha' := ha
  have hb' := hbb
  simp only [goB, Bool.and_eq_true] at ha' hb'
  have k1 := inB_bd ha'.2
  have k2 := inB_bd hb'.2
  have hc0 := hb.c0
  have d1 : rowT g cell a = rowT g cell b := by
    have x1 : (rowT g cell a * g.cols + colT g cell a) / g.cols = rowT g cell a := by
      rw [Int.add_comm, Int.add_mul_ediv_right _ _ (by omega), Int.ediv_eq_zero_of_lt (by omega) (by omega)]; omega
    have x2 : (rowT g cell b * g.cols + colT g cell b) / g.cols = rowT g cell b := by
      rw [Int.add_comm, Int.add_mul_ediv_right _ _ (by omega), Int.ediv_eq_zero_of_lt (by omega) (by omega)]; omega
    rw [← x1, ← x2, e]
  have d2 : colT g cell a = colT g cell b := by rw [d1] at e; omega
  unfold rowT at d1
  unfold colT at d2
  have e1 : dR a = dR b := by omega
  have e2 : dC a = dC b := by omega
  have key : ∀ b, b < 8 → ∀ a, a < b → ¬ (dR a = dR b ∧ dC a = dC b) := by decide
  exact key b h8 a hab ⟨e1, e2⟩
def nearV (g : Gr) (cell : Int) : Nat → List Int
  | 0 => []
  | k + 1 => if goB g cell k then putV (nearV g cell k) (goV g cell k) else nearV g cell k
theorem nearV_mem {g : Gr} {cell : Int} : ∀ {k : Nat} {x : Int}, x ∈ nearV g cell k → ∃ a, a < k ∧ goB g cell a = true ∧ x = goV g cell a
  | 0, x, h => by simp [nearV] at h
  | k + 1, x, h => by
    rw [nearV] at h
    split at h
    · rename_i hb
      rcases putV_mem h with h1 | h1
      · obtain ⟨a, h2, h3⟩ := nearV_mem h1
        exact ⟨a, by omega, h3⟩
      · exact ⟨k, by omega, hb, h1⟩
    · obtain ⟨a, h2, h3⟩ := nearV_mem h
      exact ⟨a, by omega, h3⟩
theorem nearV_sum {g : Gr} {cell : Int} (hb : GrOk g) (f : Int → Int) : ∀ k, k ≤ 8 → sumF f (nearV g cell k) = sumF f ((nextTo g cell k).map Stp.cell)
  | 0, _ => rfl
  | k + 1, h => by
    have ih := nearV_sum (cell := cell) hb f k (by omega)
    rw [nearV, nextTo]
    by_cases hg : goB g cell k = true
    · rw [if_pos hg, if_pos hg, List.map_append, sumF_app, ← ih, putV_sum f]
      · simp [sumF, stpV]
      · intro x hx
        obtain ⟨a, h2, h3, h4⟩ := nearV_mem hx
        rw [h4]; exact go_ne hb h2 (by omega) h3 hg
    · rw [if_neg hg, if_neg hg, ih]; simp
theorem nearV_len {g : Gr} {cell : Int} (hb : GrOk g) {k : Nat} (h : k ≤ 8) : (nearV g cell k).length ≤ k := by
  have e := nearV_sum (cell := cell) hb (fun _ => 1) k h
  rw [sumF_len, sumF_len, List.length_map] at e
  have := nextTo_len g cell k
  omega
theorem owns_alN {w : World} {lo s n : Nat} {T : TypeId} {v : Value} {xs : List Value} (h : w.ownsRow lo T s v n xs) (o : Obj) : (w.alloc o).ownsRow lo T s v n xs := owns_bel h ((Below.refl _ _).alloc (Nat.le_refl _) o) (Nat.le_refl _)
def PutPost (l : List Int) (w : World) (e : Ending) (w' : World) : Prop :=
  ∃ A n c, e = .returned (.slice A n c) ∧ Own w' w.heap.size w'.heap.size 2 1 (.slice A n c) n (ints l) ∧ Below w.heap.size w w'
set_option maxHeartbeats 4000000 in
theorem l00Put_c (A : Option Addr) (m c B : Nat) (l : List Int) (z : Int) (w : World) (ha : Reads w B 1 A m (ints l)) (hB : B ≤ w.heap.size) (hm : m ≤ 1000) :
    Calls Try.prog 80 #[.slice A m c, .int .i64 z] w (PutPost (putV l z) w) := by
  have HA := Lib.hid ha
  have HL := Lib.hid ha.len
  clear ha
  have O1 : Hid ((w.alloc (.cells #[] 2)).ownsRow w.heap.size 2 1 (.slice (some ⟨w.heap.size, 0, none⟩) 0 0) 0 (ints [])) := Lib.hid (World.ownsRow_lit (w := w) (base := w.heap.size) (e := 2) (size := 1) #[] 0 (Nat.le_refl _) (by simp [maxLen]) (by simp))
  have HT := Lib.hid ((Below.refl w.heap.size w).alloc (Nat.le_refl _) (.cells #[] 2))
  go_enter Try.func80, Try.ntmps80
  go_wp2
  go_loopw [5, 6, 7] (fun o d i wr => ∃ k n' : Nat, k ≤ m ∧ n' ≤ 2 * k ∧ i = .int .i64 k ∧ d = .bool (putS (l.take k) z).2 ∧ Hid (wr.ownsRow w.heap.size 2 1 o n' (ints (putS (l.take k) z).1)) ∧ Hid (Below w.heap.size w wr)) (fun _ _ i _ => m - (intOf i).toNat)
  case atStart => exact ⟨0, 0, Nat.zero_le _, by omega, rfl, rfl, O1, HT⟩
  case round =>
    clear O1 HT
    obtain ⟨k, n', hk, hn', rfl, rfl, HO, HT⟩ := hrel
    have hwz := HT.out.size
    by_cases hlt : k < m
    · obtain ⟨ad, x, rfl, hbl, hx, hc⟩ := (HA.out.below (HT.out.mono hB)).int hlt
      have HN : Hid (putS (l.take (k + 1)) z = putF z (putS (l.take k) z) x) := Lib.hid (by rw [List.take_add_one, hx]; exact putS_snoc _ _ _)
      have HX := Lib.hid hx
      clear hx
      obtain ⟨zs', d, hst⟩ : ∃ zs' d, putS (l.take k) z = (zs', d) := ⟨_, _, rfl⟩
      rw [hst] at HN HO ⊢
      clear hst
      simp only at HO ⊢
      cases d
      · by_cases hzx : z ≤ x
        · have hd1 : decide (z ≤ x) = true := by simpa using hzx
          by_cases hlx : z < x
          · have hd2 : decide (z < x) = true := by simpa using hlx
            have HF : Hid (putF z (zs', false) x = ((zs' ++ [z]) ++ [x], true)) := Lib.hid (by rw [putF, if_pos ⟨rfl, hzx⟩, if_pos hlx])
            clear hzx hlx
            go_wp2_with (at_builtin; refine app_i64 rfl (.tmp 31) (.tmp 33) rfl w.heap.size _ n' zs' z _ rfl (owns_alN HO.out _) rfl ?_ (by omega) ?_ ?_)
            rotate_left 2
            · intro v5 w5 O5 B5 hs5
              have HO5 := Lib.hid O5
              have HT5 := Lib.hid (HT.out.trans (((Below.refl wr.heap.size wr).alloc (Nat.le_refl _) _ |>.mono HT.out.size).trans B5))
              clear O5 B5 hs5 hc
              have hw5 := HT5.out.size
              obtain ⟨ad2, x2, e2, _, hx2, hc⟩ := (HA.out.below (HT5.out.mono hB)).int hlt
              obtain rfl : ad = ad2 := by injection e2
              obtain rfl : x = x2 := by have h := HX.out; rw [hx2] at h; injection h with h; exact h.symm
              clear e2 hx2
              replace HT := HT5
              go_wp2_with (at_builtin; refine app_i64 rfl (.tmp 35) (.tmp 40) rfl w.heap.size _ (n' + 1) (zs' ++ [z]) x _ rfl (owns_alN HO5.out _) rfl ?_ (by omega) ?_ ?_)
              rotate_left 2
              · intro v4 w4 O4 B4 hs4
                have O4' := Lib.hid O4
                have B4' := Lib.hid (HT5.out.trans (((Below.refl w5.heap.size w5).alloc (Nat.le_refl _) _ |>.mono HT5.out.size).trans B4))
                clear O4 B4 hs4
                go_wp2
                go_roundw
                case rel => exact ⟨k + 1, n' + 1 + 1, by omega, by omega, by go_num, by rw [HN.out, HF.out], Lib.hid (by rw [HN.out, HF.out]; simpa using O4'.out), B4'⟩
                case measure => simp [intOf]; omega
              · exact (Blk.new _ _ _).cell 0
              · simp; omega
            · exact (Blk.new _ _ _).cell 0
            · simp; omega
          · have hd2 : decide (z < x) = false := by simpa using hlx
            have HF : Hid (putF z (zs', false) x = (zs' ++ [x], true)) := Lib.hid (by rw [putF, if_pos ⟨rfl, hzx⟩, if_neg hlx])
            clear hzx hlx
            go_wp2_with (at_builtin; refine app_i64 rfl (.tmp 35) (.tmp 40) rfl w.heap.size _ n' zs' x _ rfl (owns_alN HO.out _) rfl ?_ (by omega) ?_ ?_)
            rotate_left 2
            · intro v4 w4 O4 B4 hs4
              have O4' := Lib.hid O4
              have B4' := Lib.hid (HT.out.trans (((Below.refl wr.heap.size wr).alloc (Nat.le_refl _) _ |>.mono HT.out.size).trans B4))
              clear O4 B4 hs4
              go_wp2
              go_roundw
              case rel => exact ⟨k + 1, n' + 1, by omega, by omega, by go_num, by rw [HN.out, HF.out], Lib.hid (by rw [HN.out, HF.out]; exact O4'.out), B4'⟩
              case measure => simp [intOf]; omega
            · exact (Blk.new _ _ _).cell 0
            · simp; omega
        · have hd1 : decide (z ≤ x) = false := by simpa using hzx
          have HF : Hid (putF z (zs', false) x = (zs' ++ [x], false)) := Lib.hid (by rw [putF, if_neg (by simp; omega)])
          clear hzx
          go_wp2_with (at_builtin; refine app_i64 rfl (.tmp 35) (.tmp 40) rfl w.heap.size _ n' zs' x _ rfl (owns_alN HO.out _) rfl ?_ (by omega) ?_ ?_)
          rotate_left 2
          · intro v4 w4 O4 B4 hs4
            have O4' := Lib.hid O4
            have B4' := Lib.hid (HT.out.trans (((Below.refl wr.heap.size wr).alloc (Nat.le_refl _) _ |>.mono HT.out.size).trans B4))
            clear O4 B4 hs4
            go_wp2
            go_roundw
            case rel => exact ⟨k + 1, n' + 1, by omega, by omega, by go_num, by rw [HN.out, HF.out], Lib.hid (by rw [HN.out, HF.out]; exact O4'.out), B4'⟩
            case measure => simp [intOf]; omega
          · exact (Blk.new _ _ _).cell 0
          · simp; omega
      · have HF : Hid (putF z (zs', true) x = (zs' ++ [x], true)) := Lib.hid (by rw [putF, if_neg (by simp)])
        go_wp2_with (at_builtin; refine app_i64 rfl (.tmp 35) (.tmp 40) rfl w.heap.size _ n' zs' x _ rfl (owns_alN HO.out _) rfl ?_ (by omega) ?_ ?_)
        rotate_left 2
        · intro v4 w4 O4 B4 hs4
          have O4' := Lib.hid O4
          have B4' := Lib.hid (HT.out.trans (((Below.refl wr.heap.size wr).alloc (Nat.le_refl _) _ |>.mono HT.out.size).trans B4))
          clear O4 B4 hs4
          go_wp2
          go_roundw
          case rel => exact ⟨k + 1, n' + 1, by omega, by omega, by go_num, by rw [HN.out, HF.out], Lib.hid (by rw [HN.out, HF.out]; exact O4'.out), B4'⟩
          case measure => simp [intOf]; omega
        · exact (Blk.new _ _ _).cell 0
        · simp; omega
    · obtain rfl : k = m := by omega
      have htk : l.take k = l := List.take_of_length_le (by have := HL.out; omega)
      rw [htk] at HO ⊢
      have HV := Lib.hid (show putV l z = if (putS l z).2 then (putS l z).1 else (putS l z).1 ++ [z] from rfl)
      obtain ⟨zs', d, hst⟩ : ∃ zs' d, putS l z = (zs', d) := ⟨_, _, rfl⟩
      rw [hst] at HV HO ⊢
      clear hst htk
      simp only at HO HV ⊢
      cases d
      · go_wp2_with (at_builtin; refine app_i64 rfl (.tmp 44) (.tmp 46) rfl w.heap.size _ n' zs' z _ rfl (owns_alN HO.out _) rfl ?_ (by omega) ?_ ?_)
        rotate_left 2
        · intro v4 w4 O4 B4 hs4
          have B4' := Lib.hid (HT.out.trans (((Below.refl wr.heap.size wr).alloc (Nat.le_refl _) _ |>.mono HT.out.size).trans B4))
          obtain ⟨A', c', hv', _, _⟩ := (Own.of_owns O4 (Nat.le_refl _)).slice
          subst hv'
          go_wp2
          go_ret
          exact ⟨A', n' + 1, c', rfl, by rw [HV.out]; exact (Own.of_owns O4 (Nat.le_refl _)).widen (Nat.le_refl _) (Nat.le_refl _), B4'.out⟩
        · exact (Blk.new _ _ _).cell 0
        · simp; omega
      · obtain ⟨A', c', hv', _, _⟩ := (Own.of_owns HO.out (Nat.le_refl _)).slice
        subst hv'
        go_wp2
        go_ret
        exact ⟨A', n', c', rfl, by rw [HV.out]; exact (Own.of_owns HO.out (Nat.le_refl _)).widen (Nat.le_refl _) (Nat.le_refl _), HT.out⟩
set_option maxHeartbeats 2000000 in
theorem l09Near_c (g : Gr) (b : Nat) (A : Option Addr) (n c B : Nat) (cell : Nat) (w : World) (hg : GP w b B g A n c) (hok : g.ok = true) (hc : cell < n) :
    Calls Try.prog 54 #[.pointer (some ⟨b, 0, none⟩), .int .i64 cell] w (PutPost (nearV g cell 8) w) := by
  have HG := Lib.hid fun W (hW : Below w.heap.size w W) a (ha : a < 8) => l09Go_c g b A n c B cell a W (hg.below hW) hok hc ha
  have HOK := Lib.hid (Gr.ok_bd hok)
  clear hg hok
  have O1 : Hid (Own (w.alloc (.cells #[] 2)) w.heap.size (w.heap.size + 1) 2 1 (.slice (some ⟨w.heap.size, 0, none⟩) 0 0) 0 (ints [])) := Lib.hid (Own.of_owns (World.ownsRow_lit (w := w) (base := w.heap.size) (e := 2) (size := 1) #[] 0 (Nat.le_refl _) (by simp [maxLen]) (by simp)) (by simp))
  have HT := Lib.hid ((Below.refl w.heap.size w).alloc (Nat.le_refl _) (.cells #[] 2))
  go_enter Try.func54, Try.ntmps54
  go_wp2_with fail
  go_loopw [5, 6] (fun o i wr => ∃ (k n' : Nat) (A' : Option Addr) (c' : Nat), k ≤ 8 ∧ i = .int .i64 k ∧ o = .slice A' n' c' ∧ Hid (Own wr w.heap.size wr.heap.size 2 1 (.slice A' n' c') n' (ints (nearV g cell k))) ∧ Hid (Below w.heap.size w wr)) (fun _ i _ => 8 - (intOf i).toNat)
  case atStart => exact ⟨0, 0, _, _, by omega, rfl, rfl, Lib.hid (by have h := O1.out; simpa [nearV] using h), HT⟩
  case round =>
    clear O1 HT
    obtain ⟨k, n', A', c', hk, rfl, rfl, HO, HT⟩ := hrel
    by_cases hlt : k < 8
    · have hlt' : (k : Int) < 8 := by omega
      go_wp2_with fail
      refine (HG.out wr HT.out k hlt).mono ?_
      rintro e w1 ⟨rfl, hb1⟩
      have hs1 := hb1.size
      have HT1 := Lib.hid (HT.out.trans (hb1.mono HT.out.size))
      have HO1 := Lib.hid (HO.out.below hb1 (Nat.le_refl _))
      clear hb1
      have HE := Lib.hid (show nearV g cell (k + 1) = if goB g cell k then putV (nearV g cell k) (goV g cell k) else nearV g cell k from rfl)
      rcases goV_cases (cell := (cell : Int)) (a := k) HOK.out with ⟨hgb, hgv⟩ | ⟨hgb, hg0, hg1⟩
      · have HN : Hid (nearV g cell (k + 1) = nearV g cell k) := Lib.hid (by rw [HE.out, if_neg (by simp [hgb])])
        rw [hgv]
        clear hgb hgv
        go_wp2
        go_roundw
        case rel => exact ⟨k + 1, n', A', c', by omega, by go_num, rfl, Lib.hid (by rw [HN.out]; exact HO1.out.widen (Nat.le_refl _) hs1), HT1⟩
        case measure => simp [intOf]; omega
      · have HN : Hid (nearV g cell (k + 1) = putV (nearV g cell k) (goV g cell k)) := Lib.hid (by rw [HE.out, if_pos hgb])
        have hl9 : n' ≤ 8 := by have h1 := HO.out.reads.len; have h2 := nearV_len (cell := (cell : Int)) HOK.out (k := k) (by omega); omega
        generalize goV g cell k = gv at *
        clear hgb hg1 HE
        go_wp2_with fail
        refine (l00Put_c A' n' c' _ _ gv w1 HO1.out.reads (by omega) (by omega)).mono ?_
        rintro e w3 ⟨A3, n3, c3, rfl, O3, B3⟩
        have HT3 := Lib.hid (HT1.out.trans (B3.mono HT1.out.size))
        have HO3 := Lib.hid (O3.widen HT1.out.size (Nat.le_refl _))
        clear O3 B3
        go_wp2
        go_roundw
        case rel => exact ⟨k + 1, n3, A3, c3, by omega, by go_num, rfl, Lib.hid (by rw [HN.out]; exact HO3.out), HT3⟩
        case measure => simp [intOf]; omega
    · obtain rfl : k = 8 := by omega
      go_wp2
      go_ret
      exact ⟨A', n', c', rfl, HO.out, HT.out⟩
end Go.Proofs.Ytaoomildopmclaa
