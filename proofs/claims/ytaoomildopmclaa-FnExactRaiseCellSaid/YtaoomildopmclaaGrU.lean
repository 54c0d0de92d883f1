/- The cells next to a cell in order (l09Near) and sums over them: CurvatureAt. -/
import Derived.Test.YtaoomildopmclaaGrT
namespace Go.Proofs.Ytaoomildopmclaa
open Go.ChangeShapes Go.WideShapes Go.ChangeAt Go.RowKit
set_option linter.unusedVariables false

def sumZ (f : Int → Int) : List Int → Int
  | [] => 0
  | x :: l => f x + sumZ f l
theorem sumZ_app (f : Int → Int) (l m : List Int) : sumZ f (l ++ m) = sumZ f l + sumZ f m := by
  induction l with
  | nil => simp [sumZ]
  | cons x l ih => simp only [List.cons_append, sumZ, ih]; omega
theorem sumZ_one (f : Int → Int) (l : List Int) (x : Int) : sumZ f (l ++ [x]) = sumZ f l + f x := by rw [sumZ_app]; simp [sumZ]
theorem sumZ_len (l : List Int) : sumZ (fun _ => 1) l = l.length := by
  induction l with
  | nil => rfl
  | cons x l ih => simp only [sumZ, ih, List.length_cons]; omega
theorem sumZ_bd (f : Int → Int) (hi : ∀ x, -5000 ≤ f x ∧ f x ≤ 5000) (l : List Int) : -(5000 * (l.length : Int)) ≤ sumZ f l ∧ sumZ f l ≤ 5000 * (l.length : Int) := by
  induction l with
  | nil => simp [sumZ]
  | cons x l ih => have := hi x; simp only [sumZ, List.length_cons]; omega
def putF (n : Int) (s : List Int × Bool) (x : Int) : List Int × Bool :=
  if s.2 = false ∧ n ≤ x then ((if n < x then s.1 ++ [n] else s.1) ++ [x], true) else (s.1 ++ [x], s.2)
def putS (l : List Int) (n : Int) : List Int × Bool := l.foldl (putF n) ([], false)
def putV (l : List Int) (n : Int) : List Int := if (putS l n).2 then (putS l n).1 else (putS l n).1 ++ [n]
theorem putS_snoc (l : List Int) (n x : Int) : putS (l ++ [x]) n = putF n (putS l n) x := by simp [putS, List.foldl_append]
theorem putF_sum (f : Int → Int) (n : Int) : ∀ (l : List Int) (s : List Int × Bool), (∀ x ∈ l, x ≠ n) →
    sumZ f (l.foldl (putF n) s).1 + (if (l.foldl (putF n) s).2 then 0 else f n) = sumZ f s.1 + (if s.2 then 0 else f n) + sumZ f l
  | [], s, _ => by simp only [List.foldl_nil, sumZ]; exact (Int.add_zero _).symm
  | x :: l, s, h => by
    have hx := h x (List.mem_cons_self ..)
    rw [List.foldl_cons, putF_sum f n l _ (fun y hy => h y (List.mem_cons_of_mem _ hy))]
    obtain ⟨a, b⟩ := s
    by_cases hc : b = false ∧ n ≤ x
    · have hlt : n < x := by omega
      rw [putF, if_pos hc, if_pos hlt, hc.1, sumZ_one, sumZ_one]
      simp [sumZ]; omega
    · rw [putF, if_neg hc, sumZ_one]
      simp [sumZ]; omega
theorem putF_mem (n : Int) : ∀ (l : List Int) (s : List Int × Bool) (y : Int), y ∈ (l.foldl (putF n) s).1 → y ∈ s.1 ∨ y ∈ l ∨ y = n
  | [], s, y, h => .inl h
  | x :: l, s, y, h => by
    rcases putF_mem n l _ y h with h1 | h1 | h1
    · obtain ⟨a, b⟩ := s
      unfold putF at h1
      split at h1
      · split at h1 <;> simp at h1 <;> simp <;> grind
      · simp at h1; simp; grind
    · simp [h1]
    · simp [h1]
theorem putV_sum (f : Int → Int) {l : List Int} {n : Int} (h : ∀ x ∈ l, x ≠ n) : sumZ f (putV l n) = sumZ f l + f n := by
  have e := putF_sum f n l ([], false) h
  unfold putV putS
  cases hd : (l.foldl (putF n) ([], false)).2
  · rw [hd] at e; simp [sumZ] at e ⊢; rw [sumZ_one]; omega
  · rw [hd] at e; simp [sumZ] at e ⊢; omega
theorem putV_mem {l : List Int} {n y : Int} (h : y ∈ putV l n) : y ∈ l ∨ y = n := by
  unfold putV putS at h
  split at h
  · rcases putF_mem n l _ y h with h1 | h1 | h1
    · simp at h1
    · exact .inl h1
    · exact .inr h1
  · rw [List.mem_append] at h
    rcases h with h | h
    · rcases putF_mem n l _ y h with h1 | h1 | h1
      · simp at h1
      · exact .inl h1
      · exact .inr h1
    · simp at h; exact .inr h
/-- directions lead to different cells -/
theorem go_ne {g : Gr} {cell : Int} (hb : GrOk g) {a b : Nat} (hab : a < b) (h8 : b < 8) (ha : goB g cell a = true) (hbb : goB g cell b = true) : goV g cell a ≠ goV g cell b := by
  intro e
  obtain ⟨r1, c1, _⟩ := goB_bd hb ha
  obtain ⟨r2, c2, _⟩ := goB_bd hb hbb
  rw [goV, if_pos ha, goV, if_pos hbb] at e
  have ha' := ha
  have hb' := hbb
  simp only [goB, Bool.and_eq_true] at ha' hb'
  have k1 := inB_bd ha'.2
  have k2 := inB_bd hb'.2
  have hc0 := hb.c0
  have d1 : rowT g cell a = rowT g cell b := by
    have x1 : (rowT g cell a * g.cols + colT g cell a) / g.cols = rowT g cell a := by
      rw [Int.add_comm, Int.add_mul_ediv_right _ _ (by omega), Int.ediv_eq_zero_of_lt (by omega) (by omega)]; omega
    have x2 : (rowT g cell b * g.cols + colT g cell b) / g.cols = rowT g cell b := by
      rw [Int.add_comm, Int.add_mul_ediv_right _ _ (by omega), Int.ediv_eq_zero_of_lt (by omega) (by omega)]; omega
    rw [← x1, ← x2, e]
  have d2 : colT g cell a = colT g cell b := by rw [d1] at e; omega
  unfold rowT at d1
  unfold colT at d2
  have e1 : dR a = dR b := by omega
  have e2 : dC a = dC b := by omega
  have key : ∀ b, b < 8 → ∀ a, a < b → ¬ (dR a = dR b ∧ dC a = dC b) := by decide
  exact key b h8 a hab ⟨e1, e2⟩
def nearV (g : Gr) (cell : Int) : Nat → List Int
  | 0 => []
  | k + 1 => if goB g cell k then putV (nearV g cell k) (goV g cell k) else nearV g cell k
theorem nearV_mem {g : Gr} {cell : Int} : ∀ {k : Nat} {x : Int}, x ∈ nearV g cell k → ∃ a, a < k ∧ goB g cell a = true ∧ x = goV g cell a
  | 0, x, h => by simp [nearV] at h
  | k + 1, x, h => by
    rw [nearV] at h
    split at h
    · rename_i hb
      rcases putV_mem h with h1 | h1
      · obtain ⟨a, h2, h3⟩ := nearV_mem h1
        exact ⟨a, by omega, h3⟩
      · exact ⟨k, by omega, hb, h1⟩
    · obtain ⟨a, h2, h3⟩ := nearV_mem h
      exact ⟨a, by omega, h3⟩
theorem nearV_sum {g : Gr} {cell : Int} (hb : GrOk g) (f : Int → Int) : ∀ k, k ≤ 8 → sumZ f (nearV g cell k) = sumZ f ((nextTo g cell k).map Stp.cell)
  | 0, _ => rfl
  | k + 1, h => by
    have ih := nearV_sum (cell := cell) hb f k (by omega)
    rw [nearV, nextTo]
    by_cases hg : goB g cell k = true
    · rw [if_pos hg, if_pos hg, List.map_append, sumZ_app, ← ih, putV_sum f]
      · simp [sumZ, stpV]
      · intro x hx
        obtain ⟨a, h2, h3, h4⟩ := nearV_mem hx
        rw [h4]; exact go_ne hb h2 (by omega) h3 hg
    · rw [if_neg hg, if_neg hg, ih]; simp
theorem nearV_len {g : Gr} {cell : Int} (hb : GrOk g) {k : Nat} (h : k ≤ 8) : (nearV g cell k).length ≤ k := by
  have e := nearV_sum (cell := cell) hb (fun _ => 1) k h
  rw [sumZ_len, sumZ_len, List.length_map] at e
  have := nextTo_len g cell k
  omega
theorem owns_al {w : World} {lo s n : Nat} {T : TypeId} {v : Value} {xs : List Value} (h : w.ownsRow lo T s v n xs) (o : Obj) : (w.alloc o).ownsRow lo T s v n xs := owns_bel h ((Below.refl _ _).alloc (Nat.le_refl _) o) (Nat.le_refl _)
def PutPost (l : List Int) (w : World) (e : Ending) (w' : World) : Prop :=
  ∃ A n c, e = .returned (.slice A n c) ∧ Own w' w.heap.size w'.heap.size 2 1 (.slice A n c) n (ints l) ∧ Below w.heap.size w w'
set_option maxHeartbeats 4000000 in
theorem l00Put_c (A : Option Addr) (m c B : Nat) (l : List Int) (z : Int) (w : World) (ha : Reads w B 1 A m (ints l)) (hB : B ≤ w.heap.size) (hm : m ≤ 1000) :
    Calls Try.prog 80 #[.slice A m c, .int .i64 z] w (PutPost (putV l z) w) := by
  have HA := Lib.hid ha
  have HL := Lib.hid ha.len
  clear ha
  have O1 : Hid ((w.alloc (.cells #[] 2)).ownsRow w.heap.size 2 1 (.slice (some ⟨w.heap.size, 0, none⟩) 0 0) 0 (ints [])) := Lib.hid (World.ownsRow_lit (w := w) (base := w.heap.size) (e := 2) (size := 1) #[] 0 (Nat.le_refl _) (by simp [maxLen]) (by simp))
  have HT := Lib.hid ((Below.refl w.heap.size w).alloc (Nat.le_refl _) (.cells #[] 2))
  go_enter Try.func80, Try.ntmps80
  go_wp2
  go_loopw [5, 6, 7] (fun o d i wr => ∃ k n' : Nat, k ≤ m ∧ n' ≤ 2 * k ∧ i = .int .i64 k ∧ d = .bool (putS (l.take k) z).2 ∧ Hid (wr.ownsRow w.heap.size 2 1 o n' (ints (putS (l.take k) z).1)) ∧ Hid (Below w.heap.size w wr)) (fun _ _ i _ => m - (intOf i).toNat)
  case atStart => exact ⟨0, 0, Nat.zero_le _, by omega, rfl, rfl, O1, HT⟩
  case round =>
    clear O1 HT
    obtain ⟨k, n', hk, hn', rfl, rfl, HO, HT⟩ := hrel
    have hwz := HT.out.size
    by_cases hlt : k < m
    · obtain ⟨ad, x, rfl, hbl, hx, hc⟩ := (HA.out.below (HT.out.mono hB)).int hlt
      have HN : Hid (putS (l.take (k + 1)) z = putF z (putS (l.take k) z) x) := Lib.hid (by rw [List.take_add_one, hx]; exact putS_snoc _ _ _)
      have HX := Lib.hid hx
      clear hx
      obtain ⟨zs', d, hst⟩ : ∃ zs' d, putS (l.take k) z = (zs', d) := ⟨_, _, rfl⟩
      rw [hst] at HN HO ⊢
      clear hst
      simp only at HO ⊢
      cases d
      · by_cases hzx : z ≤ x
        · have hd1 : decide (z ≤ x) = true := by simpa using hzx
          by_cases hlx : z < x
          · have hd2 : decide (z < x) = true := by simpa using hlx
            have HF : Hid (putF z (zs', false) x = ((zs' ++ [z]) ++ [x], true)) := Lib.hid (by rw [putF, if_pos ⟨rfl, hzx⟩, if_pos hlx])
            clear hzx hlx
            go_wp2_with (at_builtin; refine app_i64 rfl (.tmp 31) (.tmp 33) rfl w.heap.size _ n' zs' z _ rfl (owns_al HO.out _) rfl ?_ (by omega) ?_ ?_)
            rotate_left 2
            · intro v5 w5 O5 B5 hs5
              have HO5 := Lib.hid O5
              have HT5 := Lib.hid (HT.out.trans (((Below.refl wr.heap.size wr).alloc (Nat.le_refl _) _ |>.mono HT.out.size).trans B5))
              clear O5 B5 hs5 hc
              have hw5 := HT5.out.size
              obtain ⟨ad2, x2, e2, _, hx2, hc⟩ := (HA.out.below (HT5.out.mono hB)).int hlt
              obtain rfl : ad = ad2 := by injection e2
              obtain rfl : x = x2 := by have h := HX.out; rw [hx2] at h; injection h with h; exact h.symm
              clear e2 hx2
              replace HT := HT5
              go_wp2_with (at_builtin; refine app_i64 rfl (.tmp 35) (.tmp 40) rfl w.heap.size _ (n' + 1) (zs' ++ [z]) x _ rfl (owns_al HO5.out _) rfl ?_ (by omega) ?_ ?_)
              rotate_left 2
              · intro v4 w4 O4 B4 hs4
                have O4' := Lib.hid O4
                have B4' := Lib.hid (HT5.out.trans (((Below.refl w5.heap.size w5).alloc (Nat.le_refl _) _ |>.mono HT5.out.size).trans B4))
                clear O4 B4 hs4
                go_wp2
                go_roundw
                case rel => exact ⟨k + 1, n' + 1 + 1, by omega, by omega, by go_num, by rw [HN.out, HF.out], Lib.hid (by rw [HN.out, HF.out]; simpa using O4'.out), B4'⟩
                case measure => simp [intOf]; omega
              · exact (Blk.new _ _ _).cell 0
              · simp; omega
            · exact (Blk.new _ _ _).cell 0
            · simp; omega
          · have hd2 : decide (z < x) = false := by simpa using hlx
            have HF : Hid (putF z (zs', false) x = (zs' ++ [x], true)) := Lib.hid (by rw [putF, if_pos ⟨rfl, hzx⟩, if_neg hlx])
            clear hzx hlx
            go_wp2_with (at_builtin; refine app_i64 rfl (.tmp 35) (.tmp 40) rfl w.heap.size _ n' zs' x _ rfl (owns_al HO.out _) rfl ?_ (by omega) ?_ ?_)
            rotate_left 2
            · intro v4 w4 O4 B4 hs4
              have O4' := Lib.hid O4
              have B4' := Lib.hid (HT.out.trans (((Below.refl wr.heap.size wr).alloc (Nat.le_refl _) _ |>.mono HT.out.size).trans B4))
              clear O4 B4 hs4
              go_wp2
              go_roundw
              case rel => exact ⟨k + 1, n' + 1, by omega, by omega, by go_num, by rw [HN.out, HF.out], Lib.hid (by rw [HN.out, HF.out]; exact O4'.out), B4'⟩
              case measure => simp [intOf]; omega
            · exact (Blk.new _ _ _).cell 0
            · simp; omega
        · have hd1 : decide (z ≤ x) = false := by simpa using hzx
          have HF : Hid (putF z (zs', false) x = (zs' ++ [x], false)) := Lib.hid (by rw [putF, if_neg (by simp; omega)])
          clear hzx
          go_wp2_with (at_builtin; refine app_i64 rfl (.tmp 35) (.tmp 40) rfl w.heap.size _ n' zs' x _ rfl (owns_al HO.out _) rfl ?_ (by omega) ?_ ?_)
          rotate_left 2
          · intro v4 w4 O4 B4 hs4
            have O4' := Lib.hid O4
            have B4' := Lib.hid (HT.out.trans (((Below.refl wr.heap.size wr).alloc (Nat.le_refl _) _ |>.mono HT.out.size).trans B4))
            clear O4 B4 hs4
            go_wp2
            go_roundw
            case rel => exact ⟨k + 1, n' + 1, by omega, by omega, by go_num, by rw [HN.out, HF.out], Lib.hid (by rw [HN.out, HF.out]; exact O4'.out), B4'⟩
            case measure => simp [intOf]; omega
          · exact (Blk.new _ _ _).cell 0
          · simp; omega
      · have HF : Hid (putF z (zs', true) x = (zs' ++ [x], true)) := Lib.hid (by rw [putF, if_neg (by simp)])
        go_wp2_with (at_builtin; refine app_i64 rfl (.tmp 35) (.tmp 40) rfl w.heap.size _ n' zs' x _ rfl (owns_al HO.out _) rfl ?_ (by omega) ?_ ?_)
        rotate_left 2
        · intro v4 w4 O4 B4 hs4
          have O4' := Lib.hid O4
          have B4' := Lib.hid (HT.out.trans (((Below.refl wr.heap.size wr).alloc (Nat.le_refl _) _ |>.mono HT.out.size).trans B4))
          clear O4 B4 hs4
          go_wp2
          go_roundw
          case rel => exact ⟨k + 1, n' + 1, by omega, by omega, by go_num, by rw [HN.out, HF.out], Lib.hid (by rw [HN.out, HF.out]; exact O4'.out), B4'⟩
          case measure => simp [intOf]; omega
        · exact (Blk.new _ _ _).cell 0
        · simp; omega
    · obtain rfl : k = m := by omega
      have htk : l.take k = l := List.take_of_length_le (by have := HL.out; omega)
      rw [htk] at HO ⊢
      have HV := Lib.hid (show putV l z = if (putS l z).2 then (putS l z).1 else (putS l z).1 ++ [z] from rfl)
      obtain ⟨zs', d, hst⟩ : ∃ zs' d, putS l z = (zs', d) := ⟨_, _, rfl⟩
      rw [hst] at HV HO ⊢
      clear hst htk
      simp only at HO HV ⊢
      cases d
      · go_wp2_with (at_builtin; refine app_i64 rfl (.tmp 44) (.tmp 46) rfl w.heap.size _ n' zs' z _ rfl (owns_al HO.out _) rfl ?_ (by omega) ?_ ?_)
        rotate_left 2
        · intro v4 w4 O4 B4 hs4
          have B4' := Lib.hid (HT.out.trans (((Below.refl wr.heap.size wr).alloc (Nat.le_refl _) _ |>.mono HT.out.size).trans B4))
          obtain ⟨A', c', hv', _, _⟩ := (Own.of_owns O4 (Nat.le_refl _)).slice
          subst hv'
          go_wp2
          go_ret
          exact ⟨A', n' + 1, c', rfl, by rw [HV.out]; exact (Own.of_owns O4 (Nat.le_refl _)).widen (Nat.le_refl _) (Nat.le_refl _), B4'.out⟩
        · exact (Blk.new _ _ _).cell 0
        · simp; omega
      · obtain ⟨A', c', hv', _, _⟩ := (Own.of_owns HO.out (Nat.le_refl _)).slice
        subst hv'
        go_wp2
        go_ret
        exact ⟨A', n', c', rfl, by rw [HV.out]; exact (Own.of_owns HO.out (Nat.le_refl _)).widen (Nat.le_refl _) (Nat.le_refl _), HT.out⟩
set_option maxHeartbeats 2000000 in
theorem l09Near_c (g : Gr) (b : Nat) (A : Option Addr) (n c B : Nat) (cell : Nat) (w : World) (hg : GP w b B g A n c) (hok : g.ok = true) (hc : cell < n) :
    Calls Try.prog 54 #[.pointer (some ⟨b, 0, none⟩), .int .i64 cell] w (PutPost (nearV g cell 8) w) := by
  have HG := Lib.hid fun W (hW : Below w.heap.size w W) a (ha : a < 8) => l09Go_c g b A n c B cell a W (hg.below hW) hok hc ha
  have HOK := Lib.hid (Gr.ok_bd hok)
  clear hg hok
  have O1 : Hid (Own (w.alloc (.cells #[] 2)) w.heap.size (w.heap.size + 1) 2 1 (.slice (some ⟨w.heap.size, 0, none⟩) 0 0) 0 (ints [])) := Lib.hid (Own.of_owns (World.ownsRow_lit (w := w) (base := w.heap.size) (e := 2) (size := 1) #[] 0 (Nat.le_refl _) (by simp [maxLen]) (by simp)) (by simp))
  have HT := Lib.hid ((Below.refl w.heap.size w).alloc (Nat.le_refl _) (.cells #[] 2))
  go_enter Try.func54, Try.ntmps54
  go_wp2_with fail
  go_loopw [5, 6] (fun o i wr => ∃ (k n' : Nat) (A' : Option Addr) (c' : Nat), k ≤ 8 ∧ i = .int .i64 k ∧ o = .slice A' n' c' ∧ Hid (Own wr w.heap.size wr.heap.size 2 1 (.slice A' n' c') n' (ints (nearV g cell k))) ∧ Hid (Below w.heap.size w wr)) (fun _ i _ => 8 - (intOf i).toNat)
  case atStart => exact ⟨0, 0, _, _, by omega, rfl, rfl, Lib.hid (by have h := O1.out; simpa [nearV] using h), HT⟩
  case round =>
    clear O1 HT
    obtain ⟨k, n', A', c', hk, rfl, rfl, HO, HT⟩ := hrel
    by_cases hlt : k < 8
    · have hlt' : (k : Int) < 8 := by omega
      go_wp2_with fail
      refine (HG.out wr HT.out k hlt).mono ?_
      rintro e w1 ⟨rfl, hb1⟩
      have hs1 := hb1.size
      have HT1 := Lib.hid (HT.out.trans (hb1.mono HT.out.size))
      have HO1 := Lib.hid (HO.out.below hb1 (Nat.le_refl _))
      clear hb1
      have HE := Lib.hid (show nearV g cell (k + 1) = if goB g cell k then putV (nearV g cell k) (goV g cell k) else nearV g cell k from rfl)
      rcases goV_cases (cell := (cell : Int)) (a := k) HOK.out with ⟨hgb, hgv⟩ | ⟨hgb, hg0, hg1⟩
      · have HN : Hid (nearV g cell (k + 1) = nearV g cell k) := Lib.hid (by rw [HE.out, if_neg (by simp [hgb])])
        rw [hgv]
        clear hgb hgv
        go_wp2
        go_roundw
        case rel => exact ⟨k + 1, n', A', c', by omega, by go_num, rfl, Lib.hid (by rw [HN.out]; exact HO1.out.widen (Nat.le_refl _) hs1), HT1⟩
        case measure => simp [intOf]; omega
      · have HN : Hid (nearV g cell (k + 1) = putV (nearV g cell k) (goV g cell k)) := Lib.hid (by rw [HE.out, if_pos hgb])
        have hl9 : n' ≤ 8 := by have h1 := HO.out.reads.len; have h2 := nearV_len (cell := (cell : Int)) HOK.out (k := k) (by omega); omega
        generalize goV g cell k = gv at *
        clear hgb hg1 HE
        go_wp2_with fail
        refine (l00Put_c A' n' c' _ _ gv w1 HO1.out.reads (by omega) (by omega)).mono ?_
        rintro e w3 ⟨A3, n3, c3, rfl, O3, B3⟩
        have HT3 := Lib.hid (HT1.out.trans (B3.mono HT1.out.size))
        have HO3 := Lib.hid (O3.widen HT1.out.size (Nat.le_refl _))
        clear O3 B3
        go_wp2
        go_roundw
        case rel => exact ⟨k + 1, n3, A3, c3, by omega, by go_num, rfl, Lib.hid (by rw [HN.out]; exact HO3.out), HT3⟩
        case measure => simp [intOf]; omega
    · obtain rfl : k = 8 := by omega
      go_wp2
      go_ret
      exact ⟨A', n', c', rfl, HO.out, HT.out⟩
def curvV (g : Gr) (a : Int) : Int × Int := if askG g a ≠ 0 then (0, askG g a) else (sumZ (fun x => hAt g x - hAt g a) ((nextTo g a 8).map Stp.cell), 0)
set_option maxHeartbeats 2000000 in
theorem sCurvatureAt_c (g : Gr) (A : Option Addr) (n c B : Nat) (a : Int) (w : World) (hg : GS w B g A n c) :
    Calls Try.prog 33 #[g.val A n c, .int .i64 a] w fun e w' => e = .returned (.tuple #[.int .i64 (curvV g a).1, .int .i64 (curvV g a).2]) ∧ Below w.heap.size w w' := by
  have HP := Lib.hid (GP.new hg)
  have HT := Lib.hid ((Below.refl w.heap.size w).alloc (Nat.le_refl _) (.cells (g.cells A n c) 26))
  have HS : Hid ((w.alloc (.cells (g.cells A n c) 26)).heap.size = w.heap.size + 1) := Lib.hid (by simp)
  obtain ⟨X, hX⟩ : ∃ X, X = w.alloc (.cells (g.cells A n c) 26) := ⟨_, rfl⟩
  rw [← hX] at HP HT HS
  have HASK := Lib.hid (l09Ask_c g w.heap.size A n c B a X HP.out)
  have HL := Lib.hid hg.len
  have HX := Lib.hid hX
  have hbig := hg.big
  clear hg hX
  simp only [Gr.val, Gr.cells] at *
  by_cases h0 : askG g a = 0
  · obtain ⟨hok, ha0, ha1⟩ := askG_zero h0
    rw [h0] at HASK
    obtain ⟨k, rfl⟩ : ∃ k : Nat, a = k := ⟨a.toNat, by omega⟩
    have hkn : k < n := by rw [← HL.out]; omega
    have HOK := Lib.hid (Gr.ok_bd hok)
    have HV : Hid (curvV g k = (sumZ (fun x => hAt g x - hAt g k) (nearV g k 8), 0)) := Lib.hid (by rw [curvV, if_neg (by simp [h0]), nearV_sum HOK.out _ 8 (by omega)])
    have HNR := Lib.hid fun W (hW : Below X.heap.size X W) => l09Near_c g w.heap.size A n c B k W (HP.out.below hW) hok hkn
    clear h0 hok ha0 ha1
    go_enter Try.func33, Try.ntmps33
    go_wp2_with fail
    rw [← HX.out]
    refine HASK.out.mono ?_
    rintro e w' ⟨rfl, q, rfl⟩
    go_wp2_with fail
    refine (HNR.out _ (below_drewN (Below.refl _ _) q)).mono ?_
    rintro e w2 ⟨A2, m, c2, rfl, O2, B2⟩
    have HB2 : Hid (Below X.heap.size X w2) := Lib.hid ((below_drewN (Below.refl X.heap.size X) _).trans (B2.mono (by simp)))
    have HO := Lib.hid O2.reads
    have HLM := Lib.hid HO.out.len
    clear O2 B2
    go_wp2
    have HMB := Lib.hid fun (j : Nat) (x : Int) (h : (nearV g k 8)[j]? = some x) => show ∃ t : Nat, x = t ∧ t < n from by
      obtain ⟨a', _, h2, h3⟩ := nearV_mem (List.mem_of_getElem? h)
      obtain ⟨_, _, _, h5, h6⟩ := goB_bd HOK.out h2
      rw [HL.out] at h6
      exact ⟨x.toNat, by omega, by omega⟩
    have hm8 : m ≤ 8 := by have h2 := nearV_len (cell := (k : Int)) HOK.out (k := 8) (by omega); have h1 := HLM.out; omega
    have HFB := Lib.hid fun x => show -5000 ≤ hAt g x - hAt g k ∧ hAt g x - hAt g k ≤ 5000 from by have h1 := hAt_bd HOK.out x; have h2 := hAt_bd HOK.out k; omega
    go_loopw [8, 9] (fun s i wr => ∃ j : Nat, j ≤ m ∧ i = .int .i64 j ∧ s = .int .i64 (sumZ (fun x => hAt g x - hAt g k) ((nearV g k 8).take j)) ∧ Hid (Below w2.heap.size w2 wr)) (fun _ i _ => m - (intOf i).toNat)
    case atStart => exact ⟨0, Nat.zero_le _, rfl, rfl, Lib.hid (Below.refl _ _)⟩
    case round =>
      obtain ⟨j, hj, rfl, rfl, HW⟩ := hrel
      by_cases hlt : j < m
      · obtain ⟨ad, x, rfl, hbl, hx, hc⟩ := (HO.out.below HW.out).int hlt
        obtain ⟨t, rfl, ht⟩ := HMB.out j x hx
        have HN : Hid (sumZ (fun x => hAt g x - hAt g k) ((nearV g k 8).take (j + 1)) = sumZ (fun x => hAt g x - hAt g k) ((nearV g k 8).take j) + (hAt g t - hAt g k)) := Lib.hid (by rw [List.take_add_one, hx]; exact sumZ_one _ _ _)
        have hsb := sumZ_bd (fun x => hAt g x - hAt g k) HFB.out ((nearV g k 8).take j)
        have hlj : ((nearV g k 8).take j).length ≤ 8 := by have h1 := HLM.out; rw [List.length_take]; omega
        have hxb := HFB.out t
        have HXW := HB2.out.trans (HW.out.mono HB2.out.size)
        obtain ⟨ah, hah, _, g1⟩ := (HP.out.below HXW).gs.at_ ht
        obtain ⟨ah', e', _, g2⟩ := (HP.out.below HXW).gs.at_ hkn
        obtain rfl : ah = ah' := by rw [hah] at e'; injection e'
        have x3 := (HP.out.below HXW).h
        subst hah
        clear hx e' HXW
        have ht' : (t : Int) < (n : Int) := by omega
        have hk' : (k : Int) < (n : Int) := by omega
        generalize sumZ (fun x => hAt g x - hAt g k) ((nearV g k 8).take j) = sm at *
        generalize hAt g t = p at *
        generalize hgk : hAt g k = q' at *
        have e1 : IntKind.i64.wrap (p - q') = p - q' := IntWalk.i64_in _ (by omega)
        have e2 : IntKind.i64.wrap (sm + (p - q')) = sm + (p - q') := IntWalk.i64_in _ (by omega)
        clear hsb hlj hxb
        go_upto_region 9 with (fail)
        go_quiet (fail)
        clear e1 e2
        go_wp2
        go_roundw
        case rel => exact ⟨j + 1, by omega, by go_num, by rw [HN.out], Lib.hid (below_drewN HW.out _)⟩
        case measure => simp [intOf]; omega
      · obtain rfl : j = m := by omega
        have htk : (nearV g k 8).take j = nearV g k 8 := List.take_of_length_le (by have := HLM.out; omega)
        rw [htk]
        go_wp2
        go_ret2
        exact ⟨ret2 (by rw [HV.out]) (by rw [HV.out]), HT.out.trans ((HB2.out.trans (HW.out.mono HB2.out.size)).mono HT.out.size)⟩
  · have hne : (askG g a != 0) = true := by simpa using h0
    have HV : Hid (curvV g a = (0, askG g a)) := Lib.hid (by rw [curvV, if_pos h0])
    clear h0
    go_enter Try.func33, Try.ntmps33
    go_wp2_with fail
    rw [← HX.out]
    refine HASK.out.mono ?_
    rintro e w' ⟨rfl, q, rfl⟩
    go_wp2
    go_ret2
    exact ⟨ret2 (by rw [HV.out]) (by rw [HV.out]), below_drewN HT.out _⟩
set_option maxHeartbeats 4000000 in
theorem iCurvatureAt_c (g : Gr) (A : Option Addr) (n c B : Nat) (a : Int) (w : World) (hg : GS w B g A n c) :
    Calls Try.prog 34 #[g.val A n c, .int .i64 a] w fun e w' => e = .returned (.tuple #[.int .i64 (curvV g a).1, .int .i64 (curvV g a).2]) ∧ Below w.heap.size w w' := by
  have HT0 := Lib.hid ((Below.refl w.heap.size w).alloc (Nat.le_refl _) (.cells (g.cells A n c) 26))
  have HS0 : Hid ((w.alloc (.cells (g.cells A n c) 26)).heap.size = w.heap.size + 1) := Lib.hid (by simp)
  have HK0 := Lib.hid (Blk.new w 26 (g.cells A n c))
  obtain ⟨X0, hX0⟩ : ∃ X, X = w.alloc (.cells (g.cells A n c) 26) := ⟨_, rfl⟩
  rw [← hX0] at HT0 HS0 HK0
  obtain ⟨X1, hX1⟩ : ∃ X, X = X0.alloc (.cells #[.int .i64 a] 2) := ⟨_, rfl⟩
  have HR1 : Hid (Reads X1 (X0.heap.size + 1) 1 (some ⟨X0.heap.size, 0, none⟩) 1 (ints [a])) := Lib.hid (by rw [hX1]; exact greads_lit1 _ _)
  have HT1 : Hid (Below w.heap.size w X1) := Lib.hid (by rw [hX1]; exact HT0.out.alloc HT0.out.size _)
  have HS1 : Hid (X1.heap.size = w.heap.size + 1 + 1) := Lib.hid (by rw [hX1]; simp [HS0.out])
  have HK1 : Hid (Blk X1 w.heap.size 26 (g.cells A n c)) := Lib.hid (by rw [hX1]; exact HK0.out.alloc _)
  rw [HS0.out] at HR1
  have HC := Lib.hid (gcode_c g A n c B _ 1 1 _ [a] X1 (hg.below HT1.out) HR1.out (by rw [HS1.out]; omega) (by omega))
  rw [codeG_one] at HC
  have HX1 := Lib.hid (show X1 = (w.alloc (.cells (g.cells A n c) 26)).alloc (.cells #[.int .i64 a] 2) from by rw [hX1, hX0])
  have HN := Lib.hid fun (hok : g.ok = true) (k : Nat) (hk : k < n) W (hW : Below w.heap.size w W) => next_c g A n c B k W (hg.below hW) hok hk
  have hbig := hg.big
  have HL := Lib.hid hg.len
  have HG := Lib.hid hg
  clear hg hX0 hX1 HR1
  simp only [Gr.val, Gr.cells] at *
  by_cases h0 : askG g a = 0
  · obtain ⟨hok, ha0, ha1⟩ := askG_zero h0
    obtain ⟨k, rfl⟩ : ∃ k : Nat, a = k := ⟨a.toNat, by omega⟩
    have hkn : k < n := by rw [← HL.out]; omega
    have HOK := Lib.hid (Gr.ok_bd hok)
    have HV : Hid (curvV g k = (sumZ (fun x => hAt g x - hAt g k) ((nextTo g k 8).map Stp.cell), 0)) := Lib.hid (by rw [curvV, if_neg (by simp [h0])])
    rw [h0] at HC
    have HN1 := Lib.hid (HN.out hok k hkn)
    clear h0 hok ha0 ha1 HN
    go_enter Try.func34, Try.ntmps34
    go_wp2_with fail
    rw [← HX1.out]
    refine HC.out.mono ?_
    rintro e w1 ⟨rfl, hb1⟩
    have HK2 := Lib.hid (HK1.out.below hb1 (by rw [HS1.out]; omega))
    have HT2 := Lib.hid (HT1.out.trans (hb1.mono HT1.out.size))
    clear hb1
    have x0 : w1.cell? ⟨w.heap.size, 0, none⟩ = some (.int .i64 g.rows) := HK2.out.cell 0
    have x1 : w1.cell? ⟨w.heap.size, 1, none⟩ = some (.int .i64 g.cols) := HK2.out.cell 1
    have x2 : w1.cell? ⟨w.heap.size, 2, none⟩ = some (.int .i64 g.size) := HK2.out.cell 2
    have x3 : w1.cell? ⟨w.heap.size, 3, none⟩ = some (.slice A n c) := HK2.out.cell 3
    go_wp2_with fail
    refine (HN1.out w1 HT2.out).mono ?_
    rintro e w2 ⟨A2, m, c2, rfl, O2, hm, B2⟩
    have HT3 := Lib.hid (HT2.out.trans (B2.mono HT2.out.size))
    have HO := Lib.hid O2.reads
    have HLM := Lib.hid (HO.out.stpLen)
    have HK3 := Lib.hid (HK2.out.below B2 HK2.out.lt)
    clear x0 x1 x2 x3 O2 B2
    go_wp2
    have hm8 : m ≤ 8 := hm
    have HFB := Lib.hid fun x => show -5000 ≤ hAt g x - hAt g k ∧ hAt g x - hAt g k ≤ 5000 from by have h1 := hAt_bd HOK.out x; have h2 := hAt_bd HOK.out k; omega
    go_loopw [7, 21] (fun s i wr => ∃ j : Nat, j ≤ m ∧ i = .int .i64 j ∧ s = .int .i64 (sumZ (fun x => hAt g x - hAt g k) (((nextTo g k 8).take j).map Stp.cell)) ∧ Hid (Below w2.heap.size w2 wr)) (fun _ i _ => m - (intOf i).toNat)
    case atStart => exact ⟨0, Nat.zero_le _, rfl, rfl, Lib.hid (Below.refl _ _)⟩
    case round =>
      obtain ⟨j, hj, rfl, rfl, HW⟩ := hrel
      by_cases hlt : j < m
      · obtain ⟨ad, x, rfl, hbl, hx, hc9⟩ := (HO.out.below HW.out).stp hlt
        unfold StpAt at hc9
        obtain ⟨c0, c1, c2'⟩ := hc9
        obtain ⟨t, htc, ht⟩ := next_cell HOK.out hx
        have HN : Hid (sumZ (fun x => hAt g x - hAt g k) (((nextTo g k 8).take (j + 1)).map Stp.cell) = sumZ (fun x => hAt g x - hAt g k) (((nextTo g k 8).take j).map Stp.cell) + (hAt g t - hAt g k)) := Lib.hid (by rw [List.take_add_one, hx, List.map_append, ← htc]; exact sumZ_one _ _ _)
        clear hx
        obtain ⟨xc, xd, xs⟩ := x
        simp only at htc c0 c1 c2'
        subst htc
        rw [HL.out] at ht
        have hsb := sumZ_bd (fun x => hAt g x - hAt g k) HFB.out (((nextTo g k 8).take j).map Stp.cell)
        have hlj : (((nextTo g k 8).take j).map Stp.cell).length ≤ 8 := by rw [List.length_map, List.length_take]; omega
        have hxb := HFB.out t
        obtain ⟨W1, hW1⟩ : ∃ W1, W1 = wr.alloc (.cells #[.int .i64 t, .int .i64 xd, .int .i64 xs] 85) := ⟨_, rfl⟩
        have K3 : Hid (Blk W1 wr.heap.size 85 #[.int .i64 t, .int .i64 xd, .int .i64 xs]) := Lib.hid (by rw [hW1]; exact Blk.new _ _ _)
        have B1 : Below wr.heap.size wr W1 := by rw [hW1]; exact (Below.refl _ _).alloc (Nat.le_refl _) _
        have HW1 := Lib.hid hW1; clear hW1
        go_upto_region 8 with (fail)
        rw [← HW1.out]
        clear c0 c1 c2' HW1
        have HW2 := Lib.hid (HW.out.trans (B1.mono HW.out.size))
        have HTW := Lib.hid (HT3.out.trans (HW2.out.mono HT3.out.size))
        clear B1
        obtain ⟨ah, hah, _, g1⟩ := (HG.out.below HTW.out).at_ ht
        obtain ⟨ah', e', _, g2⟩ := (HG.out.below HTW.out).at_ hkn
        obtain rfl : ah = ah' := by rw [hah] at e'; injection e'
        have y0 : W1.cell? ⟨w.heap.size, 3, none⟩ = some (.slice A n c) := (HK3.out.below HW2.out HK3.out.lt).cell 3
        have y1 : W1.cell? ⟨wr.heap.size, 0, none⟩ = some (.int .i64 t) := K3.out.cell 0
        subst hah
        clear e'
        have hk' : (k : Int) < (n : Int) := by omega
        have ht' : (t : Int) < (n : Int) := by omega
        generalize sumZ (fun x => hAt g x - hAt g k) (((nextTo g k 8).take j).map Stp.cell) = sm at *
        generalize hAt g t = p at *
        generalize hgk : hAt g k = q' at *
        have e1 : IntKind.i64.wrap (p - q') = p - q' := IntWalk.i64_in _ (by omega)
        have e2 : IntKind.i64.wrap (sm + (p - q')) = sm + (p - q') := IntWalk.i64_in _ (by omega)
        clear hsb hlj hxb
        go_quiet (fail)
        clear e1 e2
        go_wp2
        go_roundw
        case rel => exact ⟨j + 1, by omega, by go_num, by simp only [hgk]; rw [HN.out], Lib.hid (below_drewN HW2.out _)⟩
        case measure => simp [intOf]; omega
      · obtain rfl : j = m := by omega
        have htk : (nextTo g k 8).take j = nextTo g k 8 := List.take_of_length_le (by have := HLM.out; omega)
        rw [htk]
        go_wp2
        go_ret2
        exact ⟨ret2 (by rw [HV.out]) (by rw [HV.out]), HT3.out.trans (HW.out.mono HT3.out.size)⟩
  · have hne : (askG g a != 0) = true := by simpa using h0
    have HV : Hid (curvV g a = (0, askG g a)) := Lib.hid (by rw [curvV, if_pos h0])
    clear h0
    go_enter Try.func34, Try.ntmps34
    go_wp2_with fail
    rw [← HX1.out]
    refine HC.out.mono ?_
    rintro e w1 ⟨rfl, hb1⟩
    have HT2 := Lib.hid (HT1.out.trans (hb1.mono HT1.out.size))
    clear hb1
    go_wp2
    go_ret2
    exact ⟨ret2 (by rw [HV.out]) (by rw [HV.out]), HT2.out⟩
end Go.Proofs.Ytaoomildopmclaa
