/- Plain laws of drift: all snow is kept, without a share nothing moves, the worst wind; small functions that the law calls. -/
import Derived.Test.YtndnjabalofcnaaFiO
namespace Go.Proofs.Ytndnjabalofcnaa
open Go.ChangeShapes Go.WideShapes Go.ChangeAt Go.RowKit
set_option linter.unusedVariables false

theorem sum_set {l : List Int} {k : Nat} {v : Int} (h : k < l.length) : (l.set k v).sum = l.sum - lAt l k + v := by
  induction l generalizing k with
  | nil => simp at h
  | cons x l ih =>
    cases k with
    | zero => simp [lAt]; omega
    | succ k =>
      have e := ih (k := k) (by simpa using h)
      have e2 : lAt (x :: l) (k + 1) = lAt l k := by simp [lAt]
      simp only [List.set_cons_succ, List.sum_cons, e, e2]
      omega
theorem moveV_sum {l : List Int} {c t : Nat} {m : Int} (hc : c < l.length) (ht : t < l.length) : (moveV l c t m).sum = l.sum := by
  rw [moveV, sum_set (by simpa using ht), sum_set hc]; omega
theorem stepL_sum {g : Fi} (hg : FiOk g) (d sh : Int) : ∀ k : Nat, k ≤ g.hs.length → (stepL g d sh k).sum = g.hs.sum
  | 0, _ => rfl
  | k + 1, h => by
    have ih := stepL_sum hg d sh k (by omega)
    rw [stepL]
    rcases leeV_cases (cell := (k : Int)) (d := d) hg with h1 | ⟨h1, h2⟩
    · rw [h1, if_neg (by omega), ih]
    · rw [if_pos h1, moveV_sum (by rw [stepL_len]; omega) (by rw [stepL_len]; omega), ih]
theorem runV_sum {sh : Int} : ∀ (ds : List Int) (g : Fi), FiOk g → (runV sh ds g).2 = 0 → (runV sh ds g).1.hs.sum = g.hs.sum
  | [], g, _, _ => rfl
  | d :: r, g, hg, h => by
    rw [runV] at h ⊢
    by_cases ha : allInB 0 1000000 (stepF g d sh).hs = true
    · rw [if_pos ha] at h ⊢
      rw [runV_sum r _ (stepF_fi hg ha) h]
      exact stepL_sum hg d sh _ (Nat.le_refl _)
    · rw [if_neg ha] at h; simp at h
theorem subL_sum : ∀ {o g : List Int}, o.length = g.length → (subL o g).sum = o.sum - g.sum
  | [], [], _ => rfl
  | [], _ :: _, h => by simp at h
  | _ :: _, [], h => by simp at h
  | a :: o, b :: g, h => by
    have ih := subL_sum (o := o) (g := g) (by simpa using h)
    simp only [subL, List.zipWith_cons_cons, List.sum_cons] at ih ⊢
    omega
theorem set_lAt (l : List Int) (c : Nat) : l.set c (lAt l c) = l := by
  apply List.ext_getElem?
  intro i
  rw [List.getElem?_set]
  by_cases h : c = i
  · subst h
    by_cases h2 : c < l.length
    · simp [h2, lAt]
    · simp [h2]
  · simp [h]
theorem stepL_zero (g : Fi) (d : Int) : ∀ k, stepL g d 0 k = g.hs
  | 0 => rfl
  | k + 1 => by
    rw [stepL, stepL_zero g d k]
    split
    · have e : movedV (lAt g.hs k) 0 = 0 := by simp [movedV, rnd]
      rw [e, moveV, Int.sub_zero, set_lAt, Int.add_zero, set_lAt]
    · rfl
theorem runV_zero : ∀ (ds : List Int) (g : Fi), FiOk g → runV 0 ds g = (g, 0)
  | [], g, _ => rfl
  | d :: r, g, hg => by
    have e : stepF g d 0 = g := by obtain ⟨a, b, c⟩ := g; simp only [stepF]; rw [stepL_zero]
    rw [runV, e, if_pos hg.hs, runV_zero r g hg]
theorem driftV_zero2 {g : Fi} {ds : List Int} {sh : Int} (h : (driftV g ds sh).2 = 0) : fieldV g ds sh = 0 ∧ driftV g ds sh = runV sh ds g := by
  unfold driftV at h ⊢
  by_cases hf : fieldV g ds sh ≠ 0
  · rw [if_pos hf] at h; exact absurd h hf
  · rw [if_neg hf]; exact ⟨by simpa using hf, rfl⟩
theorem drift_still {g : Fi} {ds : List Int} {sh : Int} (h : (driftV g ds sh).2 = 0) : driftV g ds 0 = (g, 0) := by
  obtain ⟨h1, _⟩ := driftV_zero2 h
  have h2 := fieldV_zero h1
  have hb : gustB ds 0 = true := by simp [gustB, h2.2.2.1, inB]; omega
  rw [driftV_run h2.1 hb]
  exact runV_zero ds g (Fi.ok_bd h2.1)
theorem drift_sum {g : Fi} {ds : List Int} {sh : Int} (h : (driftV g ds sh).2 = 0) : (driftV g ds sh).1.hs.sum = g.hs.sum := by
  obtain ⟨h1, h2⟩ := driftV_zero2 h
  rw [h2] at h ⊢
  exact runV_sum ds g (Fi.ok_bd (fieldV_zero h1).1) h
theorem drift_dims {g : Fi} {ds : List Int} {sh : Int} (h : (driftV g ds sh).2 = 0) : (driftV g ds sh).1.rows = g.rows ∧ (driftV g ds sh).1.cols = g.cols := by
  obtain ⟨h1, h2⟩ := driftV_zero2 h
  rw [h2] at h ⊢
  have := runV_ok ds g (Fi.ok_bd (fieldV_zero h1).1) h
  exact ⟨this.2.1, this.2.2.1⟩
theorem FiOk.ok {g : Fi} (h : FiOk g) : g.ok = true := by
  simp only [Fi.ok, Fi.dims, Bool.and_eq_true, decide_eq_true_eq]
  exact ⟨⟨⟨inB_t h.r0 h.r1, inB_t h.c0 h.c1⟩, h.len⟩, h.hs⟩
/-! ### the worst wind -/
def gainK (g : Fi) (sh : Int) (c : Nat) (k : Nat) : Int := lAt (stepF g k sh).hs c - lAt g.hs c
def okK (g : Fi) (sh : Int) (k : Nat) : Bool := allInB 0 1000000 (stepF g k sh).hs
structure WorstOk (g : Fi) (sh : Int) (c K : Nat) (r : Int × Int) : Prop where
  none_ : r.1 < 0 → ∀ k, k < K → okK g sh k = false
  some_ : 0 ≤ r.1 → ∃ j : Nat, r.1 = j ∧ j < K ∧ okK g sh j = true ∧ r.2 = gainK g sh c j
  best : ∀ k, k < K → okK g sh k = true → gainK g sh c k ≤ r.2 ∧ ((k : Int) < r.1 → gainK g sh c k < r.2)
theorem worstL_ok (g : Fi) (sh : Int) (c : Nat) : ∀ K, WorstOk g sh c K (worstL g sh c K)
  | 0 => ⟨fun _ k hk => by omega, fun h => by simp [worstL] at h, fun k hk => by omega⟩
  | K + 1 => by
    have ih := worstL_ok g sh c K
    cases hk : okK g sh K
    · rw [worstL, worstS_bad hk]
      refine ⟨fun h k hk' => ?_, fun h => ?_, fun k hk' ho => ?_⟩
      · by_cases e : k = K
        · rw [e]; exact hk
        · exact ih.none_ h k (by omega)
      · obtain ⟨j, h1, h2, h3⟩ := ih.some_ h
        exact ⟨j, h1, by omega, h3⟩
      · by_cases e : k = K
        · rw [e, hk] at ho; cases ho
        · exact ih.best k (by omega) ho
    · rw [worstL, worstS_ok hk]
      by_cases hc : (worstL g sh c K).1 < 0 ∨ (worstL g sh c K).2 < gainK g sh c K
      · have hc' := hc
        unfold gainK at hc'
        rw [if_pos hc']
        refine ⟨fun h => by simp only at h; omega, fun _ => ⟨K, rfl, by omega, hk, rfl⟩, fun k hk' ho => ?_⟩
        simp only
        by_cases e : k = K
        · subst e; exact ⟨Int.le_refl _, fun h => by omega⟩
        · rcases hc with hc | hc
          · have := ih.none_ hc k (by omega)
            rw [this] at ho; cases ho
          · have := (ih.best k (by omega) ho).1
            unfold gainK at hc this ⊢
            omega
      · have hc' := hc
        unfold gainK at hc'
        rw [if_neg hc']
        have h1 : 0 ≤ (worstL g sh c K).1 := by omega
        have h2 : gainK g sh c K ≤ (worstL g sh c K).2 := by omega
        refine ⟨fun h => by omega, fun h => ?_, fun k hk' ho => ?_⟩
        · obtain ⟨j, h1, h2, h3⟩ := ih.some_ h
          exact ⟨j, h1, by omega, h3⟩
        · by_cases e : k = K
          · subst e
            obtain ⟨j, h3, h4, _⟩ := ih.some_ h1
            exact ⟨h2, fun h => by omega⟩
          · exact ih.best k (by omega) ho
theorem worstV_code {g : Fi} {sh cell : Int} (h : (worstV g sh cell).2.2 ≠ 0) : (worstV g sh cell).1 = 0 ∧ (worstV g sh cell).2.1 = 0 := by
  unfold worstV at h ⊢
  split
  · exact ⟨rfl, rfl⟩
  · rename_i h1
    rw [if_neg h1] at h
    split
    · exact ⟨rfl, rfl⟩
    · rename_i h2
      rw [if_neg h2] at h
      split
      · exact ⟨rfl, rfl⟩
      · rename_i h3
        rw [if_neg h3] at h; simp at h
theorem worstV_zero {g : Fi} {sh cell : Int} (h : (worstV g sh cell).2.2 = 0) :
    g.ok = true ∧ inB sh 0 1000 = true ∧ 0 ≤ cell ∧ cell < g.hs.length ∧ 0 ≤ (worstV g sh cell).1 ∧ (worstV g sh cell).1 < 4 ∧ WorstOk g sh cell.toNat 4 ((worstV g sh cell).1, (worstV g sh cell).2.1) := by
  unfold worstV at h ⊢
  cases h1 : g.ok
  · rw [h1] at h; simp at h
  · rw [h1] at h
    rw [if_neg (by simp)] at h ⊢
    by_cases h2 : inB sh 0 1000 = false ∨ inB cell 0 ((g.hs.length : Int) - 1) = false
    · rw [if_pos h2] at h; simp at h
    · rw [if_neg h2] at h ⊢
      by_cases h3 : (worstL g sh cell.toNat 4).1 < 0
      · rw [if_pos h3] at h; simp at h
      · rw [if_neg h3]
        have hw := worstL_ok g sh cell.toNat 4
        have h4 : inB sh 0 1000 = true := by cases hh : inB sh 0 1000 <;> simp_all
        have h5 : inB cell 0 ((g.hs.length : Int) - 1) = true := by cases hh : inB cell 0 ((g.hs.length : Int) - 1) <;> simp_all
        have h6 := inB_bd h5
        obtain ⟨j, e1, e2, _⟩ := hw.some_ (by omega)
        exact ⟨rfl, h4, h6.1, by omega, by simp only; omega, by simp only; omega, hw⟩
theorem driftV_one {g : Fi} {sh : Int} (h1 : g.ok = true) (h2 : inB sh 0 1000 = true) (k : Nat) (hk : k < 4) : driftV g [(k : Int)] sh = if okK g sh k then (stepF g k sh, 0) else (zeroFi, 6) := by
  rw [driftV_run h1 (by rw [gust_one, h2, inB_t (by omega) (by omega)]; rfl), runV_one]; rfl
/-! ### small functions -/
theorem lsum_take {l : List Int} {k : Nat} {x : Int} (h : l[k]? = some x) : (l.take (k + 1)).sum = (l.take k).sum + x := by
  rw [List.take_add_one, h]; simp
theorem lsum_bd (M : Int) (hM : 0 ≤ M) : ∀ l : List Int, (∀ x ∈ l, -M ≤ x ∧ x ≤ M) → -(M * l.length) ≤ l.sum ∧ l.sum ≤ M * l.length
  | [], _ => by simp
  | x :: l, h => by
    have h1 := lsum_bd M hM l (fun y hy => h y (List.mem_cons_of_mem _ hy))
    have h2 := h x (List.mem_cons_self ..)
    have e : M * ((x :: l).length : Nat) = M * (l.length : Nat) + M := by simp [Int.mul_add]
    simp only [List.sum_cons]
    omega
theorem lsum_take_bd {l : List Int} (h : ∀ x ∈ l, -1000000 ≤ x ∧ x ≤ 1000000) (k : Nat) : -(1000000 * (l.length : Int)) ≤ (l.take k).sum ∧ (l.take k).sum ≤ 1000000 * (l.length : Int) := by
  have := lsum_bd 1000000 (by omega) (l.take k) (fun x hx => h x (List.mem_of_mem_take hx))
  have h2 : (l.take k).length ≤ l.length := List.length_take_le' _ _
  omega
theorem sumOf_c (D : Option Addr) (m d BD : Nat) (ms : List Int) (w : World) (hd : Reads w BD 1 D m (ints ms)) (hm : m ≤ 1048576) (hall : ∀ x ∈ ms, -1000000 ≤ x ∧ x ≤ 1000000) :
    Calls Try.prog 62 #[.slice D m d] w fun e w' => e = .returned (.int .i64 ms.sum) ∧ w = w' := by
  have HL := Lib.hid hd.len
  have HD := Lib.hid hd; clear hd
  have HB := Lib.hid fun k => lsum_take_bd hall k
  have HALL := Lib.hid hall; clear hall
  go_enter Try.func62, Try.ntmps62
  go_wp2
  go_loop [3, 8] (fun t i => ∃ k : Nat, k ≤ m ∧ i = .int .i64 k ∧ t = .int .i64 ((ms.take k).sum)) (fun _ i => m - (intOf i).toNat)
  case atStart => exact ⟨0, Nat.zero_le _, rfl, rfl⟩
  case round =>
    obtain ⟨k, hk, rfl, rfl⟩ := hrel
    by_cases hlt : k < m
    · obtain ⟨ad, z, rfl, hbl, hz, hc⟩ := HD.out.int hlt
      have hb := HB.out k
      rw [HL.out] at hb
      have hzb := HALL.out z (List.mem_of_getElem? hz)
      have HE := Lib.hid (lsum_take hz)
      clear hz
      generalize (ms.take k).sum = s at *
      go_wp2
      go_round
      case rel => exact ⟨k + 1, by omega, by go_num, by rw [HE.out]⟩
      case measure => simp [intOf]; omega
    · obtain rfl : k = m := by omega
      have HE : Hid (ms.take k = ms) := Lib.hid (List.take_of_length_le (by have := HL.out; omega))
      go_wp2
      go_ret
      exact ⟨ret_int (by rw [HE.out]), rfl⟩
theorem b10Sum_c (D : Option Addr) (m d BD : Nat) (ms : List Int) (w : World) (hd : Reads w BD 1 D m (ints ms)) (hm : m ≤ 1048576) (hall : ∀ x ∈ ms, -1000000 ≤ x ∧ x ≤ 1000000) :
    Calls Try.prog 35 #[.slice D m d] w fun e w' => e = .returned (.int .i64 ms.sum) ∧ w = w' := by
  have HL := Lib.hid hd.len
  have HD := Lib.hid hd; clear hd
  have HB := Lib.hid fun k => lsum_take_bd hall k
  have HALL := Lib.hid hall; clear hall
  go_enter Try.func35, Try.ntmps35
  go_wp2
  go_loop [3, 4] (fun t i => ∃ k : Nat, k ≤ m ∧ i = .int .i64 k ∧ t = .int .i64 ((ms.take k).sum)) (fun _ i => m - (intOf i).toNat)
  case atStart => exact ⟨0, Nat.zero_le _, rfl, rfl⟩
  case round =>
    obtain ⟨k, hk, rfl, rfl⟩ := hrel
    by_cases hlt : k < m
    · obtain ⟨ad, z, rfl, hbl, hz, hc⟩ := HD.out.int hlt
      have hb := HB.out k
      rw [HL.out] at hb
      have hzb := HALL.out z (List.mem_of_getElem? hz)
      have HE := Lib.hid (lsum_take hz)
      clear hz
      generalize (ms.take k).sum = s at *
      go_wp2
      go_round
      case rel => exact ⟨k + 1, by omega, by go_num, by rw [HE.out]⟩
      case measure => simp [intOf]; omega
    · obtain rfl : k = m := by omega
      have HE : Hid (ms.take k = ms) := Lib.hid (List.take_of_length_le (by have := HL.out; omega))
      go_wp2
      go_ret
      exact ⟨ret_int (by rw [HE.out]), rfl⟩
theorem b10Long_c (A : Option Addr) (n c : Nat) (w : World) : Calls Try.prog 31 #[.slice A n c] w fun e w' => e = .returned (.bool (decide (1048576 < n))) ∧ w = w' := by
  go_enter Try.func31, Try.ntmps31
  go_wp2
  go_ret
  exact ⟨ret_bool (by rw [Bool.eq_iff_iff]; simp; omega), rfl⟩
theorem fi_mem {g : Fi} (h : FiOk g) : ∀ x ∈ g.hs, -1000000 ≤ x ∧ x ≤ 1000000 := fun x hx => by
  have := inB_bd (List.all_eq_true.1 h.hs x hx); omega
set_option maxHeartbeats 2000000 in
theorem FieldMass_c (g : Fi) (A : Option Addr) (n c B : Nat) (w : World) (hg : GS w B g A n c) (hok : FiOk g) :
    Calls Try.prog 33 #[g.val A n c] w fun e w' => e = .returned (.tuple #[.int .i64 g.hs.sum, .int .i64 0]) ∧ Below w.heap.size w w' := by
  have HT := Lib.hid ((Below.refl w.heap.size w).alloc (Nat.le_refl _) (.cells (g.cells A n c) 26))
  have HK := Lib.hid (Blk.new w 26 (g.cells A n c))
  have HV := Lib.hid (iValidField_c g A n c B _ (hg.below HT.out))
  rw [hok.ok] at HV
  have HS := Lib.hid fun W (hW : Below w.heap.size w W) => sumOf_c A n c B g.hs W (hg.below hW).rd hg.big (fi_mem hok)
  clear hg hok
  obtain ⟨r, co, hs'⟩ := g
  simp only [Fi.val, Fi.cells] at *
  go_enter Try.func33, Try.ntmps33
  go_wp2_with fail
  refine HV.out.mono ?_
  rintro e w1 ⟨rfl, B1⟩
  have HT1 := Lib.hid (HT.out.trans (B1.mono (by simp)))
  have K1 := Lib.hid (HK.out.below B1 (by simp))
  have c2 : w1.cell? ⟨w.heap.size, 2, none⟩ = some (.slice A n c) := K1.out.cell 2
  clear B1 HT HK HV
  go_wp2_with fail
  refine (HS.out w1 HT1.out).mono ?_
  rintro e w' ⟨rfl, rfl⟩
  go_wp2
  go_ret2
  exact ⟨rfl, HT1.out⟩
theorem sValidField_c (g : Fi) (A : Option Addr) (n c B : Nat) (w : World) (hg : GS w B g A n c) :
    Calls Try.prog 34 #[g.val A n c] w fun e w' => e = .returned (.bool g.ok) ∧ Below w.heap.size w w' := by
  have HT := Lib.hid ((Below.refl w.heap.size w).alloc (Nat.le_refl _) (.cells (g.cells A n c) 26))
  have HO := Lib.hid (l06Ok_c g w.heap.size A n c B _ (GP.new hg))
  clear hg
  generalize g.ok = ok at *
  obtain ⟨r, co, hs'⟩ := g
  simp only [Fi.val, Fi.cells] at *
  go_enter Try.func34, Try.ntmps34
  go_wp2_with fail
  refine HO.out.mono ?_
  rintro e w' ⟨rfl, q, rfl⟩
  go_wp2
  go_ret
  exact ⟨rfl, below_drewN HT.out q⟩
theorem l00Same_self (A D : Option Addr) (n c d BA BD : Nat) (zs : List Int) (w : World) (ha : Reads w BA 1 A n (ints zs)) (hd : Reads w BD 1 D n (ints zs)) (hn : n ≤ 1048576) :
    Calls Try.prog 63 #[.slice A n c, .slice D n d] w fun e w' => e = .returned (.bool true) ∧ Below w.heap.size w w' := by
  go_enter Try.func63, Try.ntmps63
  go_wp2
  go_loopw [5] (fun i wr => ∃ k q : Nat, k ≤ n ∧ i = .int .i64 k ∧ wr = w.drewN q) (fun i _ => n - (intOf i).toNat)
  case atStart => exact ⟨0, 0, Nat.zero_le _, rfl, rfl⟩
  case round =>
    obtain ⟨k, q, hk, rfl, rfl⟩ := hrel
    by_cases hlt : k < n
    · obtain ⟨ad, z, rfl, _, hz, hc⟩ := ha.int hlt
      obtain ⟨ad2, z2, rfl, _, hz2, hc2⟩ := hd.int hlt
      obtain rfl : z = z2 := by rw [hz] at hz2; injection hz2
      have hkn : (k : Int) < (n : Int) := by omega
      clear ha hd hz hz2
      go_wp2
      go_quiet (fail)
      go_wp2
      go_roundw
      case rel => exact ⟨k + 1, _, by omega, by go_num, rfl⟩
      case measure => simp [intOf]; omega
    · clear ha hd
      go_wp2
      go_ret
      exact ⟨rfl, below_drewN (Below.refl _ _) _⟩
theorem SameField_self (g : Fi) (A D : Option Addr) (n c d B BD : Nat) (w : World) (hg : GS w B g A n c) (hd : GS w BD g D n d) :
    Calls Try.prog 36 #[g.val A n c, g.val D n d] w fun e w' => e = .returned (.bool true) ∧ Below w.heap.size w w' := by
  have HT := Lib.hid (((Below.refl w.heap.size w).alloc (Nat.le_refl _) (.cells (g.cells A n c) 26)).alloc (by simp) (.cells (g.cells D n d) 26))
  have HS := Lib.hid fun W (hW : Below w.heap.size w W) => l00Same_self A D n c d B BD g.hs W (hg.below hW).rd (hd.below hW).rd hg.big
  clear hg hd
  obtain ⟨r, co, hs'⟩ := g
  simp only [Fi.val, Fi.cells] at *
  go_enter Try.func36, Try.ntmps36
  go_wp2_with fail
  refine (HS.out _ HT.out).mono ?_
  rintro e w1 ⟨rfl, B1⟩
  have HB := Lib.hid B1
  clear B1
  go_wp2
  go_ret
  exact ⟨rfl, HT.out.trans (HB.out.mono (by simp; omega))⟩
theorem gainV_code (g : Fi) (ds : List Int) (sh : Int) : (gainV g ds sh).2 = (driftV g ds sh).2 := by
  unfold gainV
  by_cases h : (driftV g ds sh).2 ≠ 0
  · rw [if_pos h]
  · rw [if_neg h]; simp only; omega
theorem gainV_zero {g : Fi} {ds : List Int} {sh : Int} (h : (driftV g ds sh).2 = 0) : gainV g ds sh = (subL (driftV g ds sh).1.hs g.hs, 0) := by
  unfold gainV; rw [if_neg (by simp [h])]
end Go.Proofs.Ytndnjabalofcnaa
