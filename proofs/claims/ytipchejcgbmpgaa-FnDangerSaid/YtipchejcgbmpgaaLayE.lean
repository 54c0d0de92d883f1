/- Slabs: codes, the weakest layer, when a slab is stable. -/
import Derived.Test.YtipchejcgbmpgaaLayD
namespace Go.Proofs.Ytipchejcgbmpgaa
open Go.ChangeShapes Go.WideShapes Go.ChangeAt Go.RowKit
set_option linter.unusedVariables false

def weakF (f : Nat → Int) (c : Int) : Nat → Int × Int
  | 0 => (-1, c)
  | k + 1 => if (weakF f c k).1 < 0 ∨ f k < (weakF f c k).2 then ((k : Int), f k) else weakF f c k
theorem weakF_succ (f : Nat → Int) (c : Int) (k : Nat) : weakF f c (k + 1) = if (weakF f c k).1 < 0 ∨ f k < (weakF f c k).2 then ((k : Int), f k) else weakF f c k := rfl
theorem weakF_t {f : Nat → Int} {c : Int} {k : Nat} (h : (weakF f c k).1 < 0 ∨ f k < (weakF f c k).2) : weakF f c (k + 1) = ((k : Int), f k) := by rw [weakF, if_pos h]
theorem weakF_f {f : Nat → Int} {c : Int} {k : Nat} (h : ¬ ((weakF f c k).1 < 0 ∨ f k < (weakF f c k).2)) : weakF f c (k + 1) = weakF f c k := by rw [weakF, if_neg h]
theorem weakF_bd (f : Nat → Int) (c : Int) : ∀ n : Nat, (n = 0 ∧ weakF f c n = (-1, c)) ∨ ∃ j : Nat, j < n ∧ weakF f c n = ((j : Int), f j)
  | 0 => .inl ⟨rfl, rfl⟩
  | n + 1 => by
    right
    by_cases h : (weakF f c n).1 < 0 ∨ f n < (weakF f c n).2
    · exact ⟨n, by omega, weakF_t h⟩
    · rw [weakF_f h]
      rcases weakF_bd f c n with ⟨rfl, h0⟩ | ⟨j, hj, h0⟩
      · rw [h0] at h; simp at h
      · exact ⟨j, by omega, h0⟩
theorem weakF_init (f : Nat → Int) (c c' : Int) : ∀ n : Nat, 0 < n → weakF f c n = weakF f c' n
  | 1, _ => by rw [weakF_t (.inl (by simp [weakF])), weakF_t (.inl (by simp [weakF]))]
  | n + 2, _ => by
    have ih := weakF_init f c c' (n + 1) (by omega)
    rw [weakF_succ f c (n + 1), weakF_succ f c' (n + 1), ih]
theorem weakF_least (f : Nat → Int) (c : Int) : ∀ n j : Nat, j < n → (weakF f c n).2 ≤ f j
  | n + 1, j, hj => by
    by_cases h : (weakF f c n).1 < 0 ∨ f n < (weakF f c n).2
    · rw [weakF_t h]
      by_cases hj' : j = n
      · subst hj'; exact Int.le_refl _
      · rcases weakF_bd f c n with ⟨rfl, h0⟩ | ⟨i, hi, h0⟩
        · omega
        · have := weakF_least f c n j (by omega)
          rw [h0] at h this
          simp at h this ⊢
          omega
    · rw [weakF_f h]
      by_cases hj' : j = n
      · subst hj'; omega
      · exact weakF_least f c n j (by omega)
/-- the weakest layer of a profile and its index -/
def weakV (ls : List Lay) (more rise run d : Int) : Int × Int := weakF (idxLo ls more rise run d) 1000000 ls.length
def stabV (ls : List Lay) (more rise run d limit : Int) : Bool := decide (limit ≤ (weakV ls more rise run d).2)
theorem stabV_spec {ls : List Lay} {more rise run d limit : Int} (h : limit ≤ 1000000) :
    decide ((weakF (idxLo ls more rise run d) 0 ls.length).1 < 0 ∨ limit ≤ (weakF (idxLo ls more rise run d) 0 ls.length).2) = stabV ls more rise run d limit := by
  unfold stabV weakV
  rw [decide_eq_decide]
  by_cases hn : ls.length = 0
  · rw [hn]; simp [weakF]; omega
  · rw [weakF_init _ 0 1000000 _ (by omega)]
    rcases weakF_bd (idxLo ls more rise run d) 1000000 ls.length with ⟨h0, _⟩ | ⟨j, _, h0⟩
    · omega
    · rw [h0]; simp; omega
def slopeB (rise run : Int) : Bool := inB rise 0 1000 && inB run 1 1000
def doubtB (d : Int) : Bool := inB d 0 1000
theorem args_of {more rise run d : Int} (m0 : 0 ≤ more) (m1 : more ≤ 1000000) (h1 : slopeB rise run = true) (h2 : doubtB d = true) : Args more rise run d := by
  simp only [slopeB, doubtB, inB, Bool.and_eq_true, decide_eq_true_eq] at h1 h2
  exact ⟨m0, m1, h1.1.1, h1.1.2, h1.2.1, h1.2.2, h2.1, h2.2⟩
def askV (ls : List Lay) (rise run d : Int) : Int := if proB ls = false then 1 else if (slopeB rise run && doubtB d) = false then 2 else 0
def codeV (ls : List Lay) (rise run d limit : Int) : Int := if proB ls = false then 1 else if (slopeB rise run && doubtB d && inB limit 0 1000000) = false then 2 else 0
theorem askV_zero {ls : List Lay} {rise run d : Int} (h : askV ls rise run d = 0) : proB ls = true ∧ slopeB rise run = true ∧ doubtB d = true := by
  unfold askV at h
  cases h1 : proB ls <;> cases h2 : slopeB rise run <;> cases h3 : doubtB d <;> simp [h1, h2, h3] at h ⊢
theorem codeV_zero {ls : List Lay} {rise run d limit : Int} (h : codeV ls rise run d limit = 0) : proB ls = true ∧ slopeB rise run = true ∧ doubtB d = true ∧ 0 ≤ limit ∧ limit ≤ 1000000 := by
  unfold codeV at h
  cases h1 : proB ls <;> cases h2 : slopeB rise run <;> cases h3 : doubtB d <;> cases h4 : inB limit 0 1000000 <;> simp [h1, h2, h3, h4] at h ⊢
  simpa [inB] using h4

theorem slopeOk_c (rise run : Int) (w : World) : Calls Try.prog 63 #[.int .i64 rise, .int .i64 run] w fun e w' => e = .returned (.bool (slopeB rise run)) ∧ w = w' := by
  go_enter Try.func63, Try.ntmps63
  go_wp2_with (go_at_call 65; refine (within_c _ _ _ _).mono ?_; rintro e w' ⟨rfl, rfl⟩)
  all_goals (go_ret; exact ⟨ret_bool (by simp_all [slopeB]), rfl⟩)
theorem doubtValid_c (d : Int) (w : World) : Calls Try.prog 64 #[.int .i64 d] w fun e w' => e = .returned (.bool (doubtB d)) ∧ w = w' := by
  go_enter Try.func64, Try.ntmps64
  go_wp2_with (go_at_call 65; refine (within_c _ _ _ _).mono ?_; rintro e w' ⟨rfl, rfl⟩)
  all_goals (go_ret; exact ⟨rfl, rfl⟩)
theorem l07Slope_c (rise run : Int) (w : World) : Calls Try.prog 53 #[.int .i64 rise, .int .i64 run] w fun e w' => e = .returned (.bool (slopeB rise run)) ∧ w = w' := by
  go_enter Try.func53, Try.ntmps53
  go_wp2_with (go_at_call 52; refine (l00In_c _ _ _ _).mono ?_; rintro e w' ⟨rfl, rfl⟩)
  all_goals (go_ret; exact ⟨ret_bool (by simp_all [slopeB]), rfl⟩)
theorem l07Doubt_c (d : Int) (w : World) : Calls Try.prog 54 #[.int .i64 d] w fun e w' => e = .returned (.bool (doubtB d)) ∧ w = w' := by
  go_enter Try.func54, Try.ntmps54
  go_wp2_with (go_at_call 52; refine (l00In_c _ _ _ _).mono ?_; rintro e w' ⟨rfl, rfl⟩)
  all_goals (go_ret; exact ⟨rfl, rfl⟩)
theorem l07Ask_c (A : Option Addr) (n c BA : Nat) (ls : List Lay) (rise run d : Int) (w : World) (ha : Reads w BA 7 A n (lays ls)) (hn : n ≤ 1152921504606846976) :
    Calls Try.prog 37 #[.slice A n c, .int .i64 rise, .int .i64 run, .int .i64 d] w fun e w' => e = .returned (.int .i64 (askV ls rise run d)) ∧ w = w' := by
  have HO := Lib.hid (l03Ok_c A n c BA ls w ha hn)
  clear ha
  cases h1 : proB ls
  · have H1 := Lib.hid h1; clear h1
    go_enter Try.func37, Try.ntmps37
    go_wp2_with fail
    refine HO.out.mono ?_
    rintro e w' ⟨rfl, rfl⟩
    rw [H1.out]
    go_wp2
    go_ret
    exact ⟨ret_int (by simp [askV, H1.out]), rfl⟩
  · have H1 := Lib.hid h1; clear h1
    cases h2 : slopeB rise run <;> cases h3 : doubtB d
    all_goals
      go_enter Try.func37, Try.ntmps37
      go_wp2_with fail
      refine HO.out.mono ?_
      rintro e w' ⟨rfl, rfl⟩
      rw [H1.out]
      go_wp2_with (first | (go_at_call 53; refine (l07Slope_c _ _ _).mono ?_; rintro e w' ⟨rfl, rfl⟩) | (go_at_call 54; refine (l07Doubt_c _ _).mono ?_; rintro e w' ⟨rfl, rfl⟩))
      go_ret
      exact ⟨ret_int (by simp [askV, H1.out, h2, h3]), rfl⟩
set_option maxHeartbeats 1000000 in
theorem code_c (A : Option Addr) (n c BA : Nat) (ls : List Lay) (rise run d more limit : Int) (w : World) (ha : Reads w BA 7 A n (lays ls)) (hB : BA ≤ w.heap.size) (hn : n ≤ 1152921504606846976) :
    Calls Try.prog 41 #[slabV A n c rise run d more, .int .i64 limit] w fun e w' => e = .returned (.int .i64 (codeV ls rise run d limit)) ∧ Below w.heap.size w w' := by
  have HO := Lib.hid fun W (hW : Below w.heap.size w W) => iValidProfile_c A n c BA ls W (ha.below (hW.mono hB)) (by have := hW.size; omega) hn
  clear ha
  simp only [slabV]
  cases h1 : proB ls
  · have H1 := Lib.hid h1; clear h1
    go_enter Try.func41, Try.ntmps41
    go_wp2_with fail
    refine (HO.out _ ((Below.refl _ _).alloc (Nat.le_refl _) _)).mono ?_
    rintro e w1 ⟨rfl, hb1⟩
    rw [H1.out]
    have HB := Lib.hid hb1; clear hb1
    go_wp2
    go_ret
    exact ⟨ret_int (by simp [codeV, H1.out]), ((Below.refl _ _).alloc (Nat.le_refl _) _).trans (HB.out.mono (by simp))⟩
  · have H1 := Lib.hid h1; clear h1
    cases h2 : slopeB rise run <;> cases h3 : doubtB d <;> cases h4 : inB limit 0 1000000
    all_goals
      go_enter Try.func41, Try.ntmps41
      go_wp2_with fail
      refine (HO.out _ ((Below.refl _ _).alloc (Nat.le_refl _) _)).mono ?_
      rintro e w1 ⟨rfl, hb1⟩
      rw [H1.out]
      have K1 := (Blk.new w 56 #[.slice A n c, .int .i64 rise, .int .i64 run, .int .i64 d, .int .i64 more]).below hb1 (by simp)
      have x1 : w1.cell? ⟨w.heap.size, 1, none⟩ = some (.int .i64 rise) := K1.cell 1
      have x2 : w1.cell? ⟨w.heap.size, 2, none⟩ = some (.int .i64 run) := K1.cell 2
      have x3 : w1.cell? ⟨w.heap.size, 3, none⟩ = some (.int .i64 d) := K1.cell 3
      have HB := Lib.hid hb1; clear hb1 K1
      go_wp2_with (first | (go_at_call 63; refine (slopeOk_c _ _ _).mono ?_; rintro e w' ⟨rfl, rfl⟩) | (go_at_call 64; refine (doubtValid_c _ _).mono ?_; rintro e w' ⟨rfl, rfl⟩) | (go_at_call 65; refine (within_c _ _ _ _).mono ?_; rintro e w' ⟨rfl, rfl⟩))
      go_ret
      exact ⟨ret_int (by simp [codeV, H1.out, h2, h3, h4]), ((Below.refl _ _).alloc (Nat.le_refl _) _).trans (HB.out.mono (by simp))⟩
set_option maxHeartbeats 2000000 in
theorem weakest_c (A : Option Addr) (n c BA : Nat) (ls : List Lay) (more rise run d : Int) (w : World) (ha : Reads w BA 7 A n (lays ls)) (hB : BA ≤ w.heap.size) (hnc : n ≤ c) (hp : proB ls = true) (g : Args more rise run d) :
    Calls Try.prog 45 #[slabV A n c rise run d more] w fun e w' => e = .returned (.tuple #[.int .i64 (weakV ls more rise run d).1, .int .i64 (weakV ls more rise run d).2]) ∧ Below w.heap.size w w' := by
  have hn16 : n ≤ 16 := by rw [← ha.layLen]; exact proB_len hp
  have HL := Lib.hid ha.layLen
  have HI := Lib.hid fun (W : World) (hW : Below w.heap.size w W) (k : Nat) (hk : k < n) => index_c A n c BA k ls more rise run d W (ha.below (hW.mono hB)) (by have := hW.size; omega) hnc hp hk g
  have HV := Lib.hid (show weakV ls more rise run d = weakF (idxLo ls more rise run d) 1000000 n from by rw [weakV, ha.layLen])
  clear ha hp g
  generalize idxLo ls more rise run d = f at *
  generalize idxHi ls more rise run d = f' at *
  simp only [slabV] at *
  go_enter Try.func45, Try.ntmps45
  go_wp2
  go_loopw [4, 5, 12] (fun a b i wr => ∃ k : Nat, k ≤ n ∧ i = .int .i64 k ∧ a = .int .i64 (weakF f 1000000 k).1 ∧ b = .int .i64 (weakF f 1000000 k).2 ∧ Hid (Blk wr w.heap.size 56 #[.slice A n c, .int .i64 rise, .int .i64 run, .int .i64 d, .int .i64 more]) ∧ Hid (Below w.heap.size w wr)) (fun _ _ i _ => n - (intOf i).toNat)
  case atStart => exact ⟨0, Nat.zero_le _, rfl, rfl, rfl, Lib.hid (Blk.new _ _ _), Lib.hid ((Below.refl _ _).alloc (Nat.le_refl _) _)⟩
  case round =>
    obtain ⟨k, hk, rfl, rfl, rfl, HK, HT⟩ := hrel
    by_cases hlt : k < n
    · have x0 : wr.cell? ⟨w.heap.size, 0, none⟩ = some (.slice A n c) := HK.out.cell 0
      have x1 : wr.cell? ⟨w.heap.size, 1, none⟩ = some (.int .i64 rise) := HK.out.cell 1
      have x2 : wr.cell? ⟨w.heap.size, 2, none⟩ = some (.int .i64 run) := HK.out.cell 2
      have x3 : wr.cell? ⟨w.heap.size, 3, none⟩ = some (.int .i64 d) := HK.out.cell 3
      have x4 : wr.cell? ⟨w.heap.size, 4, none⟩ = some (.int .i64 more) := HK.out.cell 4
      have HKL := Lib.hid HK.out.lt
      go_wp2_with fail
      refine (HI.out wr HT.out k hlt).mono ?_
      rintro e w1 ⟨rfl, hb1⟩
      have HK1 := Lib.hid (HK.out.below hb1 HKL.out)
      have HT1 := Lib.hid (HT.out.trans (hb1.mono HT.out.size))
      clear hb1 x0 x1 x2 x3 x4
      obtain ⟨p, q, hpq⟩ : ∃ p q, weakF f 1000000 k = (p, q) := ⟨_, _, rfl⟩
      have HPQ := Lib.hid hpq
      rw [hpq]
      clear hpq
      go_wp2
      all_goals
        go_roundw
        case rel =>
          first
            | exact ⟨k + 1, by omega, by go_num, by rw [weakF_t (by rw [HPQ.out]; simp; omega)], by rw [weakF_t (by rw [HPQ.out]; simp; omega)], HK1, HT1⟩
            | exact ⟨k + 1, by omega, by go_num, by rw [weakF_f (by rw [HPQ.out]; simp; omega), HPQ.out], by rw [weakF_f (by rw [HPQ.out]; simp; omega), HPQ.out], HK1, HT1⟩
        case measure => simp [intOf]; omega
    · obtain rfl : k = n := by omega
      go_wp2
      go_ret2
      exact ⟨ret2 (by rw [HV.out]) (by rw [HV.out]), HT.out⟩
theorem stable_c (A : Option Addr) (n c BA : Nat) (ls : List Lay) (more rise run d limit : Int) (w : World) (ha : Reads w BA 7 A n (lays ls)) (hB : BA ≤ w.heap.size) (hnc : n ≤ c) (hp : proB ls = true) (g : Args more rise run d) :
    Calls Try.prog 42 #[slabV A n c rise run d more, .int .i64 limit] w fun e w' => e = .returned (.bool (stabV ls more rise run d limit)) ∧ Below w.heap.size w w' := by
  have HI := Lib.hid fun (W : World) (hW : Below w.heap.size w W) => weakest_c A n c BA ls more rise run d W (ha.below (hW.mono hB)) (by have := hW.size; omega) hnc hp g
  clear ha hp g
  simp only [slabV] at *
  go_enter Try.func42, Try.ntmps42
  go_wp2_with fail
  refine (HI.out _ ((Below.refl _ _).alloc (Nat.le_refl _) _)).mono ?_
  rintro e w1 ⟨rfl, hb1⟩
  have HB := Lib.hid hb1; clear hb1
  go_wp2
  all_goals go_ret
  all_goals exact ⟨ret_bool (by simp [stabV]), ((Below.refl _ _).alloc (Nat.le_refl _) _).trans (HB.out.mono (by simp))⟩
set_option maxHeartbeats 2000000 in
theorem l07Weakest_c (A : Option Addr) (n c BA : Nat) (ls : List Lay) (more rise run d : Int) (w : World) (ha : Reads w BA 7 A n (lays ls)) (hB : BA ≤ w.heap.size) (hnc : n ≤ c) (hp : proB ls = true) (g : Args more rise run d) :
    Calls Try.prog 44 #[.slice A n c, .int .i64 more, .int .i64 rise, .int .i64 run, .int .i64 d] w fun e w' => e = .returned (.tuple #[.int .i64 (weakF (idxLo ls more rise run d) 0 n).1, .int .i64 (weakF (idxLo ls more rise run d) 0 n).2]) ∧ Below w.heap.size w w' := by
  have hn16 : n ≤ 16 := by rw [← ha.layLen]; exact proB_len hp
  have HI := Lib.hid fun (W : World) (hW : Below w.heap.size w W) (k : Nat) (hk : k < n) => l07Index_c A n c BA k ls more rise run d W (ha.below (hW.mono hB)) (by have := hW.size; omega) hnc hp hk g
  clear ha hp g
  generalize idxLo ls more rise run d = f at *
  generalize idxHi ls more rise run d = f' at *
  go_enter Try.func44, Try.ntmps44
  go_wp2
  go_loopw [12, 13, 14] (fun a b i wr => ∃ k : Nat, k ≤ n ∧ i = .int .i64 k ∧ a = .int .i64 (weakF f 0 k).1 ∧ b = .int .i64 (weakF f 0 k).2 ∧ Hid (Below w.heap.size w wr)) (fun _ _ i _ => n - (intOf i).toNat)
  case atStart => exact ⟨0, Nat.zero_le _, rfl, rfl, rfl, Lib.hid (Below.refl _ _)⟩
  case round =>
    obtain ⟨k, hk, rfl, rfl, rfl, HT⟩ := hrel
    by_cases hlt : k < n
    · go_wp2_with fail
      refine (HI.out wr HT.out k hlt).mono ?_
      rintro e w1 ⟨rfl, hb1⟩
      have HT1 := Lib.hid (HT.out.trans (hb1.mono HT.out.size))
      clear hb1
      obtain ⟨p, q, hpq⟩ : ∃ p q, weakF f 0 k = (p, q) := ⟨_, _, rfl⟩
      have HPQ := Lib.hid hpq
      rw [hpq]
      clear hpq
      go_wp2
      all_goals
        go_roundw
        case rel =>
          first
            | exact ⟨k + 1, by omega, by go_num, by rw [weakF_t (by rw [HPQ.out]; simp; omega)], by rw [weakF_t (by rw [HPQ.out]; simp; omega)], HT1⟩
            | exact ⟨k + 1, by omega, by go_num, by rw [weakF_f (by rw [HPQ.out]; simp; omega), HPQ.out], by rw [weakF_f (by rw [HPQ.out]; simp; omega), HPQ.out], HT1⟩
        case measure => simp [intOf]; omega
    · obtain rfl : k = n := by omega
      go_wp2
      go_ret2
      exact ⟨rfl, HT.out⟩
theorem l07Stable_c (A : Option Addr) (n c BA : Nat) (ls : List Lay) (more rise run d limit : Int) (w : World) (ha : Reads w BA 7 A n (lays ls)) (hB : BA ≤ w.heap.size) (hnc : n ≤ c) (hp : proB ls = true) (g : Args more rise run d) (hlim : limit ≤ 1000000) :
    Calls Try.prog 39 #[.slice A n c, .int .i64 more, .int .i64 rise, .int .i64 run, .int .i64 d, .int .i64 limit] w fun e w' => e = .returned (.bool (stabV ls more rise run d limit)) ∧ Below w.heap.size w w' := by
  have HI := Lib.hid (l07Weakest_c A n c BA ls more rise run d w ha hB hnc hp g)
  have HS := Lib.hid (stabV_spec (ls := ls) (more := more) (rise := rise) (run := run) (d := d) hlim)
  rw [ha.layLen] at HS
  clear ha hp g
  go_enter Try.func39, Try.ntmps39
  go_wp2_with fail
  refine HI.out.mono ?_
  rintro e w1 ⟨rfl, hb1⟩
  have HB := Lib.hid hb1; clear hb1 HI
  generalize weakF (idxLo ls more rise run d) 0 n = p at *
  go_wp2
  all_goals go_ret
  all_goals (refine ⟨ret_bool ?_, HB.out⟩; rw [← HS.out]; first | (simp; done) | (simp; omega))
end Go.Proofs.Ytipchejcgbmpgaa
