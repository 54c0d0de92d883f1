/- WorstLevel and LongestHigh: both functions compute the same; the exact laws. -/
import Derived.Test.YtbienjiinokhoaaLev2
import Derived.Test.YtbienjiinokhoaaOpen
namespace Go.Proofs.Ytbienjiinokhoaa
open Go.ChangeShapes Go.WideShapes Go.ChangeAt Go.RowKit
set_option linter.unusedVariables false

/-! ### the worst level -/
def maxL : List Int → Int
  | [] => 0
  | z :: r => r.foldl max z
theorem maxL_snoc (l : List Int) (z : Int) (h : l ≠ []) : maxL (l ++ [z]) = max (maxL l) z := by
  cases l with
  | nil => exact absurd rfl h
  | cons a r => simp [maxL, List.foldl_append]
def worstAt (zs : List Int) : Int := idxOf (fun z => maxL zs == z) zs
theorem idxOf_snoc_ne {p : Int → Bool} {l : List Int} {z : Int} (h : l.any p = true) : idxOf p (l ++ [z]) = idxOf p l := by
  unfold idxOf
  suffices ∀ k, l.any p = true → idxFrom p k (l ++ [z]) = idxFrom p k l from this 0 h
  clear h
  induction l with
  | nil => intro k h; simp at h
  | cons a r ih =>
    intro k h
    simp only [List.cons_append, idxFrom]
    cases hp : p a
    · simp only [hp, List.any_cons, Bool.false_or] at h
      simp [ih _ h]
    · simp
theorem maxL_ge (l : List Int) : ∀ z ∈ l, z ≤ maxL l := by
  suffices ∀ (r : List Int) (a : Int), a ≤ r.foldl max a ∧ ∀ z ∈ r, z ≤ r.foldl max a by
    cases l with
    | nil => simp
    | cons a r =>
      intro z hz
      rcases List.mem_cons.1 hz with rfl | h
      · exact (this r z).1
      · exact (this r a).2 z h
  intro r
  induction r with
  | nil => intro a; simp
  | cons b r ih =>
    intro a
    obtain ⟨h1, h2⟩ := ih (max a b)
    simp only [List.foldl_cons]
    refine ⟨by omega, fun z hz => ?_⟩
    rcases List.mem_cons.1 hz with rfl | h
    · omega
    · exact h2 z h
/-- b is the place of the greatest of some numbers, the first one -/
def BestAt (l : List Int) (b : Nat) : Prop := l[b]? = some (maxL l) ∧ worstAt l = b
theorem BestAt.one (z : Int) : BestAt [z] 0 := by simp [BestAt, maxL, worstAt, idxOf, idxFrom]
theorem BestAt.any {l : List Int} {b : Nat} (h : BestAt l b) : l.any (fun z => maxL l == z) = true :=
  List.any_eq_true.2 ⟨maxL l, List.mem_of_getElem? h.1, by simp⟩
theorem BestAt.keep {l : List Int} {b : Nat} {z : Int} (h : BestAt l b) (hz : z ≤ maxL l) : BestAt (l ++ [z]) b := by
  have hb := (List.getElem?_eq_some_iff.1 h.1).1
  have hm : maxL (l ++ [z]) = maxL l := by rw [maxL_snoc _ _ (by rintro rfl; simp at hb)]; omega
  refine ⟨by rw [hm, List.getElem?_append_left hb, h.1], ?_⟩
  unfold worstAt
  rw [hm, idxOf_snoc_ne h.any]
  exact h.2
theorem BestAt.next {l : List Int} {b : Nat} {z : Int} (h : BestAt l b) (hz : maxL l < z) : BestAt (l ++ [z]) l.length := by
  have hb := (List.getElem?_eq_some_iff.1 h.1).1
  have hm : maxL (l ++ [z]) = z := by rw [maxL_snoc _ _ (by rintro rfl; simp at hb)]; omega
  refine ⟨by rw [hm]; simp, ?_⟩
  unfold worstAt
  rw [hm]
  exact idxFrom_at _ l [] z (List.all_eq_true.2 fun y hy => by have := maxL_ge l y hy; simp; omega) (by simp)

def worstV (zs : List Int) : Int × Int × Int :=
  if levelsCodeV zs = 0 then (if zs = [] then (0, 0, 3) else (maxL zs, worstAt zs, 0)) else (0, 0, levelsCodeV zs)
def WorstPost (zs : List Int) (w : World) (e : Ending) (w' : World) : Prop :=
  e = .returned (.tuple #[.int .i64 (worstV zs).1, .int .i64 (worstV zs).2.1, .int .i64 (worstV zs).2.2]) ∧ Below w.heap.size w w'
theorem WorstPost.bad {zs : List Int} {w w' : World} (hz : levelsCodeV zs ≠ 0) (hb : Below w.heap.size w w') : WorstPost zs w (.returned (.tuple #[.int .i64 0, .int .i64 0, .int .i64 (levelsCodeV zs)])) w' :=
  ⟨by simp [worstV, hz], hb⟩
theorem WorstPost.none_ {zs : List Int} {w w' : World} (hz : levelsCodeV zs = 0) (h0 : zs = []) (hb : Below w.heap.size w w') : WorstPost zs w (.returned (.tuple #[.int .i64 0, .int .i64 0, .int .i64 3])) w' :=
  ⟨by unfold worstV; rw [if_pos hz, if_pos h0], hb⟩
theorem WorstPost.good {zs : List Int} {w w' : World} {m b : Int} (hz : levelsCodeV zs = 0) (h0 : zs ≠ []) (hm : m = maxL zs) (hb' : b = worstAt zs) (hb : Below w.heap.size w w') : WorstPost zs w (.returned (.tuple #[.int .i64 m, .int .i64 b, .int .i64 0])) w' :=
  ⟨by simp [worstV, hz, h0, hm, hb'], hb⟩

set_option maxHeartbeats 1000000 in
theorem sWorstLevel_c (A : Option Addr) (n c BA : Nat) (zs : List Int) (w : World) (ha : Reads w BA 1 A n (ints zs)) (hB : BA ≤ w.heap.size) (hn : n ≤ 1152921504606846976) :
    Calls Try.prog 14 #[.slice A n c] w (WorstPost zs w) := by
  have hc := l17Levels_c A n c BA zs w ha hn
  by_cases hz : levelsCodeV zs = 0
  · have HL := Lib.hid ha.len
    have HZ := Lib.hid hz
    rw [hz] at hc
    clear hz
    by_cases hn0 : n = 0
    · subst hn0
      have H0 : Hid (zs = []) := Lib.hid (List.eq_nil_of_length_eq_zero HL.out)
      clear ha
      go_enter Try.func14, Try.ntmps14
      go_wp2_with fail
      refine hc.mono ?_
      rintro e w1 ⟨rfl, hb1⟩
      clear hc
      go_wp2
      go_ret3
      exact WorstPost.none_ HZ.out H0.out hb1
    · have H0 : Hid (zs ≠ []) := Lib.hid (by rintro rfl; have := HL.out; simp at this; omega)
      have hne : ((n : Int) == 0) = false := by simp; omega
      go_enter Try.func14, Try.ntmps14
      go_wp2_with fail
      refine hc.mono ?_
      rintro e w1 ⟨rfl, hb1⟩
      clear hc
      have HB1 := Lib.hid hb1
      have ha1 := ha.below (hb1.mono hB)
      clear ha hb1
      go_wp2
      clear hne
      go_loopw [6, 7] (fun b i wr => ∃ (k j q : Nat), k ≤ n ∧ 1 ≤ k ∧ j < k ∧ i = .int .i64 k ∧ b = .int .i64 j ∧ Hid (BestAt (zs.take k) j) ∧ wr = w1.drewN q) (fun _ i _ => n - (intOf i).toNat)
      case atStart => exact ⟨1, 0, 0, by omega, by omega, by omega, rfl, rfl, Lib.hid (by
        obtain ⟨ad, z, _, _, hz0, _⟩ := ha1.int (k := 0) (by omega)
        rw [take_snoc' hz0]; exact BestAt.one z), rfl⟩
      case round =>
        obtain ⟨k, j, q, hk, hk1, hj, rfl, rfl, HB, rfl⟩ := hrel
        by_cases hlt : k < n
        · obtain ⟨ad, z, rfl, hbl, hzk, hck⟩ := ha1.int hlt
          obtain ⟨ad', y, had, _, hzj, hcj⟩ := ha1.int (k := j) (by omega)
          obtain rfl : ad = ad' := by injection had
          have hy : y = maxL (zs.take k) := by
            have := HB.out.1
            rw [List.getElem?_take, if_pos hj, hzj] at this
            injection this
          have HY := Lib.hid hy
          have HZK := Lib.hid hzk
          clear ha1 hzk hzj hy had
          by_cases hgt : y < z
          · go_wp2
            go_quiet (fail)
            go_wp2
            go_roundw
            case rel => exact ⟨k + 1, k, _, by omega, by omega, by omega, by go_num, rfl, Lib.hid (by
              have h := HB.out.next (z := z) (by have := HY.out; omega)
              rw [take_snoc' HZK.out]
              rwa [List.length_take, HL.out, Nat.min_eq_left (by omega)] at h), rfl⟩
            case measure => simp [intOf]; omega
          · go_wp2
            go_quiet (fail)
            go_wp2
            go_roundw
            case rel => exact ⟨k + 1, j, _, by omega, by omega, by omega, by go_num, rfl, Lib.hid (by
              rw [take_snoc' HZK.out]
              exact HB.out.keep (by have := HY.out; omega)), rfl⟩
            case measure => simp [intOf]; omega
        · obtain rfl : k = n := by omega
          obtain ⟨ad', y, rfl, _, hzj, hcj⟩ := ha1.int (k := j) (by omega)
          have HT : Hid (zs.take k = zs) := Lib.hid (List.take_of_length_le (by have := HL.out; omega))
          have HZJ := Lib.hid hzj
          clear ha1 hzj
          go_wp2
          go_ret3
          have h := HB.out
          rw [HT.out] at h
          exact WorstPost.good HZ.out H0.out (by have := h.1; rw [HZJ.out] at this; injection this) h.2.symm (below_drewN HB1.out _)
  · obtain ⟨m, hm⟩ : ∃ m, m = levelsCodeV zs := ⟨_, rfl⟩
    have hne : (m != 0) = true := by rw [hm]; simpa using hz
    have HM := Lib.hid hm
    have HN := Lib.hid hz
    rw [← hm] at hc
    clear hm hz ha
    go_enter Try.func14, Try.ntmps14
    go_wp2_with fail
    refine hc.mono ?_
    rintro e w1 ⟨rfl, hb1⟩
    clear hc
    go_wp2
    go_ret3
    have hm := HM.out
    subst hm
    exact WorstPost.bad HN.out hb1

set_option maxHeartbeats 400000 in
theorem maxI_c (A : Option Addr) (n c BA : Nat) (zs : List Int) (w : World) (ha : Reads w BA 1 A n (ints zs)) (hn : n ≤ 1152921504606846976) (h0 : 0 < n) :
    Calls Try.prog 32 #[.slice A n c] w fun e w' => e = .returned (.int .i64 (maxL zs)) ∧ w = w' := by
  have HL := Lib.hid ha.len
  obtain ⟨ad, z0, rfl, _, hz0, hc0⟩ := ha.int h0
  have HZ0 := Lib.hid hz0; clear hz0
  have h1 : (1 : Int) ≤ (n : Int) := by omega
  have hc0' : w.cell? ad = some (.int .i64 z0) := by simpa [Addr.add] using hc0
  go_enter Try.func32, Try.ntmps32
  go_wp2
  go_loop [3, 4] (fun m i => ∃ (k : Nat), k ≤ n ∧ 1 ≤ k ∧ i = .int .i64 k ∧ m = .int .i64 (maxL (zs.take k))) (fun _ i => n - (intOf i).toNat)
  case atStart => exact ⟨1, by omega, by omega, rfl, by rw [take_snoc' HZ0.out]; rfl⟩
  case round =>
    obtain ⟨k, hk, hk1, rfl, rfl⟩ := hrel
    by_cases hlt : k < n
    · obtain ⟨ad', z, had, hbl, hzk, hck⟩ := ha.int hlt
      obtain rfl : ad = ad' := by injection had
      have HZK := Lib.hid hzk
      clear ha hzk had
      go_wp2
      go_round
      case rel =>
        refine ⟨k + 1, by omega, by omega, by go_num, ?_⟩
        rw [take_snoc' HZK.out, maxL_snoc _ _ (by intro h; have := congrArg List.length h; rw [List.length_take, List.length_nil] at this; have := HL.out; omega)]
        congr 1
        split <;> omega
      case measure => simp [intOf]; omega
    · obtain rfl : k = n := by omega
      clear ha
      go_wp2
      go_ret
      exact ⟨ret_int (by rw [List.take_of_length_le (by have := HL.out; omega)]), rfl⟩

set_option maxHeartbeats 400000 in
theorem indexI_c (A : Option Addr) (n c BA : Nat) (zs : List Int) (x : Int) (w : World) (ha : Reads w BA 1 A n (ints zs)) (hn : n ≤ 1152921504606846976) :
    Calls Try.prog 33 #[.slice A n c, .int .i64 x] w fun e w' => e = .returned (.int .i64 (idxOf (fun z => x == z) zs)) ∧ w = w' := by
  have HL := Lib.hid ha.len
  go_enter Try.func33, Try.ntmps33
  go_wp2
  go_loop [8] (fun i => ∃ (k : Nat), k ≤ n ∧ i = .int .i64 k ∧ Hid ((zs.take k).all (fun z => !(x == z)) = true)) (fun i => n - (intOf i).toNat)
  case atStart => exact ⟨0, by omega, rfl, Lib.hid (by simp)⟩
  case round =>
    obtain ⟨k, hk, rfl, HA⟩ := hrel
    by_cases hlt : k < n
    · obtain ⟨ad, z, rfl, hbl, hzk, hck⟩ := ha.int hlt
      have HZK := Lib.hid hzk
      clear ha hzk
      by_cases hx : x = z
      · have hxz : (x == z) = true := by simp [hx]
        have HX := Lib.hid hxz
        clear hx
        go_wp2
        go_ret
        refine ⟨ret_int ?_, rfl⟩
        rw [drop_cons_get HZK.out, idxFrom_at _ _ _ z HA.out HX.out]
        simp; have := HL.out; omega
      · have hxz : (x == z) = false := by simp [hx]
        have HX := Lib.hid hxz
        clear hx
        go_wp2
        go_round
        case rel => exact ⟨k + 1, by omega, by go_num, Lib.hid (all_take_snoc HZK.out HA.out (by rw [HX.out]; rfl))⟩
        case measure => simp [intOf]; omega
    · obtain rfl : k = n := by omega
      clear ha
      go_wp2
      go_ret
      refine ⟨ret_int ?_, rfl⟩
      have h := HA.out
      rw [List.take_of_length_le (by have := HL.out; omega)] at h
      exact (idxFrom_none _ 0 zs h).symm

set_option maxHeartbeats 1000000 in
theorem iWorstLevel_c (A : Option Addr) (n c BA : Nat) (zs : List Int) (w : World) (ha : Reads w BA 1 A n (ints zs)) (hB : BA ≤ w.heap.size) (hn : n ≤ 1152921504606846976) :
    Calls Try.prog 15 #[.slice A n c] w (WorstPost zs w) := by
  have hc := levelsCode_c A n c BA zs w ha hB hn
  by_cases hz : levelsCodeV zs = 0
  · have HL := Lib.hid ha.len
    have HZ := Lib.hid hz
    rw [hz] at hc
    clear hz
    by_cases hn0 : n = 0
    · subst hn0
      have H0 : Hid (zs = []) := Lib.hid (List.eq_nil_of_length_eq_zero HL.out)
      clear ha
      go_enter Try.func15, Try.ntmps15
      go_wp2_with fail
      refine hc.mono ?_
      rintro e w1 ⟨rfl, hb1⟩
      clear hc
      go_wp2
      go_ret3
      exact WorstPost.none_ HZ.out H0.out hb1
    · have H0 : Hid (zs ≠ []) := Lib.hid (by rintro rfl; have := HL.out; simp at this; omega)
      have hne : ((n : Int) == 0) = false := by simp; omega
      go_enter Try.func15, Try.ntmps15
      go_wp2_with fail
      refine hc.mono ?_
      rintro e w1 ⟨rfl, hb1⟩
      clear hc
      have HB1 := Lib.hid hb1
      have ha1 := ha.below (hb1.mono hB)
      clear ha hb1
      go_wp2_with fail
      refine (maxI_c A n c BA zs w1 ha1 hn (by omega)).mono ?_
      rintro e w2 ⟨rfl, rfl⟩
      go_wp2_with fail
      refine (indexI_c A n c BA zs (maxL zs) w1 ha1 hn).mono ?_
      rintro e w2 ⟨rfl, rfl⟩
      go_wp2
      go_ret3
      exact WorstPost.good HZ.out H0.out rfl rfl HB1.out
  · obtain ⟨m, hm⟩ : ∃ m, m = levelsCodeV zs := ⟨_, rfl⟩
    have hne : (m != 0) = true := by rw [hm]; simpa using hz
    have HM := Lib.hid hm
    have HN := Lib.hid hz
    rw [← hm] at hc
    clear hm hz ha
    go_enter Try.func15, Try.ntmps15
    go_wp2_with fail
    refine hc.mono ?_
    rintro e w1 ⟨rfl, hb1⟩
    clear hc
    go_wp2
    go_ret3
    have hm := HM.out
    subst hm
    exact WorstPost.bad HN.out hb1

/-! ### the longest series -/
/-- round, start of the longest series, its length, length of the series now -/
structure LH where
  i : Int
  best : Int
  most : Int
  now : Int
def lhStep (level : Int) (s : LH) (z : Int) : LH :=
  if z < level then ⟨s.i + 1, s.best, s.most, 0⟩ else if s.most < s.now + 1 then ⟨s.i + 1, s.i + 1 - (s.now + 1), s.now + 1, s.now + 1⟩ else ⟨s.i + 1, s.best, s.most, s.now + 1⟩
def lhFold (level : Int) (zs : List Int) : LH := zs.foldl (lhStep level) ⟨0, 0, 0, 0⟩
theorem lhFold_snoc (level : Int) (l : List Int) (z : Int) : lhFold level (l ++ [z]) = lhStep level (lhFold level l) z := by simp [lhFold, List.foldl_append]
def longV (level : Int) (zs : List Int) : Int × Int × Int :=
  if inB level 1 5 then (if levelsCodeV zs = 0 then (if (lhFold level zs).most = 0 then (0, 0, 3) else ((lhFold level zs).best, (lhFold level zs).most, 0)) else (0, 0, levelsCodeV zs)) else (0, 0, 2)
def LongPost (level : Int) (zs : List Int) (w : World) (e : Ending) (w' : World) : Prop :=
  e = .returned (.tuple #[.int .i64 (longV level zs).1, .int .i64 (longV level zs).2.1, .int .i64 (longV level zs).2.2]) ∧ Below w.heap.size w w'
theorem LongPost.lev {level : Int} {zs : List Int} {w w' : World} (hl : inB level 1 5 = false) (hb : Below w.heap.size w w') : LongPost level zs w (.returned (.tuple #[.int .i64 0, .int .i64 0, .int .i64 2])) w' :=
  ⟨by simp [longV, hl], hb⟩
theorem LongPost.bad {level : Int} {zs : List Int} {w w' : World} (hl : inB level 1 5 = true) (hz : levelsCodeV zs ≠ 0) (hb : Below w.heap.size w w') : LongPost level zs w (.returned (.tuple #[.int .i64 0, .int .i64 0, .int .i64 (levelsCodeV zs)])) w' :=
  ⟨by simp [longV, hl, hz], hb⟩
theorem LongPost.good {level : Int} {zs : List Int} {w w' : World} {b m i nw : Int} (hl : inB level 1 5 = true) (hz : levelsCodeV zs = 0) (h : lhFold level zs = ⟨i, b, m, nw⟩) (h0 : m ≠ 0) (hb : Below w.heap.size w w') : LongPost level zs w (.returned (.tuple #[.int .i64 b, .int .i64 m, .int .i64 0])) w' :=
  ⟨by simp [longV, hl, hz, h, h0], hb⟩
theorem LongPost.none_ {level : Int} {zs : List Int} {w w' : World} {b m i nw : Int} (hl : inB level 1 5 = true) (hz : levelsCodeV zs = 0) (h : lhFold level zs = ⟨i, b, m, nw⟩) (h0 : m = 0) (hb : Below w.heap.size w w') : LongPost level zs w (.returned (.tuple #[.int .i64 0, .int .i64 0, .int .i64 3])) w' :=
  ⟨by simp [longV, hl, hz, h, h0], hb⟩

theorem levelsCode_cases (zs : List Int) : levelsCodeV zs = 0 ∨ levelsCodeV zs = 2 ∨ levelsCodeV zs = 7 := by
  unfold levelsCodeV
  split
  · split <;> simp
  · simp

set_option maxHeartbeats 2000000 in
theorem sLongestHigh_c (A : Option Addr) (n c BA : Nat) (zs : List Int) (level : Int) (w : World) (ha : Reads w BA 1 A n (ints zs)) (hB : BA ≤ w.heap.size) (hn : n ≤ 1152921504606846976) :
    Calls Try.prog 16 #[.slice A n c, .int .i64 level] w (LongPost level zs w) := by
  have hc := l17Levels_c A n c BA zs w ha hn
  rcases levelsCode_cases zs with hz | hz | hz
  all_goals rw [hz] at hc
  all_goals have HZ := Lib.hid hz; clear hz
  all_goals cases hl : inB level 1 5
  · clear ha
    go_enter Try.func16, Try.ntmps16
    go_wp2_with (first | (go_at_call 34; refine (l17Is_c _ _).mono ?_; rintro e w' ⟨rfl, rfl⟩) | (refine hc.mono ?_; rintro e w1 ⟨rfl, hb1⟩; clear hc))
    go_ret3
    exact LongPost.lev hl (by assumption)
  · have HL := Lib.hid ha.len
    go_enter Try.func16, Try.ntmps16
    go_wp2_with fail
    refine hc.mono ?_
    rintro e w1 ⟨rfl, hb1⟩
    clear hc
    have HB1 := Lib.hid hb1
    have ha1 := ha.below (hb1.mono hB)
    clear ha hb1
    go_wp2_with (go_at_call 34; refine (l17Is_c _ _).mono ?_; rintro e w' ⟨rfl, rfl⟩)
    have HLV := Lib.hid hl
    clear hl
    go_loopw [8, 9, 10, 11] (fun b m nw i wr => ∃ (k : Nat) (bz mz nz : Int), k ≤ n ∧ i = .int .i64 k ∧ b = .int .i64 bz ∧ m = .int .i64 mz ∧ nw = .int .i64 nz ∧ 0 ≤ bz ∧ bz ≤ k ∧ 0 ≤ mz ∧ mz ≤ k ∧ 0 ≤ nz ∧ nz ≤ k ∧ Hid (lhFold level (zs.take k) = ⟨k, bz, mz, nz⟩) ∧ wr = w1) (fun _ _ _ i _ => n - (intOf i).toNat)
    case atStart => exact ⟨0, 0, 0, 0, by omega, rfl, rfl, rfl, rfl, by omega, by omega, by omega, by omega, by omega, by omega, Lib.hid rfl, rfl⟩
    case round =>
      obtain ⟨k, bz, mz, nz, hk, rfl, rfl, rfl, rfl, hb0, hbk, hm0, hmk, hn0, hnk, HF, rfl⟩ := hrel
      by_cases hlt : k < n
      · obtain ⟨ad, z, rfl, hbl, hzk, hck⟩ := ha1.int hlt
        have HZK := Lib.hid hzk
        clear ha1 hzk
        by_cases h1 : z < level
        · go_wp2
          go_roundw
          case rel => exact ⟨k + 1, bz, mz, 0, by omega, by go_num, rfl, rfl, rfl, by omega, by omega, by omega, by omega, by omega, by omega, Lib.hid (by rw [take_snoc' HZK.out, lhFold_snoc, HF.out, lhStep, if_pos h1]; rfl), trivial⟩
          case measure => simp [intOf]; omega
        · by_cases h2 : mz < nz + 1
          · go_wp2
            go_roundw
            case rel => exact ⟨k + 1, k + 1 - (nz + 1), nz + 1, nz + 1, by omega, by go_num, by go_num, rfl, rfl, by omega, by omega, by omega, by omega, by omega, by omega, Lib.hid (by rw [take_snoc' HZK.out, lhFold_snoc, HF.out, lhStep, if_neg h1, if_pos h2]; rfl), trivial⟩
            case measure => simp [intOf]; omega
          · go_wp2
            go_roundw
            case rel => exact ⟨k + 1, bz, mz, nz + 1, by omega, by go_num, rfl, rfl, rfl, by omega, by omega, by omega, by omega, by omega, by omega, Lib.hid (by rw [take_snoc' HZK.out, lhFold_snoc, HF.out, lhStep, if_neg h1, if_neg h2]; rfl), trivial⟩
            case measure => simp [intOf]; omega
      · obtain rfl : k = n := by omega
        have HF' : Hid (lhFold level zs = ⟨k, bz, mz, nz⟩) := Lib.hid (by have := HF.out; rwa [List.take_of_length_le (by have := HL.out; omega)] at this)
        clear ha1
        by_cases h0 : mz = 0
        · have h00 : (mz == 0) = true := by simp [h0]
          have H0 := Lib.hid h0; clear h0
          go_wp2
          go_ret3
          exact LongPost.none_ HLV.out HZ.out HF'.out H0.out HB1.out
        · have h00 : (mz == 0) = false := by simp [h0]
          have H0 := Lib.hid h0; clear h0
          go_wp2
          go_ret3
          exact LongPost.good HLV.out HZ.out HF'.out H0.out HB1.out
  all_goals
    clear ha
    go_enter Try.func16, Try.ntmps16
    go_wp2_with (first | (go_at_call 34; refine (l17Is_c _ _).mono ?_; rintro e w' ⟨rfl, rfl⟩) | (refine hc.mono ?_; rintro e w1 ⟨rfl, hb1⟩; clear hc))
    go_ret3
    first
      | exact LongPost.lev hl (by assumption)
      | (have hz := HZ.out; rw [← hz]; exact LongPost.bad hl (by rw [hz]; omega) (by assumption))
      | (have hz := HZ.out; have h := LongPost.bad (level := level) (zs := zs) hl (by rw [hz]; omega) (by assumption); rwa [hz] at h)

set_option maxHeartbeats 2000000 in
theorem iLongestHigh_c (A : Option Addr) (n c BA : Nat) (zs : List Int) (level : Int) (w : World) (ha : Reads w BA 1 A n (ints zs)) (hB : BA ≤ w.heap.size) (hn : n ≤ 1152921504606846976) :
    Calls Try.prog 17 #[.slice A n c, .int .i64 level] w (LongPost level zs w) := by
  have hc := levelsCode_c A n c BA zs w ha hB hn
  rcases levelsCode_cases zs with hz | hz | hz
  all_goals rw [hz] at hc
  all_goals have HZ := Lib.hid hz; clear hz
  all_goals cases hl : inB level 1 5
  · clear ha
    go_enter Try.func17, Try.ntmps17
    go_wp2_with (first | (go_at_call 35; refine (levelOk_c _ _).mono ?_; rintro e w' ⟨rfl, rfl⟩) | (refine hc.mono ?_; rintro e w1 ⟨rfl, hb1⟩; clear hc))
    go_ret3
    exact LongPost.lev hl (by assumption)
  · have HL := Lib.hid ha.len
    go_enter Try.func17, Try.ntmps17
    go_wp2_with fail
    refine hc.mono ?_
    rintro e w1 ⟨rfl, hb1⟩
    clear hc
    have HB1 := Lib.hid hb1
    have ha1 := ha.below (hb1.mono hB)
    clear ha hb1
    go_wp2_with (go_at_call 35; refine (levelOk_c _ _).mono ?_; rintro e w' ⟨rfl, rfl⟩)
    have HLV := Lib.hid hl
    clear hl
    go_loopw [8, 9, 10, 25] (fun b m nw i wr => ∃ (k : Nat) (bz mz nz : Int), k ≤ n ∧ i = .int .i64 k ∧ b = .int .i64 bz ∧ m = .int .i64 mz ∧ nw = .int .i64 nz ∧ 0 ≤ bz ∧ bz ≤ k ∧ 0 ≤ mz ∧ mz ≤ k ∧ 0 ≤ nz ∧ nz ≤ k ∧ Hid (lhFold level (zs.take k) = ⟨k, bz, mz, nz⟩) ∧ wr = w1) (fun _ _ _ i _ => n - (intOf i).toNat)
    case atStart => exact ⟨0, 0, 0, 0, by omega, rfl, rfl, rfl, rfl, by omega, by omega, by omega, by omega, by omega, by omega, Lib.hid rfl, rfl⟩
    case round =>
      obtain ⟨k, bz, mz, nz, hk, rfl, rfl, rfl, rfl, hb0, hbk, hm0, hmk, hn0, hnk, HF, rfl⟩ := hrel
      by_cases hlt : k < n
      · obtain ⟨ad, z, rfl, hbl, hzk, hck⟩ := ha1.int hlt
        have HZK := Lib.hid hzk
        clear ha1 hzk
        by_cases h1 : z < level
        · go_wp2
          go_roundw
          case rel => exact ⟨k + 1, bz, mz, 0, by omega, by go_num, rfl, rfl, rfl, by omega, by omega, by omega, by omega, by omega, by omega, Lib.hid (by rw [take_snoc' HZK.out, lhFold_snoc, HF.out, lhStep, if_pos h1]; rfl), trivial⟩
          case measure => simp [intOf]; omega
        · by_cases h2 : mz < nz + 1
          · go_wp2
            go_roundw
            case rel => exact ⟨k + 1, k + 1 - (nz + 1), nz + 1, nz + 1, by omega, by go_num, by go_num, rfl, rfl, by omega, by omega, by omega, by omega, by omega, by omega, Lib.hid (by rw [take_snoc' HZK.out, lhFold_snoc, HF.out, lhStep, if_neg h1, if_pos h2]; rfl), trivial⟩
            case measure => simp [intOf]; omega
          · go_wp2
            go_roundw
            case rel => exact ⟨k + 1, bz, mz, nz + 1, by omega, by go_num, rfl, rfl, rfl, by omega, by omega, by omega, by omega, by omega, by omega, Lib.hid (by rw [take_snoc' HZK.out, lhFold_snoc, HF.out, lhStep, if_neg h1, if_neg h2]; rfl), trivial⟩
            case measure => simp [intOf]; omega
      · obtain rfl : k = n := by omega
        have HF' : Hid (lhFold level zs = ⟨k, bz, mz, nz⟩) := Lib.hid (by have := HF.out; rwa [List.take_of_length_le (by have := HL.out; omega)] at this)
        clear ha1
        by_cases h0 : mz = 0
        · have h00 : (mz == 0) = true := by simp [h0]
          have H0 := Lib.hid h0; clear h0
          go_wp2
          go_ret3
          exact LongPost.none_ HLV.out HZ.out HF'.out H0.out HB1.out
        · have h00 : (mz == 0) = false := by simp [h0]
          have H0 := Lib.hid h0; clear h0
          go_wp2
          go_ret3
          exact LongPost.good HLV.out HZ.out HF'.out H0.out HB1.out
  all_goals
    clear ha
    go_enter Try.func17, Try.ntmps17
    go_wp2_with (first | (go_at_call 35; refine (levelOk_c _ _).mono ?_; rintro e w' ⟨rfl, rfl⟩) | (refine hc.mono ?_; rintro e w1 ⟨rfl, hb1⟩; clear hc))
    go_ret3
    first
      | exact LongPost.lev hl (by assumption)
      | (have hz := HZ.out; rw [← hz]; exact LongPost.bad hl (by rw [hz]; omega) (by assumption))
      | (have hz := HZ.out; have h := LongPost.bad (level := level) (zs := zs) hl (by rw [hz]; omega) (by assumption); rwa [hz] at h)

end Go.Proofs.Ytbienjiinokhoaa
