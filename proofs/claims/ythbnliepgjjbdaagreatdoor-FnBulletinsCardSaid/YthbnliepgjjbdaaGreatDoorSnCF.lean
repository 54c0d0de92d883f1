/- XSnC, XSnD, XSnF, XSnE: merged texts. -/
import Derived.Test.YthbnliepgjjbdaaGreatDoorSnB
import Derived.Test.YthbnliepgjjbdaaGreatDoorSh
import Derived.Test.YthbnliepgjjbdaaGreatDoorSen
import Derived.Lib.SplitLaws
/- Sentences: the words of a kind, by the program. -/
namespace Go.Proofs.YthbnliepgjjbdaaGreatDoor
open Go.ChangeShapes Go.WideShapes Go.ChangeAt Go.RowKit
set_option linter.unusedVariables false
def wordB (k l : Nat) : List ByteArray := (wordT k l).map fun b => ⟨b.toArray⟩
def leastT (k : Nat) : Int := if k = 2 then -1 else 0
/-- the words of a kind lie in a row -/
def WordsPost (k l : Nat) (w : World) (e : Ending) (w' : World) : Prop :=
  ∃ A c, e = .returned (.tuple #[.int .i64 (leastT k), .slice A (wordB k l).length c]) ∧ Reads w' w'.heap.size 1 A (wordB k l).length (strs (wordB k l)) ∧ ((wordB k l) = [] → A = none ∧ c = 0) ∧ ((wordB k l) ≠ [] → ∃ g, A = some ⟨g, 0, none⟩) ∧ Below w.heap.size w w'
theorem reads_blk {w : World} {g n : Nat} {T : TypeId} {l : List ByteArray} (h : Blk w g T (strs l).toArray) (hn : l.length = n) : Reads w w.heap.size 1 (some ⟨g, 0, none⟩) n (strs l) := by
  refine ⟨by simp [strs, hn], fun _ => ⟨_, rfl, h.lt, fun j u hu => ?_⟩⟩
  rw [show (⟨g, 0, none⟩ : Addr).add j = ⟨g, j, none⟩ from by unfold Addr.add; split <;> simp_all, h.cell j]
  simpa using hu
/-- the rows of words, and the tables of rows -/
structure WordsAt (w0 W : World) (c d : Nat) : Prop where
  bel : Below w0.heap.size w0 W
  ch : ∀ l, 1 ≤ l → l ≤ 4 → ∃ g, W.cell? ⟨c, l - 1, none⟩ = some (.slice (some ⟨g, 0, none⟩) 3 3) ∧ Blk W g 9 (strs (wordB 2 l)).toArray
  dr : ∀ l, 1 ≤ l → l ≤ 4 → ∃ g, W.cell? ⟨d, l - 1, none⟩ = some (.slice (some ⟨g, 0, none⟩) 8 8) ∧ Blk W g 9 (strs (wordB 4 l)).toArray
/-- blocks laid one after another -/
def alls : World → List Obj → World
  | w, [] => w
  | w, o :: os => alls (w.alloc o) os
theorem alls_at : ∀ (os : List Obj) (w : World), (alls w os).heap.size = w.heap.size + os.length ∧ Below w.heap.size w (alls w os) ∧ ∀ i o, os[i]? = some o → (alls w os).heap[w.heap.size + i]? = some o
  | [], w => ⟨rfl, Below.refl _ _, fun i o h => by simp at h⟩
  | x :: os, w => by
    obtain ⟨h1, h2, h3⟩ := alls_at os (w.alloc x)
    have hs : (w.alloc x).heap.size = w.heap.size + 1 := by simp
    refine ⟨by show (alls (w.alloc x) os).heap.size = _; rw [h1, hs, List.length_cons]; omega, ((Below.refl w.heap.size w).alloc (Nat.le_refl _) x).trans (h2.mono (by omega)), fun i o h => ?_⟩
    show (alls (w.alloc x) os).heap[w.heap.size + i]? = some o
    cases i with
    | zero =>
      simp at h; subst h
      rw [Nat.add_zero, h2.block w.heap.size (by omega)]
      exact heap_alloc_new w x
    | succ i =>
      have h4 := h3 i o (by simpa using h)
      rw [hs] at h4
      rw [show w.heap.size + (i + 1) = w.heap.size + 1 + i by omega]
      exact h4
theorem words_at {w W : World} (os : List Obj) (hW : W = alls w os) (a1 a2 a3 a4 a5 a6 a7 a8 a9 : Array Value) (t1 t2 t3 : TypeId)
    (ho : os = [.cells a1 t1, .cells a2 t1, .cells a3 t1, .cells a4 t1, .cells a5 t2, .cells a6 t1, .cells a7 t1, .cells a8 t1, .cells a9 t3]) (ht : t1 = 9)
    (h1 : a1 = (strs (wordB 2 1)).toArray) (h2 : a2 = (strs (wordB 2 2)).toArray) (h3 : a3 = (strs (wordB 2 3)).toArray) (h4 : a4 = (strs (wordB 2 4)).toArray)
    (h6 : a6 = (strs (wordB 4 3)).toArray) (h64 : a6 = (strs (wordB 4 4)).toArray) (h7 : a7 = (strs (wordB 4 1)).toArray) (h8 : a8 = (strs (wordB 4 2)).toArray)
    (h5 : a5 = #[.slice (some ⟨w.heap.size, 0, none⟩) 3 3, .slice (some ⟨w.heap.size + 1, 0, none⟩) 3 3, .slice (some ⟨w.heap.size + 1 + 1, 0, none⟩) 3 3, .slice (some ⟨w.heap.size + 1 + 1 + 1, 0, none⟩) 3 3])
    (h9 : a9 = #[.slice (some ⟨w.heap.size + 1 + 1 + 1 + 1 + 1 + 1, 0, none⟩) 8 8, .slice (some ⟨w.heap.size + 1 + 1 + 1 + 1 + 1 + 1 + 1, 0, none⟩) 8 8, .slice (some ⟨w.heap.size + 1 + 1 + 1 + 1 + 1, 0, none⟩) 8 8, .slice (some ⟨w.heap.size + 1 + 1 + 1 + 1 + 1, 0, none⟩) 8 8]) :
    WordsAt w W (w.heap.size + 4) (w.heap.size + 8) := by
  obtain ⟨_, hb, hat⟩ := alls_at os w
  rw [← hW] at hb hat
  subst ho ht
  have b : ∀ i cs t, ([.cells a1 9, .cells a2 9, .cells a3 9, .cells a4 9, .cells a5 t2, .cells a6 9, .cells a7 9, .cells a8 9, .cells a9 t3] : List Obj)[i]? = some (.cells cs t) → Blk W (w.heap.size + i) t cs := fun i cs t h => hat i _ h
  have k5 := b 4 a5 t2 rfl
  have k9 := b 8 a9 t3 rfl
  refine ⟨hb, fun l hl1 hl2 => ?_, fun l hl1 hl2 => ?_⟩
  · have hl4 : l = 1 ∨ l = 2 ∨ l = 3 ∨ l = 4 := by omega
    rcases hl4 with rfl | rfl | rfl | rfl
    · exact ⟨_, (k5.cell 0).trans (by rw [h5]; rfl), by rw [← h1]; exact b 0 a1 _ rfl⟩
    · exact ⟨_, (k5.cell 1).trans (by rw [h5]; rfl), by rw [← h2]; exact b 1 a2 _ rfl⟩
    · exact ⟨_, (k5.cell 2).trans (by rw [h5]; rfl), by rw [← h3]; exact b 2 a3 _ rfl⟩
    · exact ⟨_, (k5.cell 3).trans (by rw [h5]; rfl), by rw [← h4]; exact b 3 a4 _ rfl⟩
  · have hl4 : l = 1 ∨ l = 2 ∨ l = 3 ∨ l = 4 := by omega
    rcases hl4 with rfl | rfl | rfl | rfl
    · exact ⟨_, (k9.cell 0).trans (by rw [h9]; rfl), by rw [← h7]; exact b 6 a7 _ rfl⟩
    · exact ⟨_, (k9.cell 1).trans (by rw [h9]; rfl), by rw [← h8]; exact b 7 a8 _ rfl⟩
    · exact ⟨_, (k9.cell 2).trans (by rw [h9]; rfl), by rw [← h6]; exact b 5 a6 _ rfl⟩
    · exact ⟨_, (k9.cell 3).trans (by rw [h9]; rfl), by rw [← h64]; exact b 5 a6 _ rfl⟩
theorem wordB_len {k l : Nat} (hl : 1 ≤ l ∧ l ≤ 4) : (k = 2 → (wordB k l).length = 3) ∧ (k = 4 ∨ k = 7 → (wordB k l).length = 8) ∧ wordB 7 l = wordB 4 l := by
  have hl4 : l = 1 ∨ l = 2 ∨ l = 3 ∨ l = 4 := by omega
  rcases hl4 with rfl | rfl | rfl | rfl <;> exact ⟨by rintro rfl; rfl, by rintro (rfl | rfl) <;> rfl, rfl⟩
theorem words_done {k l n : Nat} {w W : World} {g : Nat} {ws : List ByteArray} (hb : Blk W g 9 (strs ws).toArray) (he : ws = wordB k l) (hn : ws.length = n) (hz : 0 < n) (hB : Below w.heap.size w W) :
    WordsPost k l w (.returned (.tuple #[.int .i64 (leastT k), .slice (some ⟨g, 0, none⟩) n n])) W := by
  subst he hn
  exact ⟨some ⟨g, 0, none⟩, (wordB k l).length, rfl, reads_blk hb rfl, fun h => by rw [h] at hz; simp at hz, fun _ => ⟨_, rfl⟩, hB⟩
theorem words_none {k l : Nat} {w W : World} {n : Int} (h : wordB k l = []) (hn : n = leastT k) (hB : Below w.heap.size w W) : WordsPost k l w (.returned (.tuple #[.int .i64 n, .slice none 0 0])) W := by
  subst hn
  exact ⟨none, 0, by rw [h]; rfl, by rw [h]; exact Reads.none_, fun _ => ⟨rfl, rfl⟩, fun q => absurd h q, hB⟩
set_option maxHeartbeats 8000000 in
set_option maxRecDepth 100000 in
theorem sentenceWords_c (k l : Nat) (hk : 1 ≤ k ∧ k ≤ 7) (hl : 1 ≤ l ∧ l ≤ 4) (w : World) : Calls Tryz.prog 35 #[.int .i64 k, .int .i64 l] w (WordsPost k l w) := by
  go_enter Tryz.func35, Tryz.ntmps35
  go_upto_region 3 with (fail)
  go_cut [6, 8] (fun p q wx => p = .pointer (some ⟨w.heap.size + 4, 0, none⟩) ∧ q = .pointer (some ⟨w.heap.size + 8, 0, none⟩) ∧ Hid (WordsAt w wx (w.heap.size + 4) (w.heap.size + 8)))
  case first =>
    go_wp2_with fail
    go_meet
    exact ⟨rfl, rfl, Lib.hid (words_at _ rfl _ _ _ _ _ _ _ _ _ _ _ _ rfl rfl rfl rfl rfl rfl rfl rfl rfl rfl rfl rfl)⟩
  case rest =>
    obtain ⟨rfl, rfl, HW⟩ := hcut
    have hk7 : k = 2 ∨ k = 4 ∨ k = 7 ∨ (k = 1 ∨ k = 3 ∨ k = 5 ∨ k = 6) := by omega
    rcases hk7 with rfl | rfl | rfl | hk7
    · obtain ⟨g, hc, hb⟩ := HW.out.ch l hl.1 hl.2
      have HL := Lib.hid (wordB_len (k := 2) hl)
      have HBK := Lib.hid hb
      have hl4 : l = 1 ∨ l = 2 ∨ l = 3 ∨ l = 4 := by omega
      clear hb
      rcases hl4 with rfl | rfl | rfl | rfl
      all_goals
        simp only [Nat.reduceSub] at hc
        go_upto_region 6 with (fail)
        refine wp_region_quiet_lit (by kernel_rfl) (by kernel_rfl) ?_
        repeat (first | go_big_quiet_step (fail) | quiet_step (fail))
        refine wpQuiet_nil ?_
        intro _ hw'
        obtain ⟨nq, hw''⟩ := hw'
        subst hw''
        go_wp2
        go_ret2
        exact words_done (HBK.out.drewN _) rfl rfl (by omega) (below_drewN HW.out.bel _)
    · obtain ⟨g, hc, hb⟩ := HW.out.dr l hl.1 hl.2
      have HL := Lib.hid (wordB_len (k := 4) hl)
      have HBK := Lib.hid hb
      have hl4 : l = 1 ∨ l = 2 ∨ l = 3 ∨ l = 4 := by omega
      clear hb
      rcases hl4 with rfl | rfl | rfl | rfl
      all_goals
        simp only [Nat.reduceSub] at hc
        go_upto_region 9 with (fail)
        refine wp_region_quiet_lit (by kernel_rfl) (by kernel_rfl) ?_
        repeat (first | go_big_quiet_step (fail) | quiet_step (fail))
        refine wpQuiet_nil ?_
        intro _ hw'
        obtain ⟨nq, hw''⟩ := hw'
        subst hw''
        go_wp2
        go_ret2
        exact words_done (HBK.out.drewN _) rfl rfl (by omega) (below_drewN HW.out.bel _)
    · obtain ⟨g, hc, hb⟩ := HW.out.dr l hl.1 hl.2
      have HL := Lib.hid (wordB_len (k := 7) hl)
      have HBK := Lib.hid hb
      have hl4 : l = 1 ∨ l = 2 ∨ l = 3 ∨ l = 4 := by omega
      clear hb
      rcases hl4 with rfl | rfl | rfl | rfl
      all_goals
        simp only [Nat.reduceSub] at hc
        go_upto_region 9 with (fail)
        refine wp_region_quiet_lit (by kernel_rfl) (by kernel_rfl) ?_
        repeat (first | go_big_quiet_step (fail) | quiet_step (fail))
        refine wpQuiet_nil ?_
        intro _ hw'
        obtain ⟨nq, hw''⟩ := hw'
        subst hw''
        go_wp2
        go_ret2
        exact words_done (HBK.out.drewN _) rfl rfl (by omega) (below_drewN HW.out.bel _)
    · have hw0 : wordB k l = [] := by
        have hl4 : l = 1 ∨ l = 2 ∨ l = 3 ∨ l = 4 := by omega
        rcases hk7 with rfl | rfl | rfl | rfl <;> rcases hl4 with rfl | rfl | rfl | rfl <;> rfl
      have HW0 := Lib.hid hw0
      clear hw0
      rcases hk7 with rfl | rfl | rfl | rfl
      all_goals
        go_wp2
        go_ret2
        exact words_none HW0.out rfl HW.out.bel
end Go.Proofs.YthbnliepgjjbdaaGreatDoor

/- Sentences: the word of a number, by the program's closure. -/
namespace Go.Proofs.YthbnliepgjjbdaaGreatDoor
open Go.ChangeShapes Go.WideShapes Go.ChangeAt Go.RowKit
set_option linter.unusedVariables false
/-- the numbers that a kind's words stand for -/
def numOk (k : Nat) (n : Int) : Prop := (k = 2 → -1 ≤ n ∧ n ≤ 1) ∧ (k = 4 ∨ k = 7 → 0 ≤ n ∧ n ≤ 7) ∧ (k ≠ 2 → k ≠ 4 → k ≠ 7 → 0 ≤ n ∧ n ≤ 1000000)
def numB (k l : Nat) (n : Int) : ByteArray := ⟨(numT k l n).toArray⟩
theorem numB_word {k l : Nat} {n : Int} (hl : 1 ≤ l ∧ l ≤ 4) (hk : k = 2 ∨ k = 4 ∨ k = 7) {b : ByteArray} (h : (wordB k l)[(n - leastT k).toNat]? = some b) : b = numB k l n := by
  unfold wordB at h
  rw [List.getElem?_map] at h
  cases hq : (wordT k l)[(n - leastT k).toNat]? with
  | none => rw [hq] at h; cases h
  | some x =>
    rw [hq] at h
    injection h with h
    rw [← h]
    unfold numB numT
    rcases hk with rfl | rfl | rfl
    · rw [if_pos rfl]
      have e : (n - leastT 2).toNat = (n + 1).toNat := by unfold leastT; rw [if_pos rfl]; congr 1
      rw [e] at hq
      rw [hq]; rfl
    · rw [if_neg (by decide), if_pos (.inl rfl)]
      have e : (n - leastT 4).toNat = n.toNat := by unfold leastT; rw [if_neg (by decide)]; congr 1; omega
      rw [e] at hq
      rw [hq]; rfl
    · rw [if_neg (by decide), if_pos (.inr rfl)]
      have e : (n - leastT 7).toNat = n.toNat := by unfold leastT; rw [if_neg (by decide)]; congr 1; omega
      rw [e] at hq
      rw [hq]; rfl
set_option maxHeartbeats 2000000 in
set_option maxRecDepth 100000 in
theorem textWord_c (k l : Nat) (hl : 1 ≤ l ∧ l ≤ 4) (n : Int) (hn : numOk k n) (a1 a2 : Addr) (A : Option Addr) (c : Nat) (w : World) (h1 : w.cell? a1 = some (.slice A (wordB k l).length c)) (h2 : w.cell? a2 = some (.int .i64 (leastT k)))
    (hr : Reads w w.heap.size 1 A (wordB k l).length (strs (wordB k l))) (he : (wordB k l) = [] → A = none ∧ c = 0) (hne : (wordB k l) ≠ [] → A ≠ none) (hkw : (k = 2 ∨ k = 4 ∨ k = 7) ↔ (wordB k l) ≠ []) (ht : Tab10 w) :
    Calls Tryz.prog 36 #[.int .i64 n, .pointer (some a1), .pointer (some a2)] w fun e w' => e = .returned (.string (numB k l n)) ∧ Below w.heap.size w w' := by
  by_cases hw : wordB k l = []
  · obtain ⟨rfl, rfl⟩ := he hw
    have hk : ¬ (k = 2 ∨ k = 4 ∨ k = 7) := fun q => hkw.1 q hw
    have hn0 := hn.2.2 (fun q => hk (.inl q)) (fun q => hk (.inr (.inl q))) (fun q => hk (.inr (.inr q)))
    obtain ⟨m, rfl⟩ : ∃ m : Nat, n = m := ⟨n.toNat, by omega⟩
    have HV : Hid (numB k l m = decB m) := Lib.hid (by
      unfold numB numT decB
      rw [if_neg (fun q => hk (.inl q)), if_neg (fun q => hk (.inr q)), Int.toNat_natCast])
    have HD := Lib.hid (iDecimal_c m w (by omega) ht)
    rw [hw] at h1
    simp only [List.length_nil] at h1
    clear he hne hkw hr hw hk hn ht
    have hq0 : ∀ W : World, (binOp BinOp.eql 46 (.slice none 0 0) (.slice none 0 0)).run Tryz.prog W = .ok (.bool true) W := fun _ => by kernel_rfl
    go_enter Tryz.func36, Tryz.ntmps36
    go_wp2_with fail
    refine HD.out.mono ?_
    rintro e w1 ⟨rfl, B1⟩
    go_wp2
    go_ret
    exact ⟨by rw [HV.out]; rfl, B1⟩
  · have hk := hkw.2 hw
    obtain ⟨ad, rfl⟩ : ∃ ad, A = some ad := by
      cases A with
      | none => exact absurd rfl (hne hw)
      | some ad => exact ⟨ad, rfl⟩
    have hlen := wordB_len (k := k) hl
    have hj : 0 ≤ n - leastT k ∧ n - leastT k < (wordB k l).length := by
      unfold leastT
      rcases hk with rfl | hk
      · have := hn.1 rfl
        rw [if_pos rfl, hlen.1 rfl]; omega
      · have := hn.2.1 hk
        rw [if_neg (by omega), hlen.2.1 hk]; omega
    obtain ⟨j, hjn⟩ : ∃ j : Nat, n - leastT k = j := ⟨(n - leastT k).toNat, by omega⟩
    have hjl : j < (wordB k l).length := by omega
    obtain ⟨ad', b, e1, _, hb, cb⟩ := hr.str hjl
    obtain rfl : ad = ad' := by injection e1
    have HB : Hid (b = numB k l n) := Lib.hid (numB_word hl hk (by rw [hjn]; exact hb))
    have hjr : (j : Int) < ((wordB k l).length : Int) := by omega
    have hj0 : (0 : Int) ≤ (j : Int) := by omega
    have hlt : leastT k = 0 ∨ leastT k = -1 := by unfold leastT; split <;> omega
    have h38 : (wordB k l).length ≤ 8 := by
      rcases hk with hk2 | hk2
      · have := hlen.1 hk2; omega
      · have := hlen.2.1 hk2; omega
    have hwr : IntKind.i64.wrap (n - leastT k) = (j : Int) := by rw [hjn]; exact IntWalk.i64_in _ (by omega)
    clear he hne hkw hr hw hk hn ht hlen e1 hb hlt hjn hj h38
    generalize leastT k = lt at *
    generalize (wordB k l).length = wl at *
    have hq1 : ∀ W : World, (binOp BinOp.eql 46 (.slice (some ad) wl c) (.slice none 0 0)).run Tryz.prog W = .ok (.bool false) W := fun _ => by kernel_rfl
    go_enter Tryz.func36, Tryz.ntmps36
    go_wp2
    go_ret
    exact ⟨by rw [← HB.out]; rfl, by go_grown⟩
end Go.Proofs.YthbnliepgjjbdaaGreatDoor

/- Sentences: the word of a number, by the reference. -/
namespace Go.Proofs.YthbnliepgjjbdaaGreatDoor
open Go.ChangeShapes Go.WideShapes Go.ChangeAt Go.RowKit
set_option linter.unusedVariables false
def RowPost (ws : List ByteArray) (w : World) (e : Ending) (w' : World) : Prop :=
  ∃ A c, e = .returned (.slice A ws.length c) ∧ Reads w' w'.heap.size 1 A ws.length (strs ws) ∧ Below w.heap.size w w'
theorem row_new {w : World} {n : Nat} {ws : List ByteArray} {cs : Array Value} (hc : cs = (strs ws).toArray) (hn : ws.length = n) : RowPost ws w (.returned (.slice (some ⟨w.heap.size, 0, none⟩) n n)) (w.alloc (.cells cs 9)) := by
  subst hc hn
  exact ⟨_, ws.length, rfl, reads_blk (Blk.new _ _ _) rfl, (Below.refl _ _).alloc (Nat.le_refl _) _⟩
end Go.Proofs.YthbnliepgjjbdaaGreatDoor

/- Sentences: the text of one, by the program. -/
namespace Go.Proofs.YthbnliepgjjbdaaGreatDoor
open Go.ChangeShapes Go.WideShapes Go.ChangeAt Go.RowKit
set_option linter.unusedVariables false
theorem pat_facts {k l : Nat} (hk : 1 ≤ k ∧ k ≤ 7) (hl : 1 ≤ l ∧ l ≤ 4) : (patT k l).length ≤ 120 ∧ (60 : UInt8) ∉ (partT k l).1 ∧ (60 : UInt8) ∉ (partT k l).2.1 ∧ ∀ x ∈ wordT k l, x.length ≤ 20 ∧ (60 : UInt8) ∉ x := by
  have hk7 : k = 1 ∨ k = 2 ∨ k = 3 ∨ k = 4 ∨ k = 5 ∨ k = 6 ∨ k = 7 := by omega
  have hl4 : l = 1 ∨ l = 2 ∨ l = 3 ∨ l = 4 := by omega
  rcases hk7 with rfl | rfl | rfl | rfl | rfl | rfl | rfl <;> rcases hl4 with rfl | rfl | rfl | rfl <;> decide
def restT (k l : Nat) : List UInt8 := if k = 4 then (partT k l).2.1 ++ [60, 66, 62] ++ (partT k l).2.2 else (partT k l).2.1
def midT (k l : Nat) (a : Int) : List UInt8 := (partT k l).1 ++ numT k l a ++ restT k l
theorem patT_rest (k l : Nat) : patT k l = (partT k l).1 ++ [60, 65, 62] ++ restT k l := by unfold patT restT; split <;> rfl
theorem midT_text {k l : Nat} (h : k ≠ 4) (a b : Int) : midT k l a = textT k l a b := by unfold midT textT restT; rw [if_neg h, if_neg h]
theorem num_facts {k l : Nat} (hk : 1 ≤ k ∧ k ≤ 7) (hl : 1 ≤ l ∧ l ≤ 4) {n : Int} (hn : numOk k n) : (numT k l n).length ≤ 20 ∧ (60 : UInt8) ∉ numT k l n := by
  obtain ⟨_, _, _, hw⟩ := pat_facts hk hl
  have hg : ∀ j : Nat, (((wordT k l)[j]?).getD []).length ≤ 20 ∧ (60 : UInt8) ∉ ((wordT k l)[j]?).getD [] := fun j => by
    cases hq : (wordT k l)[j]? with
    | none => simp
    | some x => exact hw x (List.mem_of_getElem? hq)
  unfold numT
  split
  · exact hg _
  · split
    · exact hg _
    · have h2 : ∀ f m, m < 10 ^ f → (60 : UInt8) ∉ dg m := fun f => by
        induction f with
        | zero => intro m hm; rw [show m = 0 by omega]; simp [dg]
        | succ f ih =>
          intro m hm
          by_cases h0 : m = 0
          · subst h0; simp [dg]
          · rw [dg_step (by omega)]
            intro hq
            rcases List.mem_append.1 hq with hq | hq
            · exact ih (m / 10) (by rw [Nat.pow_succ] at hm; omega) hq
            · have e := List.mem_singleton.1 hq
              have e2 := congrArg UInt8.toNat e
              have h10 : (48 + m % 10) % 256 = 48 + m % 10 := Nat.mod_eq_of_lt (by omega)
              simp [UInt8.toNat_ofNat', h10] at e2
              omega
      have hb := hn.2.2 (by omega) (by omega) (by omega)
      by_cases h0 : n.toNat = 0
      · rw [h0, Lib.decDigits]; decide
      · have e : Lib.decDigits n.toNat = dg n.toNat := by rw [dg, if_neg h0]
        rw [e]
        exact ⟨Nat.le_trans (dg_len 19 _ (by omega)) (by omega), h2 19 _ (by omega)⟩
theorem wordB_ne {k l : Nat} (hk : 1 ≤ k ∧ k ≤ 7) (hl : 1 ≤ l ∧ l ≤ 4) : (k = 2 ∨ k = 4 ∨ k = 7) ↔ wordB k l ≠ [] := by
  have hk7 : k = 1 ∨ k = 2 ∨ k = 3 ∨ k = 4 ∨ k = 5 ∨ k = 6 ∨ k = 7 := by omega
  have hl4 : l = 1 ∨ l = 2 ∨ l = 3 ∨ l = 4 := by omega
  rcases hk7 with rfl | rfl | rfl | rfl | rfl | rfl | rfl <;> rcases hl4 with rfl | rfl | rfl | rfl <;> simp [wordB, wordT]
theorem okS_num {k a b : Int} (h : okS k a b = true) : ∃ kn : Nat, k = kn ∧ 1 ≤ kn ∧ kn ≤ 7 ∧ numOk kn a ∧ (kn = 4 → numOk 4 b) ∧ (kn ≠ 4 → b = 0) := by
  unfold okS inB at h
  have hk : 1 ≤ k ∧ k ≤ 7 := by
    apply Classical.byContradiction
    intro hq
    split at h
    · cases h
    · rw [if_neg (by omega), if_neg (by omega), if_neg (by omega), if_neg (by omega), if_neg (by omega), if_neg (by omega)] at h
      cases h
  obtain ⟨kn, rfl⟩ : ∃ kn : Nat, k = kn := ⟨k.toNat, by omega⟩
  refine ⟨kn, rfl, by omega, by omega, ?_, ?_, ?_⟩
  all_goals (try unfold numOk); all_goals (have hk7 : kn = 1 ∨ kn = 2 ∨ kn = 3 ∨ kn = 4 ∨ kn = 5 ∨ kn = 6 ∨ kn = 7 := by omega)
  all_goals (rcases hk7 with rfl | rfl | rfl | rfl | rfl | rfl | rfl <;> simp at h ⊢ <;> try omega)
/-- strings.Replace at a place of a text -/
theorem repl_c (x y z : UInt8) (q r v : List UInt8) (m0 : Int) (w : World) (hm0 : w.cell? ⟨0, 0, none⟩ = some (.int .i64 m0)) (hq : x ∉ q) (hl : (q ++ [x, y, z] ++ r).length ≤ 1000) (hv : v.length ≤ 1000) :
    Calls Tryz.prog 38 #[.string ⟨(q ++ [x, y, z] ++ r).toArray⟩, .string ⟨#[x, y, z]⟩, .string ⟨v.toArray⟩, .int .i64 1] w fun e w' => e = .returned (.string ⟨(q ++ v ++ r).toArray⟩) ∧ Below w.heap.size w w' := by
  have hs : (⟨(q ++ [x, y, z] ++ r).toArray⟩ : ByteArray).size = (q ++ [x, y, z] ++ r).length := rfl
  have hv2 : (⟨v.toArray⟩ : ByteArray).size = v.length := rfl
  have h := Tryz.strings_Replace ⟨(q ++ [x, y, z] ++ r).toArray⟩ ⟨#[x, y, z]⟩ ⟨v.toArray⟩ 1 m0 w (by rw [hs]; omega) hm0 (by show 1 ≤ 3; omega) (by
    have h1 := Lib.countB_le ⟨#[x, y, z]⟩ (by show 1 ≤ 3; omega) 1000 ⟨(q ++ [x, y, z] ++ r).toArray⟩ (by rw [hs]; omega)
    rw [hs] at h1 ⊢
    rw [hv2]
    have h2 := Nat.mul_le_mul (Nat.le_trans h1 hl) hv
    omega)
  have e := repl_place x y z q r v hq
  simp only at h
  rw [e] at h
  exact h
set_option maxHeartbeats 4000000 in
set_option maxRecDepth 100000 in
theorem iText_c (k l : Nat) (a b m0 : Int) (hk : 1 ≤ k ∧ k ≤ 7) (hl : 1 ≤ l ∧ l ≤ 4) (ha : numOk k a) (hb : k = 4 → numOk 4 b) (w : World) (hm0 : w.cell? ⟨0, 0, none⟩ = some (.int .i64 m0)) (ht : Tab10 w) :
    Calls Tryz.prog 24 #[.agg #[.int .i64 k, .int .i64 a, .int .i64 b], .int .i64 l] w fun e w' => e = .returned (.string ⟨(textT k l a b).toArray⟩) ∧ Below w.heap.size w w' := by
  have HM : Hid (∀ W, Below w.heap.size w W → W.cell? ⟨0, 0, none⟩ = some (.int .i64 m0)) := Lib.hid (fun W hW => (hW.cell (World.block_lt_of_cell? _ _ hm0)).trans hm0)
  have HT := Lib.hid (fun W (hW : Below w.heap.size w W) => ht.below hW)
  have HPF := Lib.hid (pat_facts hk hl)
  have HNA := Lib.hid ha
  have HNB := Lib.hid hb
  clear hm0 ht ha hb
  go_enter Tryz.func24, Tryz.ntmps24
  go_wp2_with fail
  refine (sentenceWords_c k l hk hl _).mono ?_
  rintro e w1 ⟨A, c, rfl, hr, he, hne, hB⟩
  have HR := Lib.hid hr
  have HE := Lib.hid he
  have HNE := Lib.hid hne
  have HB := Lib.hid hB
  clear hr he hne hB
  generalize hwl : (wordB k l).length = wl at *
  go_upto_region 3 with (fail)
  obtain ⟨W2, hW2⟩ : ∃ W2, W2 = (w1.alloc (.cells #[.int .i64 (leastT k)] 2)).alloc (.cells #[.slice A wl c] 46) := ⟨_, rfl⟩
  have B12 : Below w1.heap.size w1 W2 := by rw [hW2]; exact ((Below.refl _ _).alloc (Nat.le_refl _) _).alloc (by simp) _
  have K1 : Blk W2 w1.heap.size 2 #[.int .i64 (leastT k)] := by rw [hW2]; exact (Blk.new _ _ _).alloc _
  have K2 : Blk W2 (w1.heap.size + 1) 46 #[.slice A wl c] := by rw [hW2]; have := Blk.new (w1.alloc (.cells #[.int .i64 (leastT k)] 2)) 46 #[.slice A wl c]; simpa using this
  have hs01 := HB.out.size
  have B01 : Below w.heap.size w w1 := ((Below.refl w.heap.size w).alloc (Nat.le_refl _) _).trans (HB.out.mono (by simp))
  have KX : Blk W2 w.heap.size 38 #[.int .i64 k, .int .i64 a, .int .i64 b] := ((Blk.new w _ _).below HB.out (by simp)).below B12 (by simp at hs01; omega)
  have T2 := Lib.hid (B01.trans (B12.mono B01.size))
  rw [← hW2]
  clear hW2
  have HKX := Lib.hid KX
  have HCL : Hid (∀ n, numOk k n → ∀ W, Below W2.heap.size W2 W → Calls Tryz.prog 36 #[.int .i64 n, .pointer (some ⟨w1.heap.size + 1, 0, none⟩), .pointer (some ⟨w1.heap.size, 0, none⟩)] W fun e w' => e = .returned (.string (numB k l n)) ∧ Below W.heap.size W w') := Lib.hid (by
    intro n hn W hW
    have h1 : W.cell? ⟨w1.heap.size + 1, 0, none⟩ = some (.slice A wl c) := ((K2.below hW K2.lt).cell 0).trans rfl
    have h2 : W.cell? ⟨w1.heap.size, 0, none⟩ = some (.int .i64 (leastT k)) := ((K1.below hW K1.lt).cell 0).trans rfl
    subst hwl
    refine textWord_c k l hl n hn _ _ A c W h1 h2 ?_ HE.out (fun q => by obtain ⟨g, hg⟩ := HNE.out q; rw [hg]; simp) ?_ (HT.out W (T2.out.trans (hW.mono T2.out.size)))
    · have hx := HR.out.below B12
      exact (hx.more B12.size).below hW |>.more hW.size
    · exact wordB_ne hk hl)
  have HR1 : Hid (∀ W, Below W2.heap.size W2 W → Calls Tryz.prog 38 #[.string ⟨(patT k l).toArray⟩, .string ⟨#[60, 65, 62]⟩, .string (numB k l a), .int .i64 1] W fun e w' => e = .returned (.string ⟨(midT k l a).toArray⟩) ∧ Below W.heap.size W w') := Lib.hid (by
    intro W hW
    have hn := num_facts hk hl HNA.out
    have h1 := HPF.out.1
    rw [patT_rest] at h1 ⊢
    exact repl_c 60 65 62 (partT k l).1 (restT k l) (numT k l a) m0 W (HM.out W (T2.out.trans (hW.mono T2.out.size))) HPF.out.2.1 (by omega) (by omega))
  clear K1 K2 KX B12 hs01 B01
  have d0 : W2.cell? ⟨w.heap.size, 0, none⟩ = some (.int .i64 k) := HKX.out.cell 0
  have d1 : W2.cell? ⟨w.heap.size, 1, none⟩ = some (.int .i64 a) := HKX.out.cell 1
  have he : Enters Tryz.prog 36 := enters_of Tryz.func36 (by kernel_rfl) rfl
  have HEN := Lib.hid he
  unfold Enters at he
  have qd0 := cell_regrown d0
  have qd1 := cell_regrown d1
  refine wp_region_quiet_below (by kernel_rfl) (by kernel_rfl) ?_
  repeat (first | go_big_quiet_step ((first | (go_at_call 39; exact Calls.regrown_of (sentencePattern_c k l hk hl _)) | (go_at_call 36; exact Calls.regrown_of (HCL.out a HNA.out _ (below_regrown _ _ _))) | (go_at_call 38; exact Calls.regrown_of (HR1.out _ (below_regrown _ _ _))))) | quiet_step ((first | (go_at_call 39; exact Calls.regrown_of (sentencePattern_c k l hk hl _)) | (go_at_call 36; exact Calls.regrown_of (HCL.out a HNA.out _ (below_regrown _ _ _))) | (go_at_call 38; exact Calls.regrown_of (HR1.out _ (below_regrown _ _ _))))))
  refine wpQuiet_nil ?_
  intro W3 B3
  replace B3 := Lib.hid (show Below (W2).heap.size (W2) W3 from by obtain ⟨pq, rfl⟩ := B3; exact below_regrown _ _ _)
  clear qd0 qd1
  clear he d0 d1
  have T3 := Lib.hid (T2.out.trans (B3.out.mono T2.out.size))
  have HKX3 := Lib.hid (HKX.out.below B3.out HKX.out.lt)
  have hs3 := B3.out.size
  have HCL3 : Hid (∀ n, numOk k n → ∀ W, Below W3.heap.size W3 W → Calls Tryz.prog 36 #[.int .i64 n, .pointer (some ⟨w1.heap.size + 1, 0, none⟩), .pointer (some ⟨w1.heap.size, 0, none⟩)] W fun e w' => e = .returned (.string (numB k l n)) ∧ Below W.heap.size W w') := Lib.hid (fun n hn W hW => HCL.out n hn W (B3.out.trans (hW.mono B3.out.size)))
  have d0 : W3.cell? ⟨w.heap.size, 0, none⟩ = some (.int .i64 k) := HKX3.out.cell 0
  clear HR1 HCL HKX
  by_cases hk4 : k = 4
  · subst hk4
    have HNB4 := Lib.hid (HNB.out rfl)
    have HR2 : Hid (∀ W, Below W3.heap.size W3 W → Calls Tryz.prog 38 #[.string ⟨(midT 4 l a).toArray⟩, .string ⟨#[60, 66, 62]⟩, .string (numB 4 l b), .int .i64 1] W fun e w' => e = .returned (.string ⟨(textT 4 l a b).toArray⟩) ∧ Below W.heap.size W w') := Lib.hid (by
      intro W hW
      have hn := num_facts hk hl HNA.out
      have hm := num_facts hk hl HNB4.out
      have h1 := HPF.out.1
      have e1 : midT 4 l a = ((partT 4 l).1 ++ numT 4 l a ++ (partT 4 l).2.1) ++ [60, 66, 62] ++ (partT 4 l).2.2 := by unfold midT restT; rw [if_pos rfl]; simp
      have e2 : textT 4 l a b = ((partT 4 l).1 ++ numT 4 l a ++ (partT 4 l).2.1) ++ numT 4 l b ++ (partT 4 l).2.2 := by unfold textT; rw [if_pos rfl]; simp
      rw [e1, e2]
      refine repl_c 60 66 62 _ _ (numT 4 l b) m0 W (HM.out W (T3.out.trans (hW.mono T3.out.size))) ?_ ?_ (by omega)
      · intro hq
        rcases List.mem_append.1 hq with hq | hq
        · rcases List.mem_append.1 hq with hq | hq
          · exact HPF.out.2.1 hq
          · exact hn.2 hq
        · exact HPF.out.2.2.1 hq
      · unfold patT at h1
        rw [if_pos rfl] at h1
        simp only [List.length_append] at h1 ⊢
        omega)
    have d2 : W3.cell? ⟨w.heap.size, 2, none⟩ = some (.int .i64 b) := HKX3.out.cell 2
    have he := HEN.out
    unfold Enters at he
    go_wp2_with fail
    clear he
    refine (HCL3.out b HNB4.out _ (Below.refl _ _)).mono ?_
    rintro e w4 ⟨rfl, B4⟩
    have HB4 := Lib.hid B4
    clear B4 d0 d2
    go_wp2_with fail
    refine (HR2.out _ HB4.out).mono ?_
    rintro e w5 ⟨rfl, B5⟩
    go_wp2
    go_ret
    exact ⟨rfl, T3.out.trans ((HB4.out.trans (B5.mono HB4.out.size)).mono T3.out.size)⟩
  · have hk4' : ¬ ((k : Int) = 4) := by omega
    go_wp2
    go_ret
    exact ⟨by rw [midT_text hk4 a b]; rfl, T3.out⟩
end Go.Proofs.YthbnliepgjjbdaaGreatDoor
