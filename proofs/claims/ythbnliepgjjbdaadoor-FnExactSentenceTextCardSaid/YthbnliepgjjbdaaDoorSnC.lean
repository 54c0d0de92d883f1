/- Sentences: the words of a kind, by the program. -/
import Derived.Test.YthbnliepgjjbdaaDoorSnB
namespace Go.Proofs.YthbnliepgjjbdaaDoor
open Go.ChangeShapes Go.WideShapes Go.ChangeAt Go.RowKit
set_option linter.unusedVariables false
def wordB (k l : Nat) : List ByteArray := (wordT k l).map fun b => ⟨b.toArray⟩
def leastT (k : Nat) : Int := if k = 2 then -1 else 0
/-- the words of a kind lie in a row -/
def WordsPost (k l : Nat) (w : World) (e : Ending) (w' : World) : Prop :=
  ∃ A c, e = .returned (.tuple #[.int .i64 (leastT k), .slice A (wordB k l).length c]) ∧ Reads w' w'.heap.size 1 A (wordB k l).length (strs (wordB k l)) ∧ ((wordB k l) = [] → A = none ∧ c = 0) ∧ ((wordB k l) ≠ [] → ∃ g, A = some ⟨g, 0, none⟩) ∧ Below w.heap.size w w'
theorem reads_blk {w : World} {g n : Nat} {T : TypeId} {l : List ByteArray} (h : Blk w g T (strs l).toArray) (hn : l.length = n) : Reads w w.heap.size 1 (some ⟨g, 0, none⟩) n (strs l) := by
  refine ⟨by simp [strs, hn], fun _ => ⟨_, rfl, h.lt, fun j u hu => ?_⟩⟩
  rw [show (⟨g, 0, none⟩ : Addr).add j = ⟨g, j, none⟩ from by unfold Addr.add; split <;> simp_all, h.cell j]
  simpa using hu
/-- the rows of words, and the tables of rows -/
structure WordsAt (w0 W : World) (c d : Nat) : Prop where
  bel : Below w0.heap.size w0 W
  ch : ∀ l, 1 ≤ l → l ≤ 4 → ∃ g, W.cell? ⟨c, l - 1, none⟩ = some (.slice (some ⟨g, 0, none⟩) 3 3) ∧ Blk W g 9 (strs (wordB 2 l)).toArray
  dr : ∀ l, 1 ≤ l → l ≤ 4 → ∃ g, W.cell? ⟨d, l - 1, none⟩ = some (.slice (some ⟨g, 0, none⟩) 8 8) ∧ Blk W g 9 (strs (wordB 4 l)).toArray
/-- blocks laid one after another -/
def alls : World → List Obj → World
  | w, [] => w
  | w, o :: os => alls (w.alloc o) os
theorem alls_at : ∀ (os : List Obj) (w : World), (alls w os).heap.size = w.heap.size + os.length ∧ Below w.heap.size w (alls w os) ∧ ∀ i o, os[i]? = some o → (alls w os).heap[w.heap.size + i]? = some o
  | [], w => ⟨rfl, Below.refl _ _, fun i o h => by simp at h⟩
  | x :: os, w => by
    obtain ⟨h1, h2, h3⟩ := alls_at os (w.alloc x)
    have hs : (w.alloc x).heap.size = w.heap.size + 1 := by simp
    refine ⟨by show (alls (w.alloc x) os).heap.size = _; rw [h1, hs, List.length_cons]; omega, ((Below.refl w.heap.size w).alloc (Nat.le_refl _) x).trans (h2.mono (by omega)), fun i o h => ?_⟩
    show (alls (w.alloc x) os).heap[w.heap.size + i]? = some o
    cases i with
    | zero =>
      simp at h; subst h
      rw [Nat.add_zero, h2.block w.heap.size (by omega)]
      exact heap_alloc_new w x
    | succ i =>
      have h4 := h3 i o (by simpa using h)
      rw [hs] at h4
      rw [show w.heap.size + (i + 1) = w.heap.size + 1 + i by omega]
      exact h4
theorem words_at {w W : World} (os : List Obj) (hW : W = alls w os) (a1 a2 a3 a4 a5 a6 a7 a8 a9 : Array Value) (t1 t2 t3 : TypeId)
    (ho : os = [.cells a1 t1, .cells a2 t1, .cells a3 t1, .cells a4 t1, .cells a5 t2, .cells a6 t1, .cells a7 t1, .cells a8 t1, .cells a9 t3]) (ht : t1 = 9)
    (h1 : a1 = (strs (wordB 2 1)).toArray) (h2 : a2 = (strs (wordB 2 2)).toArray) (h3 : a3 = (strs (wordB 2 3)).toArray) (h4 : a4 = (strs (wordB 2 4)).toArray)
    (h6 : a6 = (strs (wordB 4 3)).toArray) (h64 : a6 = (strs (wordB 4 4)).toArray) (h7 : a7 = (strs (wordB 4 1)).toArray) (h8 : a8 = (strs (wordB 4 2)).toArray)
    (h5 : a5 = #[.slice (some ⟨w.heap.size, 0, none⟩) 3 3, .slice (some ⟨w.heap.size + 1, 0, none⟩) 3 3, .slice (some ⟨w.heap.size + 1 + 1, 0, none⟩) 3 3, .slice (some ⟨w.heap.size + 1 + 1 + 1, 0, none⟩) 3 3])
    (h9 : a9 = #[.slice (some ⟨w.heap.size + 1 + 1 + 1 + 1 + 1 + 1, 0, none⟩) 8 8, .slice (some ⟨w.heap.size + 1 + 1 + 1 + 1 + 1 + 1 + 1, 0, none⟩) 8 8, .slice (some ⟨w.heap.size + 1 + 1 + 1 + 1 + 1, 0, none⟩) 8 8, .slice (some ⟨w.heap.size + 1 + 1 + 1 + 1 + 1, 0, none⟩) 8 8]) :
    WordsAt w W (w.heap.size + 4) (w.heap.size + 8) := by
  obtain ⟨_, hb, hat⟩ := alls_at os w
  rw [← hW] at hb hat
  subst ho ht
  have b : ∀ i cs t, ([.cells a1 9, .cells a2 9, .cells a3 9, .cells a4 9, .cells a5 t2, .cells a6 9, .cells a7 9, .cells a8 9, .cells a9 t3] : List Obj)[i]? = some (.cells cs t) → Blk W (w.heap.size + i) t cs := fun i cs t h => hat i _ h
  have k5 := b 4 a5 t2 rfl
  have k9 := b 8 a9 t3 rfl
  refine ⟨hb, fun l hl1 hl2 => ?_, fun l hl1 hl2 => ?_⟩
  · have hl4 : l = 1 ∨ l = 2 ∨ l = 3 ∨ l = 4 := by omega
    rcases hl4 with rfl | rfl | rfl | rfl
    · exact ⟨_, (k5.cell 0).trans (by rw [h5]; rfl), by rw [← h1]; exact b 0 a1 _ rfl⟩
    · exact ⟨_, (k5.cell 1).trans (by rw [h5]; rfl), by rw [← h2]; exact b 1 a2 _ rfl⟩
    · exact ⟨_, (k5.cell 2).trans (by rw [h5]; rfl), by rw [← h3]; exact b 2 a3 _ rfl⟩
    · exact ⟨_, (k5.cell 3).trans (by rw [h5]; rfl), by rw [← h4]; exact b 3 a4 _ rfl⟩
  · have hl4 : l = 1 ∨ l = 2 ∨ l = 3 ∨ l = 4 := by omega
    rcases hl4 with rfl | rfl | rfl | rfl
    · exact ⟨_, (k9.cell 0).trans (by rw [h9]; rfl), by rw [← h7]; exact b 6 a7 _ rfl⟩
    · exact ⟨_, (k9.cell 1).trans (by rw [h9]; rfl), by rw [← h8]; exact b 7 a8 _ rfl⟩
    · exact ⟨_, (k9.cell 2).trans (by rw [h9]; rfl), by rw [← h6]; exact b 5 a6 _ rfl⟩
    · exact ⟨_, (k9.cell 3).trans (by rw [h9]; rfl), by rw [← h64]; exact b 5 a6 _ rfl⟩
theorem wordB_len {k l : Nat} (hl : 1 ≤ l ∧ l ≤ 4) : (k = 2 → (wordB k l).length = 3) ∧ (k = 4 ∨ k = 7 → (wordB k l).length = 8) ∧ wordB 7 l = wordB 4 l := by
  have hl4 : l = 1 ∨ l = 2 ∨ l = 3 ∨ l = 4 := by omega
  rcases hl4 with rfl | rfl | rfl | rfl <;> exact ⟨by rintro rfl; rfl, by rintro (rfl | rfl) <;> rfl, rfl⟩
theorem words_done {k l n : Nat} {w W : World} {g : Nat} {ws : List ByteArray} (hb : Blk W g 9 (strs ws).toArray) (he : ws = wordB k l) (hn : ws.length = n) (hz : 0 < n) (hB : Below w.heap.size w W) :
    WordsPost k l w (.returned (.tuple #[.int .i64 (leastT k), .slice (some ⟨g, 0, none⟩) n n])) W := by
  subst he hn
  exact ⟨some ⟨g, 0, none⟩, (wordB k l).length, rfl, reads_blk hb rfl, fun h => by rw [h] at hz; simp at hz, fun _ => ⟨_, rfl⟩, hB⟩
theorem words_none {k l : Nat} {w W : World} {n : Int} (h : wordB k l = []) (hn : n = leastT k) (hB : Below w.heap.size w W) : WordsPost k l w (.returned (.tuple #[.int .i64 n, .slice none 0 0])) W := by
  subst hn
  exact ⟨none, 0, by rw [h]; rfl, by rw [h]; exact Reads.none_, fun _ => ⟨rfl, rfl⟩, fun q => absurd h q, hB⟩
set_option maxHeartbeats 8000000 in
set_option maxRecDepth 100000 in
theorem sentenceWords_c (k l : Nat) (hk : 1 ≤ k ∧ k ≤ 7) (hl : 1 ≤ l ∧ l ≤ 4) (w : World) : Calls Tryd.prog 58 #[.int .i64 k, .int .i64 l] w (WordsPost k l w) := by
  go_enter Tryd.func58, Tryd.ntmps58
  go_upto_region 3 with (fail)
  go_cut [6, 8] (fun p q wx => p = .pointer (some ⟨w.heap.size + 4, 0, none⟩) ∧ q = .pointer (some ⟨w.heap.size + 8, 0, none⟩) ∧ Hid (WordsAt w wx (w.heap.size + 4) (w.heap.size + 8)))
  case first =>
    go_wp2_with fail
    go_meet
    exact ⟨rfl, rfl, Lib.hid (words_at _ rfl _ _ _ _ _ _ _ _ _ _ _ _ rfl rfl rfl rfl rfl rfl rfl rfl rfl rfl rfl rfl)⟩
  case rest =>
    obtain ⟨rfl, rfl, HW⟩ := hcut
    have hk7 : k = 2 ∨ k = 4 ∨ k = 7 ∨ (k = 1 ∨ k = 3 ∨ k = 5 ∨ k = 6) := by omega
    rcases hk7 with rfl | rfl | rfl | hk7
    · obtain ⟨g, hc, hb⟩ := HW.out.ch l hl.1 hl.2
      have HL := Lib.hid (wordB_len (k := 2) hl)
      have HBK := Lib.hid hb
      have hl4 : l = 1 ∨ l = 2 ∨ l = 3 ∨ l = 4 := by omega
      clear hb
      rcases hl4 with rfl | rfl | rfl | rfl
      all_goals
        simp only [Nat.reduceSub] at hc
        go_upto_region 6 with (fail)
        refine wp_region_quiet_lit (by kernel_rfl) (by kernel_rfl) ?_
        repeat (first | go_big_quiet_step (fail) | quiet_step (fail))
        refine wpQuiet_nil ?_
        intro _ hw'
        obtain ⟨nq, hw''⟩ := hw'
        subst hw''
        go_wp2
        go_ret2
        exact words_done (HBK.out.drewN _) rfl rfl (by omega) (below_drewN HW.out.bel _)
    · obtain ⟨g, hc, hb⟩ := HW.out.dr l hl.1 hl.2
      have HL := Lib.hid (wordB_len (k := 4) hl)
      have HBK := Lib.hid hb
      have hl4 : l = 1 ∨ l = 2 ∨ l = 3 ∨ l = 4 := by omega
      clear hb
      rcases hl4 with rfl | rfl | rfl | rfl
      all_goals
        simp only [Nat.reduceSub] at hc
        go_upto_region 9 with (fail)
        refine wp_region_quiet_lit (by kernel_rfl) (by kernel_rfl) ?_
        repeat (first | go_big_quiet_step (fail) | quiet_step (fail))
        refine wpQuiet_nil ?_
        intro _ hw'
        obtain ⟨nq, hw''⟩ := hw'
        subst hw''
        go_wp2
        go_ret2
        exact words_done (HBK.out.drewN _) rfl rfl (by omega) (below_drewN HW.out.bel _)
    · obtain ⟨g, hc, hb⟩ := HW.out.dr l hl.1 hl.2
      have HL := Lib.hid (wordB_len (k := 7) hl)
      have HBK := Lib.hid hb
      have hl4 : l = 1 ∨ l = 2 ∨ l = 3 ∨ l = 4 := by omega
      clear hb
      rcases hl4 with rfl | rfl | rfl | rfl
      all_goals
        simp only [Nat.reduceSub] at hc
        go_upto_region 9 with (fail)
        refine wp_region_quiet_lit (by kernel_rfl) (by kernel_rfl) ?_
        repeat (first | go_big_quiet_step (fail) | quiet_step (fail))
        refine wpQuiet_nil ?_
        intro _ hw'
        obtain ⟨nq, hw''⟩ := hw'
        subst hw''
        go_wp2
        go_ret2
        exact words_done (HBK.out.drewN _) rfl rfl (by omega) (below_drewN HW.out.bel _)
    · have hw0 : wordB k l = [] := by
        have hl4 : l = 1 ∨ l = 2 ∨ l = 3 ∨ l = 4 := by omega
        rcases hk7 with rfl | rfl | rfl | rfl <;> rcases hl4 with rfl | rfl | rfl | rfl <;> rfl
      have HW0 := Lib.hid hw0
      clear hw0
      rcases hk7 with rfl | rfl | rfl | rfl
      all_goals
        go_wp2
        go_ret2
        exact words_none HW0.out rfl HW.out.bel
end Go.Proofs.YthbnliepgjjbdaaDoor
