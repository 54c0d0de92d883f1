/- Jumps between regions: plain facts. -/
import Derived.Test.YtihjlmlhipngmaaRgN
import Derived.Test.YtihjlmlhipngmaaRow
import Derived.Test.YtihjlmlhipngmaaNum
namespace Go.Proofs.Ytihjlmlhipngmaa
open Go.ChangeShapes Go.WideShapes Go.ChangeAt Go.RowKit
set_option linter.unusedVariables false
theorem ba_ext {a b : ByteArray} (h : a.toList = b.toList) : a = b := by
  rw [ByteArray.toList_eq, ByteArray.toList_eq] at h
  exact ByteArray.ext (Array.toList_inj.1 h)
def jOk (ds : List Dat) (least : Int) (i k : Nat) : Bool := decide (i < k) && decide (least ≤ absI (dLv ds i - dLv ds k))
def jIn (ds : List Dat) (least : Int) (i : Nat) (ks : List Nat) : List (List ByteArray) := (ks.filter (jOk ds least i)).map fun k => [dId ds i, dId ds k]
theorem jIn_snoc (ds : List Dat) (least : Int) (i : Nat) (ks : List Nat) (k : Nat) : jIn ds least i (ks ++ [k]) = jIn ds least i ks ++ if jOk ds least i k then [[dId ds i, dId ds k]] else [] := by
  unfold jIn
  rw [List.filter_append, List.map_append]
  by_cases h : jOk ds least i k = true <;> simp [h]
def jTo (ds : List Dat) (least : Int) (m : Nat) : List (List ByteArray) := (List.range m).flatMap fun i => jIn ds least i (nbs ds i ds.length)
theorem jTo_succ (ds : List Dat) (least : Int) (m : Nat) : jTo ds least (m + 1) = jTo ds least m ++ jIn ds least m (nbs ds m ds.length) := by simp [jTo, List.range_succ, List.flatMap_append]
def jumpsV (ds : List Dat) (least : Int) : List (List ByteArray) × Int := if validD ds = false then ([], 1) else if inB least 0 4 = false then ([], 2) else (jTo ds least ds.length, 0)
theorem jIn_low (ds : List Dat) (least : Int) (i : Nat) : jIn ds least i (nbs ds i (i + 1)) = [] := by
  unfold jIn
  rw [List.map_eq_nil_iff, List.filter_eq_nil_iff]
  intro k hk
  unfold nbs at hk
  rw [List.mem_filter, List.mem_range] at hk
  unfold jOk
  rw [decide_eq_false (by omega)]; simp
theorem jIn_step (ds : List Dat) (least : Int) (i k : Nat) : jIn ds least i (nbs ds i (k + 1)) = jIn ds least i (nbs ds i k) ++ if isNb ds i k && jOk ds least i k then [[dId ds i, dId ds k]] else [] := by
  rw [nbs_succ]
  by_cases h : isNb ds i k = true
  · rw [if_pos h, jIn_snoc, h]; simp
  · rw [if_neg h]
    have : isNb ds i k = false := by simpa using h
    rw [this]; simp
theorem jIn_take {ds : List Dat} (least : Int) {i j a : Nat} (h : (nbs ds i ds.length)[j]? = some a) : jIn ds least i ((nbs ds i ds.length).take (j + 1)) = jIn ds least i ((nbs ds i ds.length).take j) ++ if jOk ds least i a then [[dId ds i, dId ds a]] else [] := by
  rw [List.take_add_one, h]; exact jIn_snoc ds least i _ a
theorem jIn_len (ds : List Dat) (least : Int) (i : Nat) (ks : List Nat) : (jIn ds least i ks).length ≤ ks.length := by
  unfold jIn; rw [List.length_map]; exact List.length_filter_le _ _
theorem nbs_len (ds : List Dat) (i m : Nat) : (nbs ds i m).length ≤ m := by
  unfold nbs; have := List.length_filter_le (isNb ds i) (List.range m); rw [List.length_range] at this; exact this
theorem jTo_len (ds : List Dat) (least : Int) : ∀ m, (jTo ds least m).length ≤ m * ds.length
  | 0 => by simp [jTo]
  | m + 1 => by
    have h1 := jTo_len ds least m
    have h2 := jIn_len ds least m (nbs ds m ds.length)
    have h3 := nbs_len ds m ds.length
    rw [jTo_succ, List.length_append, Nat.add_mul]; omega
theorem jumps_two {ds : List Dat} {least : Int} {m : Nat} {p : List ByteArray} (h : p ∈ jTo ds least m) : p.length = 2 := by
  unfold jTo at h
  obtain ⟨i, _, hi⟩ := List.mem_flatMap.1 h
  unfold jIn at hi
  obtain ⟨k, _, rfl⟩ := List.mem_map.1 hi
  rfl
/-- the other name is the greater one where its region stands behind -/
theorem name_gt {rs : List Rg} (h : validR rs = true) {i a : Nat} {x : Rg} {s : ByteArray} (hx : rs[i]? = some x) (ha : a < rs.length) (hs : (idAt rs a).toList = s.toList) : ltS x.id s = decide (i < a) := by
  have hi := (List.getElem?_eq_some_iff.1 hx).1
  rw [← idAt_get hx, ← ltS_congr (show (idAt rs i).toList = (idAt rs i).toList from rfl) hs, Bool.eq_iff_iff, decide_eq_true_iff]
  exact valid_lt_iff h hi ha
/-- a row of two texts pushed to a row of rows: steps -/
structure PairsSt (w0 wr : World) (v : Value) (cn : Nat) (ps : List (List ByteArray)) (l : List GRow) : Prop where
  g : OwnG 47 9 wr w0.heap.size wr.heap.size v cn l
  dat : l.map GRow.xs = ps.map strs
  two : ∀ x ∈ l, x.n = 2
  bel : Below w0.heap.size w0 wr
section
variable {w0 wr : World} {v : Value} {cn : Nat} {ps : List (List ByteArray)} {l : List GRow}
theorem PairsSt.below {w1 : World} (h : PairsSt w0 wr v cn ps l) (hb : Below wr.heap.size wr w1) : PairsSt w0 w1 v cn ps l := by
  have := hb.size
  have := h.bel.size
  exact ⟨(h.g.below hb (Nat.le_refl _)).widen (Nat.le_refl _) (by omega), h.dat, h.two, h.bel.trans (hb.mono (by omega))⟩
theorem PairsSt.push {X w2 : World} {v2 : Value} {a b : ByteArray} (h : PairsSt w0 wr v cn ps l) (hX : Below (wr.heap.size + 1) (wr.alloc (.cells #[.string a, .string b] 9)) X)
    (ho2 : w2.ownsRow w0.heap.size 47 1 v2 (cn + 1) (gcs l ++ [.slice (some ⟨wr.heap.size, 0, none⟩) 2 2])) (hg : X.grownBy w2 v.ownBlock) :
    PairsSt w0 w2 v2 (cn + 1) (ps ++ [[a, b]]) (l ++ [⟨some ⟨wr.heap.size, 0, none⟩, 2, 2, strs [a, b]⟩]) := by
  have hbw := h.bel.size
  have hb1 : Below wr.heap.size wr (wr.alloc (.cells #[.string a, .string b] 9)) := (Below.refl _ _).alloc (Nat.le_refl _) _
  have h1 := h.below hb1
  have hsz : (wr.alloc (.cells #[.string a, .string b] 9)).heap.size = wr.heap.size + 1 := by simp
  have hown : Own (wr.alloc (.cells #[.string a, .string b] 9)) wr.heap.size (wr.heap.size + 1) 9 1 (.slice (some ⟨wr.heap.size, 0, none⟩) 2 2) 2 (strs [a, b]) :=
    Own.of_blk (lo := wr.heap.size) (hi := wr.heap.size + 1) (n := 2) (s := 1) (Blk.new wr 9 #[.string a, .string b]) rfl (Nat.le_refl _) (Nat.lt_succ_self _) (by simp [maxLen])
  have hp := h1.g.push (TR := 47) (TE := 9) (ys := strs [a, b]) (by decide) (hown.widen (by omega) (by rw [hsz]; exact Nat.le_refl _)) (fun x hx q hq => by
    have h7 := (h.g.inn x hx).blk_bd hq
    intro e
    simp [Value.ownBlock] at e
    omega) (by rw [hsz]; exact hX) ho2 hg
  refine ⟨hp, by rw [List.map_append, List.map_append, h.dat]; rfl, ?_, ?_⟩
  · intro x hx
    rcases List.mem_append.1 hx with h2 | h2
    · exact h.two x h2
    · simp at h2; rw [h2]
  · have hXr : Own X w0.heap.size (wr.heap.size + 1) 47 1 v cn (gcs l) := (h1.g.row.below hX (by rw [hsz]; exact Nat.le_refl _)).widen (Nat.le_refl _) (by rw [hsz]; exact Nat.le_refl _)
    have hXs := hX.size
    have b2 : Below w0.heap.size X w2 := (Below.refl _ _).grown hg (by rw [hsz] at hXs; omega) (fun q hq => (hXr.blk_bd hq).1)
    exact ((h1.bel).trans (hX.mono (by omega))).trans b2
end
end Go.Proofs.Ytihjlmlhipngmaa
