/- Regions read from a text, by the reference. -/
import Derived.Test.YteklfeeamjgplaaGreatDoorRtF
import Derived.Test.YteklfeeamjgplaaGreatDoorRtG
import Derived.Lib.SplitLaws
namespace Go.Proofs.YteklfeeamjgplaaGreatDoor
open Go.ChangeShapes Go.WideShapes Go.ChangeAt Go.RowKit
set_option linter.unusedVariables false
theorem splitB_all (s : ByteArray) (c : UInt8) : Lib.splitB ⟨#[c]⟩ 0 (Lib.countB s ⟨#[c]⟩) s = splitS s c := by
  have hcn : Lib.countB s ⟨#[c]⟩ = s.data.toList.count c := Lib.count_one c s.data.toList
  have htl : tlZ (Lib.splitB ⟨#[c]⟩ 0 (Lib.countB s ⟨#[c]⟩) s) = Lib.splitK [c] 0 (Lib.countB s ⟨#[c]⟩) s.data.toList := Lib.splitB_data ⟨#[c]⟩ 0 _ s
  obtain ⟨g1, g2⟩ := splitK_join c (Lib.countB s ⟨#[c]⟩) s.data.toList
  obtain ⟨h1, h2, h3⟩ := splitS_ok s c
  rcases splitK_no c (Lib.countB s ⟨#[c]⟩) s.data.toList with h | h
  · rw [← htl] at g1 g2 h
    exact tlZ_inj (join_uniq g1 h1 h h2 (by rw [g2, h3]))
  · omega
theorem split_count (s : ByteArray) (c : UInt8) : Lib.countB s ⟨#[c]⟩ + 1 = (splitS s c).length := by
  have hcn : Lib.countB s ⟨#[c]⟩ = s.data.toList.count c := Lib.count_one c s.data.toList
  obtain ⟨h1, h2, h3⟩ := splitS_ok s c
  have hln : (tlZ (splitS s c)).length = (splitS s c).length := by simp [tlZ]
  rcases count_join h2 with h | h
  · rw [h3] at h; omega
  · exact absurd h h1
theorem join_mem_le (c : UInt8) : ∀ (P : List (List UInt8)) (p : List UInt8), p ∈ P → p.length ≤ (Lib.join P [c]).length
  | [], p, h => by cases h
  | [x], p, h => by rw [Lib.join_one]; rw [List.mem_singleton] at h; rw [h]; exact Nat.le_refl _
  | x :: y :: r, p, h => by
    rw [join_two, List.length_append, List.length_cons]
    rcases List.mem_cons.1 h with h | h
    · rw [h]; omega
    · have := join_mem_le c (y :: r) p h; omega
theorem part_size {s p : ByteArray} {c : UInt8} (h : p ∈ splitS s c) : p.size ≤ s.size := by
  have h1 := join_mem_le c (tlZ (splitS s c)) p.data.toList (List.mem_map.2 ⟨p, h, rfl⟩)
  rw [(splitS_ok s c).2.2, size_l, size_l] at h1
  exact h1
theorem part9_size {s p : ByteArray} (h : p ∈ parts9 s) : p.size ≤ s.size := by
  have htl : tlZ (parts9 s) = Lib.splitK [47] 0 (min 9 (s.size + 1) - 1) s.data.toList := Lib.splitB_data ⟨#[47]⟩ 0 _ s
  have h1 := join_mem_le 47 (tlZ (parts9 s)) p.data.toList (List.mem_map.2 ⟨p, h, rfl⟩)
  rw [htl, (splitK_join 47 _ s.data.toList).2, size_l, size_l] at h1
  exact h1
theorem split_len (s : ByteArray) (c : UInt8) : (splitS s c).length ≤ s.size + 1 := by
  unfold splitS
  rw [List.length_append]
  have := spB_len s c s.size
  simp; omega
theorem keepGAD {r : Option Nat} {wr W : World} {S : World → Prop} {o : Obj} (hS : ∀ W', wr.grownBy W' r → S W') (h : wr.grownBy W r) : wr.grownBy (W.alloc o).drew r ∧ S (W.alloc o).drew := ⟨only_drew (only_alloc h o), hS _ (only_drew (only_alloc h o))⟩
/-- what has been read so far -/
structure RdSt (w0 wr : World) (o : Value) (k : Nat) (P : List ByteArray) (rs ds : List Rg) : Prop where
  po : PartOw w0 wr o k rs ds
  len : rs.length = k
  pd : PartsD (P.take k) (rs.map Rg.dat)
  fit : ∀ x ∈ rs, x.n ≤ 1048576 ∧ x.near.length = x.n
theorem RdSt.next {w0 wr wa X w2 : World} {k d m : Nat} {v v2 : Value} {D : Option Addr} {rs ds : List Rg} {P : List ByteArray} {p id : ByteArray} {lv : Int} {near : List ByteArray} (h : RdSt w0 wr v k P rs ds) (hp : P[k]? = some p) (hd : PartD p (id, lv, near)) (hm : near.length = m) (hm2 : m ≤ 1048576)
    (hb : Below wr.heap.size wr wa) (ho : Own wa wr.heap.size wa.heap.size 9 1 (.slice D m d) m (strs near)) (hX : Below wa.heap.size wa X) (ho2 : w2.ownsRow w0.heap.size 37 3 v2 (k + 1) (rgs ds ++ [.string id, .int .i64 lv, .slice D m d])) (hg : X.grownBy w2 v.ownBlock) :
    RdSt w0 w2 v2 (k + 1) P (rs ++ [⟨id, lv, none, m, 0, near⟩]) (ds ++ [⟨id, lv, D, m, d, near⟩]) := by
  have h0 : PartOw w0 wr v k (rs ++ [⟨id, lv, none, m, 0, near⟩]) ds := ⟨h.po.row, h.po.len, by rw [List.take_append_of_le_length (by rw [h.len]; exact Nat.le_refl _)]; exact h.po.dat, h.po.inn, h.po.pw, h.po.bel⟩
  have hx : (rs ++ [⟨id, lv, none, m, 0, near⟩])[k]? = some ⟨id, lv, none, m, 0, near⟩ := by rw [← h.len]; simp
  refine ⟨h0.step hx hb ho hX ho2 hg, by simp [h.len], ?_, ?_⟩
  · rw [List.take_add_one, hp, List.map_append]
    exact h.pd.snoc hd
  · intro x hx
    rcases List.mem_append.1 hx with hx | hx
    · exact h.fit x hx
    · rw [List.mem_singleton] at hx; subst hx; exact ⟨hm2, hm⟩
theorem RdSt.all {w0 wr : World} {n c : Nat} {A : Option Addr} {rs ds : List Rg} {P : List ByteArray} (h : RdSt w0 wr (.slice A n c) n P rs ds) (hl : P.length = n) : OwnRegs wr w0.heap.size wr.heap.size (.slice A n c) n ds ∧ PartsD P (ds.map Rg.dat) ∧ ∀ x ∈ ds, x.n ≤ 1048576 := by
  obtain ⟨h1, h2⟩ := h.po.done h.len
  have h3 := h.pd
  rw [List.take_of_length_le (by omega)] at h3
  refine ⟨h1, by rw [h2]; exact h3, fun x hx => ?_⟩
  obtain ⟨y, hy, e2⟩ := dat_mem h2 hx
  have g1 : x.near.length = x.n := (Own.reads (h1.inn x hx)).strLen
  obtain ⟨g2, g3⟩ := h.fit y hy
  have g4 : y.near = x.near := congrArg (fun q => q.2.2) e2
  rw [g4] at g3
  omega
def RRPost (v : List Dat × Bool) (w : World) (e : Ending) (w' : World) : Prop :=
  ∃ A n c rs, e = .returned (.tuple #[.slice A n c, .bool v.2]) ∧ OwnRegs w' w.heap.size w'.heap.size (.slice A n c) n rs ∧ rs.map Rg.dat = v.1 ∧ n ≤ 1048576 ∧ (∀ x ∈ rs, x.n ≤ 1048576) ∧ Below w.heap.size w w'
theorem RRPost.nil {v : List Dat × Bool} {b : Bool} {w w' : World} (hv : v = ([], b)) (hb : Below w.heap.size w w') : RRPost v w (.returned (.tuple #[.slice none 0 0, .bool b])) w' := by
  subst hv
  exact ⟨none, 0, 0, [], rfl, ⟨Own.nil, fun x hx => by simp at hx, fun x hx => by simp at hx, List.Pairwise.nil⟩, rfl, by simp, fun x hx => by simp at hx, hb⟩
theorem two_words {p : ByteArray} {d : Dat} (h : splitS p 32 = wordsD d) : 2 ≤ (splitS p 32).length := by rw [h]; simp [wordsD]
theorem l18Ok_e (A : Option Addr) (n c BA : Nat) (rs : List Rg) (w : World) (ha : Regs w BA A n rs) (hx : ∀ x ∈ rs, x.n ≤ 1048576) (hn : n ≤ 2000000) :
    Calls Tryz.prog 38 #[.slice A n c] w fun e w' => e = .returned (.bool (validD (rs.map Rg.dat))) ∧ Below w.heap.size w w' := by
  by_cases h8 : n ≤ 8
  · exact l18Ok_d A n c BA rs w ha hx (by omega)
  · have hl := ha.len
    have HV : Hid (validD (rs.map Rg.dat) = false) := Lib.hid (by
      cases h : validD (rs.map Rg.dat)
      · rfl
      · have := validD_len h; omega)
    have h8' : (8 : Int) < (n : Int) := by omega
    clear ha hx hl
    go_enter Tryz.func38, Tryz.ntmps38
    go_wp2
    go_ret
    exact ⟨by rw [HV.out]; rfl, Below.refl _ _⟩
end Go.Proofs.YteklfeeamjgplaaGreatDoor
