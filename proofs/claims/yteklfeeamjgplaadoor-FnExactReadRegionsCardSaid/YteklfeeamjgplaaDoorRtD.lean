/- The text of regions, piece by piece (plain). -/
import Derived.Test.YteklfeeamjgplaaDoorRtA
namespace Go.Proofs.YteklfeeamjgplaaDoor
open Go.ChangeShapes Go.WideShapes Go.ChangeAt Go.RowKit
set_option linter.unusedVariables false
theorem ba_ext {a b : ByteArray} (h : a.data.toList = b.data.toList) : a = b := by
  obtain ⟨⟨a⟩⟩ := a
  obtain ⟨⟨b⟩⟩ := b
  simp at h
  rw [h]
theorem ba_app (a b : ByteArray) : (a ++ b).data.toList = a.data.toList ++ b.data.toList := by
  rw [ByteArray.data_append, Array.toList_append]
def outK (ds : List Dat) (k : Nat) : ByteArray := rgT (ds.take k)
def regK (d : Dat) (j : Nat) : ByteArray := ⟨(Lib.join (tlZ (d.1 :: decZ d.2.1 :: d.2.2.take j)) [32]).toArray⟩
theorem tlZ_app (P Q : List ByteArray) : tlZ (P ++ Q) = tlZ P ++ tlZ Q := by simp [tlZ]
theorem regK_zero (d : Dat) : regK d 0 = (d.1 ++ ⟨#[32]⟩) ++ decZ d.2.1 := by
  apply ba_ext
  rw [ba_app, ba_app]
  show Lib.join [d.1.data.toList, (decZ d.2.1).data.toList] [32] = _
  rw [join_two, Lib.join_one, List.append_assoc]; rfl
theorem regK_succ {d : Dat} {j : Nat} {m : ByteArray} (h : d.2.2[j]? = some m) : regK d (j + 1) = regK d j ++ (⟨#[32]⟩ ++ m) := by
  apply ba_ext
  rw [ba_app, ba_app]
  show Lib.join (tlZ (d.1 :: decZ d.2.1 :: d.2.2.take (j + 1))) [32] = Lib.join (tlZ (d.1 :: decZ d.2.1 :: d.2.2.take j)) [32] ++ ([32] ++ m.data.toList)
  have e : d.1 :: decZ d.2.1 :: d.2.2.take (j + 1) = (d.1 :: decZ d.2.1 :: d.2.2.take j) ++ [m] := by rw [List.take_add_one, h]; rfl
  rw [e, tlZ_app]
  exact join_snoc 32 _ _ (by simp [tlZ])
theorem regK_all (d : Dat) : regK d d.2.2.length = regT d := by unfold regK regT wordsD; rw [List.take_length]
def preK (ds : List Dat) (k : Nat) : ByteArray := if k = 0 then ⟨#[]⟩ else outK ds k ++ ⟨#[47]⟩
theorem outK_succ {ds : List Dat} {k : Nat} {d : Dat} (h : ds[k]? = some d) : outK ds (k + 1) = preK ds k ++ regT d := by
  have e : ds.take (k + 1) = ds.take k ++ [d] := by rw [List.take_add_one, h]; rfl
  apply ba_ext
  rw [ba_app]
  show Lib.join (tlZ ((ds.take (k + 1)).map regT)) [47] = _
  rw [e, List.map_append, tlZ_app]
  unfold preK
  split
  · rename_i h0
    subst h0
    rw [List.take_zero]
    show Lib.join [(regT d).data.toList] [47] = _
    rw [Lib.join_one]; rfl
  · rename_i h0
    rw [ba_app]
    have hn : tlZ ((ds.take k).map regT) ≠ [] := by
      intro e2
      have h2 := congrArg List.length e2
      have h3 := (List.getElem?_eq_some_iff.1 h).1
      rw [show (tlZ ((ds.take k).map regT)).length = min k ds.length by simp [tlZ], List.length_nil] at h2
      omega
    show Lib.join (tlZ ((ds.take k).map regT) ++ [(regT d).data.toList]) [47] = _
    rw [join_snoc 47 _ _ hn, List.append_assoc]; rfl
theorem outK_all (ds : List Dat) : outK ds ds.length = rgT ds := by unfold outK; rw [List.take_length]
theorem outK_zero (ds : List Dat) : outK ds 0 = ⟨#[]⟩ := rfl
theorem regK_size {x : Rg} (hn : nameV x.id = true) (hl : 1 ≤ x.lv ∧ x.lv ≤ 5) (hm : ∀ m ∈ x.near, nameV m = true) (j : Nat) : (regK x.dat j).size ≤ 11 * (x.near.length + 2) := by
  have h := regT_size (x := ⟨x.id, x.lv, x.A, x.n, x.c, x.near.take j⟩) hn hl (fun m h => hm m (List.mem_of_mem_take h))
  have h2 : (x.near.take j).length ≤ x.near.length := by rw [List.length_take]; omega
  exact Nat.le_trans (show (regK x.dat j).size ≤ 11 * ((x.near.take j).length + 2) from h) (by omega)
theorem outK_size {rs : List Rg} {N : Nat} (h : ∀ x ∈ rs, nameV x.id = true ∧ (1 ≤ x.lv ∧ x.lv ≤ 5) ∧ ∀ m ∈ x.near, nameV m = true) (hN : ∀ x ∈ rs, x.near.length ≤ N) (k : Nat) : (outK (rs.map Rg.dat) k).size ≤ (11 * (N + 2) + 1) * k := by
  have h1 := join_bound 47 (11 * (N + 2)) (tlZ (((rs.map Rg.dat).take k).map regT)) (fun p hp => by
    unfold tlZ at hp
    obtain ⟨b, hb, rfl⟩ := List.mem_map.1 hp
    obtain ⟨d, hd, rfl⟩ := List.mem_map.1 hb
    obtain ⟨x, hx, rfl⟩ := List.mem_map.1 (List.mem_of_mem_take hd)
    rw [size_l]
    obtain ⟨a1, a2, a3⟩ := h x hx
    have := regT_size a1 a2 a3
    have := hN x hx
    omega)
  refine Nat.le_trans (show (outK (rs.map Rg.dat) k).size ≤ (11 * (N + 2) + 1) * (tlZ (((rs.map Rg.dat).take k).map regT)).length from h1) (Nat.mul_le_mul_left _ ?_)
  simp [tlZ, List.length_take]
  omega
end Go.Proofs.YteklfeeamjgplaaDoor
