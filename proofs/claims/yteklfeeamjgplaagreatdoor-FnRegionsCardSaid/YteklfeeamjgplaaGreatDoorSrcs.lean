/- XSrc, XSrc2, XOpenU: merged texts. -/
import Derived.Test.YteklfeeamjgplaaGreatDoorMio
import Derived.Test.YteklfeeamjgplaaGreatDoorOpen
/- The source of choices that the drawing functions read: each choice lies in its range; only the source itself turns. -/
namespace Go.Proofs.YteklfeeamjgplaaGreatDoor
open Go.ChangeShapes Go.WideShapes Go.ChangeAt Go.RowKit
set_option linter.unusedVariables false

def u8s (zs : List Int) : List Value := zs.map (Value.int .u8)
theorem u8s_get {zs : List Int} {k : Nat} {u : Value} (h : (u8s zs)[k]? = some u) : ∃ z, zs[k]? = some z ∧ u = .int .u8 z := by
  simp only [u8s, List.getElem?_map, Option.map_eq_some_iff] at h
  obtain ⟨z, hz, rfl⟩ := h
  exact ⟨z, hz, rfl⟩
def Bytes (w : World) (B : Nat) (A : Option Addr) (n : Nat) (zs : List Int) : Prop := Reads w B 1 A n (u8s zs) ∧ ∀ z ∈ zs, 0 ≤ z ∧ z ≤ 255
theorem Bytes.byte {w : World} {B n k : Nat} {A : Option Addr} {zs : List Int} (h : Bytes w B A n zs) (hk : k < n) :
    ∃ ad z, A = some ad ∧ ad.block < B ∧ zs[k]? = some z ∧ w.cell? (ad.add k) = some (.int .u8 z) ∧ 0 ≤ z ∧ z ≤ 255 := by
  obtain ⟨ad, u, h1, h2, h3, h4⟩ := h.1.at_ hk
  obtain ⟨z, hz, rfl⟩ := u8s_get h3
  exact ⟨ad, z, h1, h2, hz, h4, h.2 z (List.mem_of_getElem? hz)⟩
theorem Bytes.below {w w' : World} {B n : Nat} {A : Option Addr} {zs : List Int} (h : Bytes w B A n zs) (hb : Below B w w') : Bytes w' B A n zs := ⟨h.1.below hb, h.2⟩
theorem Bytes.more {w : World} {B B' n : Nat} {A : Option Addr} {zs : List Int} (h : Bytes w B A n zs) (hb : B ≤ B') : Bytes w B' A n zs := ⟨h.1.more hb, h.2⟩

/-- Block g is a source of choices: its bytes lie below it; it has been asked at most M times. -/
def Src (w : World) (g M : Nat) : Prop :=
  ∃ (A : Option Addr) (n c : Nat) (zs : List Int) (at_ seed : Int), Blk w g 71 #[.slice A n c, .int .i64 at_, .int .u64 seed] ∧ Bytes w g A n zs ∧ 0 ≤ at_ ∧ at_ ≤ M ∧ n ≤ 1152921504606846976 ∧ 0 ≤ seed ∧ seed ≤ 18446744073709551615
theorem Src.below {w w' : World} {g M B : Nat} (h : Src w g M) (hb : Below B w w') (hg : g < B) : Src w' g M := by
  obtain ⟨A, n, c, zs, a, s, h1, h2, h3⟩ := h
  exact ⟨A, n, c, zs, a, s, h1.below hb hg, h2.below (hb.mono (by omega)), h3⟩
theorem Src.lt {w : World} {g M : Nat} (h : Src w g M) : g < w.heap.size := by
  obtain ⟨A, n, c, zs, a, s, h1, _⟩ := h
  exact h1.lt
theorem Src.more {w : World} {g M M' : Nat} (h : Src w g M) (hm : M ≤ M') : Src w g M' := by
  obtain ⟨A, n, c, zs, a, s, h1, h2, h3, h4, h5⟩ := h
  exact ⟨A, n, c, zs, a, s, h1, h2, h3, by omega, h5⟩
theorem Src.only {w w' : World} {g M lo hi : Nat} (h : Src w g M) (ho : Only lo hi w w') (hg : g < lo) : Src w' g M := by
  have hl := h.lt
  exact h.below (ho.below (B := g + 1) (by omega) (by omega)) (by omega)

theorem l00From_c (A : Option Addr) (n c : Nat) (zs : List Int) (w : World) (ha : Bytes w w.heap.size A n zs) (hn : n ≤ 1152921504606846976) :
    Calls Tryz.prog 19 #[.slice A n c] w fun e w' => e = .returned (.pointer (some ⟨w.heap.size, 0, none⟩)) ∧ Src w' w.heap.size 0 ∧ Below w.heap.size w w' ∧ w'.heap.size = w.heap.size + 1 := by
  have HA := Lib.hid ha; clear ha
  go_enter Tryz.func19, Tryz.ntmps19
  go_wp2
  go_ret
  exact ⟨rfl, ⟨A, n, c, zs, 0, 0, Blk.new _ _ _, HA.out.below ((Below.refl _ _).alloc (Nat.le_refl _) _), by omega, by omega, hn, by omega, by omega⟩, (Below.refl _ _).alloc (Nat.le_refl _) _, by simp⟩

theorem u64_lo (x : Int) : 0 ≤ IntKind.u64.wrap x := by rw [IntKind.wrap_u64]; omega
theorem u64_hi (x : Int) : IntKind.u64.wrap x ≤ 18446744073709551615 := by rw [IntKind.wrap_u64]; omega
theorem and255 (x : Int) : 0 ≤ bits .and .u64 x 255 ∧ bits .and .u64 x 255 ≤ 255 := by
  show 0 ≤ IntKind.u64.wrap ((BitVec.ofInt 64 x &&& BitVec.ofInt 64 255).toNat : Int) ∧ IntKind.u64.wrap ((BitVec.ofInt 64 x &&& BitVec.ofInt 64 255).toNat : Int) ≤ 255
  rw [BitVec.toNat_and, IntKind.wrap_u64]
  have h : (BitVec.ofInt 64 x).toNat &&& (BitVec.ofInt 64 255).toNat ≤ (BitVec.ofInt 64 255).toNat := Nat.and_le_right
  have h2 : (BitVec.ofInt 64 255).toNat = 255 := by decide
  rw [h2] at h ⊢
  omega
theorem and255_lo (x : Int) : 0 ≤ wrap64 (bits .and .u64 x 255) := by
  have := and255 x; rw [IntWalk.wrap64_in _ (by omega)]; omega
theorem and255_hi (x : Int) : wrap64 (bits .and .u64 x 255) ≤ 255 := by
  have := and255 x; rw [IntWalk.wrap64_in _ (by omega)]; omega
theorem only_src (w : World) (g q r : Nat) (u : Value) (v : Value) : Only g (g + 1) w ((((w.drewN q).setCell ⟨g, 1, none⟩ u).setCell ⟨g, 2, none⟩ v).drewN r) :=
  ⟨rfl, rfl, rfl, by simp, fun k hk hc => by
    show (((w.drewN q).setCell ⟨g, 1, none⟩ u).setCell ⟨g, 2, none⟩ v).heap[k]? = _
    rw [Below.heap_setCell _ _ _ _ (by rintro rfl; simp at hc; omega), Below.heap_setCell _ _ _ _ (by rintro rfl; simp at hc; omega)]; rfl⟩

def NextPost (w : World) (g M : Nat) (e : Ending) (w' : World) : Prop :=
  ∃ v : Int, e = .returned (.int .i64 v) ∧ 0 ≤ v ∧ v ≤ 255 ∧ Src w' g M ∧ Only g (g + 1) w w'

set_option maxHeartbeats 1000000 in
theorem next_c (g M : Nat) (w : World) (h : Src w g M) (hM : M ≤ 1000000000000000000) :
    Calls Tryz.prog 66 #[.pointer (some ⟨g, 0, none⟩)] w (NextPost w g (M + 1)) := by
  obtain ⟨A, n, c, zs, a, s, h1, h2, h3, h4, hn5, h6, h7⟩ := h
  have c0 : w.cell? ⟨g, 0, none⟩ = some (.slice A n c) := (h1.cell 0).trans rfl
  have c1 : w.cell? ⟨g, 1, none⟩ = some (.int .i64 a) := (h1.cell 1).trans rfl
  have c2 : w.cell? ⟨g, 2, none⟩ = some (.int .u64 s) := (h1.cell 2).trans rfl
  have f1 := h1.frozen 1
  have f2 := h1.frozen 2
  have H1 := Lib.hid h1; clear h1
  obtain ⟨k, rfl⟩ : ∃ k : Nat, a = k := ⟨a.toNat, by omega⟩
  by_cases hlt : k < n
  · obtain ⟨ad, z, rfl, hbl, _, hcz, hz0, hz1⟩ := h2.byte hlt
    have H2 := Lib.hid h2; clear h2
    have hlt' : (k : Int) < (n : Int) := by omega
    have hle' : (k : Int) + 1 ≤ (n : Int) := by omega
    go_enter Tryz.func66, Tryz.ntmps66
    go_wp2
    go_quiet (fail)
    go_wp2
    go_quiet (fail)
    go_wp2
    go_quiet (fail)
    go_wp2
    go_ret
    refine ⟨z, rfl, hz0, hz1, ⟨some ad, n, c, zs, k + 1, _, (H1.out.set_ 1 _).set_ 2 _, ?_, by omega, by omega, hn5, u64_lo _, u64_hi _⟩, ?_⟩
    · exact ⟨(((H2.out.1.drewN _).setCell (p := ⟨g, 1, none⟩) (Nat.le_refl _) _).setCell (p := ⟨g, 2, none⟩) (Nat.le_refl _) _), H2.out.2⟩
    · exact only_src _ _ _ _ _ _
  · have H2 := Lib.hid h2; clear h2
    have hlt' : ¬ (k : Int) < (n : Int) := by omega
    have hle' : ¬ (k : Int) + 1 ≤ (n : Int) := by omega
    go_enter Tryz.func66, Tryz.ntmps66
    go_wp2
    go_quiet (fail)
    go_wp2
    go_quiet (fail)
    go_wp2
    go_ret
    refine ⟨_, rfl, and255_lo _, and255_hi _, ⟨A, n, c, zs, k + 1, _, (H1.out.set_ 1 _).set_ 2 _, ?_, by omega, by omega, hn5, u64_lo _, u64_hi _⟩, ?_⟩
    · exact ⟨(((H2.out.1.drewN _).setCell (p := ⟨g, 1, none⟩) (Nat.le_refl _) _).setCell (p := ⟨g, 2, none⟩) (Nat.le_refl _) _), H2.out.2⟩
    · exact (only_src _ _ _ _ _ _)

def PickPost (w : World) (g M : Nat) (n : Int) (e : Ending) (w' : World) : Prop :=
  ∃ v : Int, e = .returned (.int .i64 v) ∧ 0 ≤ v ∧ (v < n ∨ v = 0) ∧ Src w' g M ∧ Only g (g + 1) w w'

set_option maxHeartbeats 1000000 in
theorem pick_c (g M : Nat) (n : Int) (w : World) (h : Src w g M) (hM : M ≤ 500000000000000000) (hn : n ≤ 1000000000000) :
    Calls Tryz.prog 40 #[.pointer (some ⟨g, 0, none⟩), .int .i64 n] w (PickPost w g (M + 2) n) := by
  have HS := Lib.hid h; clear h
  by_cases h1 : n ≤ 1
  · go_enter Tryz.func40, Tryz.ntmps40
    go_wp2
    go_ret
    exact ⟨0, rfl, by omega, by omega, HS.out.more (by omega), Only.refl _ _ _⟩
  · by_cases h2 : 200 < n
    · go_enter Tryz.func40, Tryz.ntmps40
      go_wp2_with fail
      refine (next_c g M w HS.out (by omega)).mono ?_
      rintro e w1 ⟨v, rfl, hv0, hv1, S1, Y1⟩
      replace S1 := Lib.hid S1
      replace Y1 := Lib.hid Y1
      go_wp2_with fail
      refine (next_c g (M + 1) w1 S1.out (by omega)).mono ?_
      rintro e w2 ⟨u, rfl, hu0, hu1, S2, Y2⟩
      replace S2 := Lib.hid S2
      replace Y2 := Lib.hid Y2
      go_wp2
      go_ret
      refine ⟨_, rfl, Int.emod_nonneg _ (by omega), .inl (Int.emod_lt_of_pos _ (by omega)), S2.out, Y1.out.trans Y2.out⟩
    · go_enter Tryz.func40, Tryz.ntmps40
      go_wp2_with fail
      refine (next_c g M w HS.out (by omega)).mono ?_
      rintro e w1 ⟨v, rfl, hv0, hv1, S1, Y1⟩
      replace S1 := Lib.hid S1
      replace Y1 := Lib.hid Y1
      go_wp2
      go_ret
      refine ⟨_, rfl, Int.emod_nonneg _ (by omega), .inl (Int.emod_lt_of_pos _ (by omega)), S1.out.more (by omega), Y1.out⟩
end Go.Proofs.YteklfeeamjgplaaGreatDoor

/- More about the source of choices: what keeps it, among, blocks of the call's own. -/
namespace Go.Proofs.YteklfeeamjgplaaGreatDoor
open Go.ChangeShapes Go.WideShapes Go.ChangeAt Go.RowKit
set_option linter.unusedVariables false

theorem Only.alloc' {w w' : World} {lo hi : Nat} (h : Only lo hi w w') (o : Obj) : Only lo hi w (w'.alloc o) :=
  ⟨h.os, h.tape, h.output, Nat.le_trans h.size (by simp), fun k hk hc => (Below.heap_alloc w' o k (Nat.lt_of_lt_of_le hk h.size)).trans (h.block k hk hc)⟩
theorem Only.setNew {w w' : World} {lo hi : Nat} (h : Only lo hi w w') {p : Addr} (hp : w.heap.size ≤ p.block) (u : Value) : Only lo hi w (w'.setCell p u) :=
  ⟨h.os, h.tape, h.output, by simpa using h.size, fun k hk hc => (Below.heap_setCell w' p u k (by omega)).trans (h.block k hk hc)⟩
theorem Blk.only' {w w' : World} {g lo hi : Nat} {T : TypeId} {cs : Array Value} (h : Blk w g T cs) (ho : Only lo hi w w') (hd : g < lo ∨ hi ≤ g) : Blk w' g T cs := (ho.block g h.lt hd).trans h
theorem Src.alloc {w : World} {g M : Nat} (h : Src w g M) (o : Obj) : Src (w.alloc o) g M := h.below ((Below.refl _ _).alloc (Nat.le_refl _) o) h.lt
theorem Src.set {w : World} {g M : Nat} (h : Src w g M) {p : Addr} (hp : g < p.block) (u : Value) : Src (w.setCell p u) g M :=
  h.below ((Below.refl (g + 1) w).setCell (by omega) u) (by omega)
def AmongPost (w : World) (g M : Nat) (zs : List Int) (e : Ending) (w' : World) : Prop :=
  ∃ v : Int, e = .returned (.int .i64 v) ∧ v ∈ zs ∧ Src w' g M ∧ Only g (g + 1) w w'
theorem among_c (g gl M n : Nat) (zs : List Int) (w : World) (h : Src w g M) (hk : Blk w gl 2 (ints zs).toArray) (hne : gl ≠ g) (hl : zs.length = n) (hn : 0 < n) (hn2 : n ≤ 1000000000) (hM : M ≤ 500000000000000000) :
    Calls Tryz.prog 41 #[.pointer (some ⟨g, 0, none⟩), .slice (some ⟨gl, 0, none⟩) n n] w (AmongPost w g (M + 2) zs) := by
  have HS := Lib.hid h; clear h
  have HK := Lib.hid hk; clear hk
  have HL := Lib.hid hl; clear hl
  go_enter Tryz.func41, Tryz.ntmps41
  go_wp2_with fail
  refine (pick_c g M n w HS.out (by omega) (by omega)).mono ?_
  rintro e w1 ⟨v, rfl, hv0, hv1, S1, Y1⟩
  obtain ⟨j, rfl⟩ : ∃ j : Nat, v = j := ⟨v.toNat, by omega⟩
  have hj : j < n := by omega
  have K1 := HK.out.only' Y1 (by omega)
  have hz : zs[j]? = some (zs[j]'(by rw [HL.out]; omega)) := List.getElem?_eq_getElem _
  have c1 : w1.cell? ⟨gl, j, none⟩ = some (.int .i64 (zs[j]'(by rw [HL.out]; omega))) := (K1.cell j).trans (by simp [ints, hz])
  have hm : zs[j]'(by rw [HL.out]; omega) ∈ zs := List.getElem_mem _
  generalize zs[j]'(by rw [HL.out]; omega) = z at c1 hm
  have S1' := Lib.hid S1
  have Y1' := Lib.hid Y1
  clear S1 Y1 K1 hz hv1
  go_wp2
  go_ret
  exact ⟨z, rfl, hm, S1'.out, Y1'.out⟩
end Go.Proofs.YteklfeeamjgplaaGreatDoor

/- Opening an argument that is a slice of bytes. -/
namespace Go.Proofs.YteklfeeamjgplaaGreatDoor
open Go.ChangeShapes Go.WideShapes Go.ChangeAt Go.RowKit
set_option linter.unusedVariables false
theorem cells_u8 : Tryz.prog.cellsOf 5 = 1 := by kernel_rfl
section
variable {H : Type} {enc : TypeId × Value → H} {w : World} {base : Nat} {spare : Nat → Bool} {held : Bool}
set_option maxRecDepth 1000000 in
theorem open_u8s {v : Value} {d : DataW H} {p : List MemPlace} {r : Reach} {b0 : Nat} (hv : Value.okWide Tryz.prog w r b0 22 v) (h : DataW.Trod enc Tryz.prog w base spare held 22 v d p) :
    ∃ A n c zs, v = .slice A n c ∧ Bytes w w.heap.size A n zs ∧ n ≤ c ∧ c ≤ maxLen ∧ n ≤ 9223372036854775807 := by
  obtain ⟨a0, len, cap, rfl⟩ := okWide_slice Tryz.underlying22 hv
  obtain ⟨fuel, hf⟩ := h
  rcases open_ints Tryz.underlying22 Tryz.underlying5 cells_u8 hf with ⟨hcs, _⟩ | ⟨x, l, c, zs, hcs, _, hl, hm, hz, _, hcell, hwz⟩
  · simp [Value.cells] at hcs
    obtain ⟨rfl, rfl, rfl⟩ := hcs
    exact ⟨none, 0, 0, [], rfl, ⟨Reads.none_, by simp⟩, Nat.le_refl _, by simp [maxLen], by omega⟩
  · simp [Value.cells] at hcs
    obtain ⟨rfl, rfl, rfl⟩ := hcs
    have hzl : len ≤ zs.length := by rw [hz]; split <;> omega
    refine ⟨some x, len, cap, zs.take len, rfl, ⟨⟨by simp [u8s]; omega, fun hn => ⟨x, rfl, ?_, fun j u hu => ?_⟩⟩, fun z hzm => ?_⟩, hl, hm, by unfold maxLen at hm; omega⟩
    · have := World.block_lt_of_cell? _ _ (hcell 0 (by omega))
      rwa [block_of_add] at this
    · obtain ⟨z, hzj, rfl⟩ := u8s_get hu
      have hj : j < len := by
        have := (List.getElem?_eq_some_iff.1 hzj).1
        simp at this; omega
      rw [hcell j (by omega)]
      rw [List.getElem?_take, if_pos hj] at hzj
      simp [hzj]
    · have := hwz z (List.mem_of_mem_take hzm)
      have h1 : IntKind.u8.min = 0 := by rfl
      have h2 : IntKind.u8.max = 255 := by rfl
      simp [Lit.wf] at this
      omega
end
end Go.Proofs.YteklfeeamjgplaaGreatDoor
