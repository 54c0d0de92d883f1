/- XSrc, XSrc2, XR8a, XOpenU: merged texts. -/
import Derived.Test.YthbnliepgjjbdaaGreatDoorMio
import Derived.Test.YthbnliepgjjbdaaGreatDoorOpen
/- The source of choices that the drawing functions read: each choice lies in its range; only the source itself turns. -/
namespace Go.Proofs.YthbnliepgjjbdaaGreatDoor
open Go.ChangeShapes Go.WideShapes Go.ChangeAt Go.RowKit
set_option linter.unusedVariables false

def u8s (zs : List Int) : List Value := zs.map (Value.int .u8)
theorem u8s_get {zs : List Int} {k : Nat} {u : Value} (h : (u8s zs)[k]? = some u) : ∃ z, zs[k]? = some z ∧ u = .int .u8 z := by
  simp only [u8s, List.getElem?_map, Option.map_eq_some_iff] at h
  obtain ⟨z, hz, rfl⟩ := h
  exact ⟨z, hz, rfl⟩
def Bytes (w : World) (B : Nat) (A : Option Addr) (n : Nat) (zs : List Int) : Prop := Reads w B 1 A n (u8s zs) ∧ ∀ z ∈ zs, 0 ≤ z ∧ z ≤ 255
theorem Bytes.byte {w : World} {B n k : Nat} {A : Option Addr} {zs : List Int} (h : Bytes w B A n zs) (hk : k < n) :
    ∃ ad z, A = some ad ∧ ad.block < B ∧ zs[k]? = some z ∧ w.cell? (ad.add k) = some (.int .u8 z) ∧ 0 ≤ z ∧ z ≤ 255 := by
  obtain ⟨ad, u, h1, h2, h3, h4⟩ := h.1.at_ hk
  obtain ⟨z, hz, rfl⟩ := u8s_get h3
  exact ⟨ad, z, h1, h2, hz, h4, h.2 z (List.mem_of_getElem? hz)⟩
theorem Bytes.below {w w' : World} {B n : Nat} {A : Option Addr} {zs : List Int} (h : Bytes w B A n zs) (hb : Below B w w') : Bytes w' B A n zs := ⟨h.1.below hb, h.2⟩
theorem Bytes.more {w : World} {B B' n : Nat} {A : Option Addr} {zs : List Int} (h : Bytes w B A n zs) (hb : B ≤ B') : Bytes w B' A n zs := ⟨h.1.more hb, h.2⟩

/-- Block g is a source of choices: its bytes lie below it; it has been asked at most M times. -/
def Src (w : World) (g M : Nat) : Prop :=
  ∃ (A : Option Addr) (n c : Nat) (zs : List Int) (at_ seed : Int), Blk w g 58 #[.slice A n c, .int .i64 at_, .int .u64 seed] ∧ Bytes w g A n zs ∧ 0 ≤ at_ ∧ at_ ≤ M ∧ n ≤ 1152921504606846976 ∧ 0 ≤ seed ∧ seed ≤ 18446744073709551615
theorem Src.below {w w' : World} {g M B : Nat} (h : Src w g M) (hb : Below B w w') (hg : g < B) : Src w' g M := by
  obtain ⟨A, n, c, zs, a, s, h1, h2, h3⟩ := h
  exact ⟨A, n, c, zs, a, s, h1.below hb hg, h2.below (hb.mono (by omega)), h3⟩
theorem Src.lt {w : World} {g M : Nat} (h : Src w g M) : g < w.heap.size := by
  obtain ⟨A, n, c, zs, a, s, h1, _⟩ := h
  exact h1.lt
theorem Src.more {w : World} {g M M' : Nat} (h : Src w g M) (hm : M ≤ M') : Src w g M' := by
  obtain ⟨A, n, c, zs, a, s, h1, h2, h3, h4, h5⟩ := h
  exact ⟨A, n, c, zs, a, s, h1, h2, h3, by omega, h5⟩
theorem Src.only {w w' : World} {g M lo hi : Nat} (h : Src w g M) (ho : Only lo hi w w') (hg : g < lo) : Src w' g M := by
  have hl := h.lt
  exact h.below (ho.below (B := g + 1) (by omega) (by omega)) (by omega)

theorem l00From_c (A : Option Addr) (n c : Nat) (zs : List Int) (w : World) (ha : Bytes w w.heap.size A n zs) (hn : n ≤ 1152921504606846976) :
    Calls Tryz.prog 21 #[.slice A n c] w fun e w' => e = .returned (.pointer (some ⟨w.heap.size, 0, none⟩)) ∧ Src w' w.heap.size 0 ∧ Below w.heap.size w w' ∧ w'.heap.size = w.heap.size + 1 := by
  have HA := Lib.hid ha; clear ha
  go_enter Tryz.func21, Tryz.ntmps21
  go_wp2
  go_ret
  exact ⟨rfl, ⟨A, n, c, zs, 0, 0, Blk.new _ _ _, HA.out.below ((Below.refl _ _).alloc (Nat.le_refl _) _), by omega, by omega, hn, by omega, by omega⟩, (Below.refl _ _).alloc (Nat.le_refl _) _, by simp⟩

theorem u64_lo (x : Int) : 0 ≤ IntKind.u64.wrap x := by rw [IntKind.wrap_u64]; omega
theorem u64_hi (x : Int) : IntKind.u64.wrap x ≤ 18446744073709551615 := by rw [IntKind.wrap_u64]; omega
theorem and255 (x : Int) : 0 ≤ bits .and .u64 x 255 ∧ bits .and .u64 x 255 ≤ 255 := by
  show 0 ≤ IntKind.u64.wrap ((BitVec.ofInt 64 x &&& BitVec.ofInt 64 255).toNat : Int) ∧ IntKind.u64.wrap ((BitVec.ofInt 64 x &&& BitVec.ofInt 64 255).toNat : Int) ≤ 255
  rw [BitVec.toNat_and, IntKind.wrap_u64]
  have h : (BitVec.ofInt 64 x).toNat &&& (BitVec.ofInt 64 255).toNat ≤ (BitVec.ofInt 64 255).toNat := Nat.and_le_right
  have h2 : (BitVec.ofInt 64 255).toNat = 255 := by decide
  rw [h2] at h ⊢
  omega
theorem and255_lo (x : Int) : 0 ≤ wrap64 (bits .and .u64 x 255) := by
  have := and255 x; rw [IntWalk.wrap64_in _ (by omega)]; omega
theorem and255_hi (x : Int) : wrap64 (bits .and .u64 x 255) ≤ 255 := by
  have := and255 x; rw [IntWalk.wrap64_in _ (by omega)]; omega
theorem only_src (w : World) (g q r : Nat) (u : Value) (v : Value) : Only g (g + 1) w ((((w.drewN q).setCell ⟨g, 1, none⟩ u).setCell ⟨g, 2, none⟩ v).drewN r) :=
  ⟨rfl, rfl, rfl, by simp, fun k hk hc => by
    show (((w.drewN q).setCell ⟨g, 1, none⟩ u).setCell ⟨g, 2, none⟩ v).heap[k]? = _
    rw [Below.heap_setCell _ _ _ _ (by rintro rfl; simp at hc; omega), Below.heap_setCell _ _ _ _ (by rintro rfl; simp at hc; omega)]; rfl⟩

def NextPost (w : World) (g M : Nat) (e : Ending) (w' : World) : Prop :=
  ∃ v : Int, e = .returned (.int .i64 v) ∧ 0 ≤ v ∧ v ≤ 255 ∧ Src w' g M ∧ Only g (g + 1) w w'

set_option maxHeartbeats 1000000 in
theorem next_c (g M : Nat) (w : World) (h : Src w g M) (hM : M ≤ 1000000000000000000) :
    Calls Tryz.prog 62 #[.pointer (some ⟨g, 0, none⟩)] w (NextPost w g (M + 1)) := by
  obtain ⟨A, n, c, zs, a, s, h1, h2, h3, h4, hn5, h6, h7⟩ := h
  have c0 : w.cell? ⟨g, 0, none⟩ = some (.slice A n c) := (h1.cell 0).trans rfl
  have c1 : w.cell? ⟨g, 1, none⟩ = some (.int .i64 a) := (h1.cell 1).trans rfl
  have c2 : w.cell? ⟨g, 2, none⟩ = some (.int .u64 s) := (h1.cell 2).trans rfl
  have f1 := h1.frozen 1
  have f2 := h1.frozen 2
  have H1 := Lib.hid h1; clear h1
  obtain ⟨k, rfl⟩ : ∃ k : Nat, a = k := ⟨a.toNat, by omega⟩
  by_cases hlt : k < n
  · obtain ⟨ad, z, rfl, hbl, _, hcz, hz0, hz1⟩ := h2.byte hlt
    have H2 := Lib.hid h2; clear h2
    have hlt' : (k : Int) < (n : Int) := by omega
    have hle' : (k : Int) + 1 ≤ (n : Int) := by omega
    go_enter Tryz.func62, Tryz.ntmps62
    go_wp2
    go_quiet (fail)
    go_wp2
    go_quiet (fail)
    go_wp2
    go_quiet (fail)
    go_wp2
    go_ret
    refine ⟨z, rfl, hz0, hz1, ⟨some ad, n, c, zs, k + 1, _, (H1.out.set_ 1 _).set_ 2 _, ?_, by omega, by omega, hn5, u64_lo _, u64_hi _⟩, ?_⟩
    · exact ⟨(((H2.out.1.drewN _).setCell (p := ⟨g, 1, none⟩) (Nat.le_refl _) _).setCell (p := ⟨g, 2, none⟩) (Nat.le_refl _) _), H2.out.2⟩
    · exact only_src _ _ _ _ _ _
  · have H2 := Lib.hid h2; clear h2
    have hlt' : ¬ (k : Int) < (n : Int) := by omega
    have hle' : ¬ (k : Int) + 1 ≤ (n : Int) := by omega
    go_enter Tryz.func62, Tryz.ntmps62
    go_wp2
    go_quiet (fail)
    go_wp2
    go_quiet (fail)
    go_wp2
    go_ret
    refine ⟨_, rfl, and255_lo _, and255_hi _, ⟨A, n, c, zs, k + 1, _, (H1.out.set_ 1 _).set_ 2 _, ?_, by omega, by omega, hn5, u64_lo _, u64_hi _⟩, ?_⟩
    · exact ⟨(((H2.out.1.drewN _).setCell (p := ⟨g, 1, none⟩) (Nat.le_refl _) _).setCell (p := ⟨g, 2, none⟩) (Nat.le_refl _) _), H2.out.2⟩
    · exact (only_src _ _ _ _ _ _)

def PickPost (w : World) (g M : Nat) (n : Int) (e : Ending) (w' : World) : Prop :=
  ∃ v : Int, e = .returned (.int .i64 v) ∧ 0 ≤ v ∧ (v < n ∨ v = 0) ∧ Src w' g M ∧ Only g (g + 1) w w'

set_option maxHeartbeats 1000000 in
theorem pick_c (g M : Nat) (n : Int) (w : World) (h : Src w g M) (hM : M ≤ 500000000000000000) (hn : n ≤ 1000000000000) :
    Calls Tryz.prog 49 #[.pointer (some ⟨g, 0, none⟩), .int .i64 n] w (PickPost w g (M + 2) n) := by
  have HS := Lib.hid h; clear h
  by_cases h1 : n ≤ 1
  · go_enter Tryz.func49, Tryz.ntmps49
    go_wp2
    go_ret
    exact ⟨0, rfl, by omega, by omega, HS.out.more (by omega), Only.refl _ _ _⟩
  · by_cases h2 : 200 < n
    · go_enter Tryz.func49, Tryz.ntmps49
      go_wp2_with fail
      refine (next_c g M w HS.out (by omega)).mono ?_
      rintro e w1 ⟨v, rfl, hv0, hv1, S1, Y1⟩
      replace S1 := Lib.hid S1
      replace Y1 := Lib.hid Y1
      go_wp2_with fail
      refine (next_c g (M + 1) w1 S1.out (by omega)).mono ?_
      rintro e w2 ⟨u, rfl, hu0, hu1, S2, Y2⟩
      replace S2 := Lib.hid S2
      replace Y2 := Lib.hid Y2
      go_wp2
      go_ret
      refine ⟨_, rfl, Int.emod_nonneg _ (by omega), .inl (Int.emod_lt_of_pos _ (by omega)), S2.out, Y1.out.trans Y2.out⟩
    · go_enter Tryz.func49, Tryz.ntmps49
      go_wp2_with fail
      refine (next_c g M w HS.out (by omega)).mono ?_
      rintro e w1 ⟨v, rfl, hv0, hv1, S1, Y1⟩
      replace S1 := Lib.hid S1
      replace Y1 := Lib.hid Y1
      go_wp2
      go_ret
      refine ⟨_, rfl, Int.emod_nonneg _ (by omega), .inl (Int.emod_lt_of_pos _ (by omega)), S1.out.more (by omega), Y1.out⟩
end Go.Proofs.YthbnliepgjjbdaaGreatDoor

/- More about the source of choices: what keeps it, among, blocks of the call's own. -/
namespace Go.Proofs.YthbnliepgjjbdaaGreatDoor
open Go.ChangeShapes Go.WideShapes Go.ChangeAt Go.RowKit
set_option linter.unusedVariables false

theorem Only.alloc' {w w' : World} {lo hi : Nat} (h : Only lo hi w w') (o : Obj) : Only lo hi w (w'.alloc o) :=
  ⟨h.os, h.tape, h.output, Nat.le_trans h.size (by simp), fun k hk hc => (Below.heap_alloc w' o k (Nat.lt_of_lt_of_le hk h.size)).trans (h.block k hk hc)⟩
theorem Only.setNew {w w' : World} {lo hi : Nat} (h : Only lo hi w w') {p : Addr} (hp : w.heap.size ≤ p.block) (u : Value) : Only lo hi w (w'.setCell p u) :=
  ⟨h.os, h.tape, h.output, by simpa using h.size, fun k hk hc => (Below.heap_setCell w' p u k (by omega)).trans (h.block k hk hc)⟩
theorem Blk.only' {w w' : World} {g lo hi : Nat} {T : TypeId} {cs : Array Value} (h : Blk w g T cs) (ho : Only lo hi w w') (hd : g < lo ∨ hi ≤ g) : Blk w' g T cs := (ho.block g h.lt hd).trans h
theorem Src.alloc {w : World} {g M : Nat} (h : Src w g M) (o : Obj) : Src (w.alloc o) g M := h.below ((Below.refl _ _).alloc (Nat.le_refl _) o) h.lt
theorem Src.set {w : World} {g M : Nat} (h : Src w g M) {p : Addr} (hp : g < p.block) (u : Value) : Src (w.setCell p u) g M :=
  h.below ((Below.refl (g + 1) w).setCell (by omega) u) (by omega)
end Go.Proofs.YthbnliepgjjbdaaGreatDoor

/- What the general laws read off their bytes: r8Long, r8At, r8Wide. -/
namespace Go.Proofs.YthbnliepgjjbdaaGreatDoor
open Go.ChangeShapes Go.WideShapes Go.ChangeAt Go.RowKit
set_option linter.unusedVariables false

theorem r8Long_c (A : Option Addr) (n c : Nat) (D : Option Addr) (m d : Nat) (w : World) :
    Calls Tryz.prog 4 #[.slice A n c, .slice D m d] w fun e w' => e = .returned (.bool (decide (1048576 < n ∨ 1048576 < m))) ∧ w = w' := by
  go_enter Tryz.func4, Tryz.ntmps4
  go_wp2
  all_goals (go_ret; exact ⟨ret_bool (by rw [Bool.eq_iff_iff]; simp; omega), rfl⟩)
def AtPost (w : World) (n : Int) (e : Ending) (w' : World) : Prop := ∃ v : Int, e = .returned (.int .i64 v) ∧ 0 ≤ v ∧ (v < n ∨ v = 0) ∧ v ≤ 255 ∧ Below w.heap.size w w'
set_option maxHeartbeats 400000 in
theorem r8At_c (A : Option Addr) (m c B : Nat) (zs : List Int) (k : Nat) (n : Int) (w : World) (ha : Bytes w B A m zs) (hn : n ≤ 1000000000000) (hk : k ≤ 1000000000) :
    Calls Tryz.prog 5 #[.slice A m c, .int .i64 k, .int .i64 n] w (AtPost w n) := by
  by_cases h1 : n ≤ 1
  · clear ha
    go_enter Tryz.func5, Tryz.ntmps5
    go_wp2
    go_ret
    exact ⟨0, rfl, by omega, by omega, by omega, Below.refl _ _⟩
  · by_cases h2 : k < m
    · obtain ⟨ad, z, rfl, _, _, hc, hz0, hz1⟩ := ha.byte h2
      clear ha
      have h2' : ¬ (m : Int) ≤ (k : Int) := by omega
      go_enter Tryz.func5, Tryz.ntmps5
      go_wp2
      go_ret
      refine ⟨_, rfl, Int.emod_nonneg _ (by omega), .inl (Int.emod_lt_of_pos _ (by omega)), ?_, Below.refl _ _⟩
      have h := Int.emod_add_mul_ediv z n
      have h' := Int.mul_nonneg (show 0 ≤ n by omega) (Int.ediv_nonneg hz0 (show 0 ≤ n by omega))
      omega
    · have h2' : (m : Int) ≤ (k : Int) := by omega
      clear ha
      go_enter Tryz.func5, Tryz.ntmps5
      go_wp2
      go_ret
      exact ⟨0, rfl, by omega, by omega, by omega, Below.refl _ _⟩

def WidePost (w : World) (n : Int) (e : Ending) (w' : World) : Prop := ∃ v : Int, e = .returned (.int .i64 v) ∧ 0 ≤ v ∧ v < n ∧ Below w.heap.size w w'
theorem r8Wide_c (A : Option Addr) (m c B : Nat) (zs : List Int) (k : Nat) (n : Int) (w : World) (ha : Bytes w B A m zs) (hB : B ≤ w.heap.size) (h1 : 1 ≤ n) (hn : n ≤ 1000000000000) (hk : k ≤ 100000000) :
    Calls Tryz.prog 6 #[.slice A m c, .int .i64 k, .int .i64 n] w (WidePost w n) := by
  have HA := Lib.hid ha; clear ha
  go_enter Tryz.func6, Tryz.ntmps6
  go_wp2_with fail
  refine (r8At_c A m c B zs k 256 w HA.out (by omega) (by omega)).mono ?_
  rintro e w1 ⟨v, rfl, h0, h2, h3, B1⟩
  have HB1 := Lib.hid B1; clear B1
  go_wp2_with fail
  refine (r8At_c A m c B zs (k + 1) 256 w1 (HA.out.below (HB1.out.mono hB)) (by omega) (by omega)).mono ?_
  rintro e w2 ⟨u, rfl, h4, h5, h6, B2⟩
  have HB2 := Lib.hid B2; clear B2
  go_wp2
  go_ret
  exact ⟨_, rfl, Int.emod_nonneg _ (by omega), Int.emod_lt_of_pos _ (by omega), HB1.out.trans (HB2.out.mono HB1.out.size)⟩
end Go.Proofs.YthbnliepgjjbdaaGreatDoor

/- Opening an argument that is a slice of bytes. -/
namespace Go.Proofs.YthbnliepgjjbdaaGreatDoor
open Go.ChangeShapes Go.WideShapes Go.ChangeAt Go.RowKit
set_option linter.unusedVariables false
theorem cells_u8 : Tryz.prog.cellsOf 5 = 1 := by kernel_rfl
section
variable {H : Type} {enc : TypeId × Value → H} {w : World} {base : Nat} {spare : Nat → Bool} {held : Bool}
set_option maxRecDepth 1000000 in
theorem open_u8s {v : Value} {d : DataW H} {p : List MemPlace} {r : Reach} {b0 : Nat} (hv : Value.okWide Tryz.prog w r b0 22 v) (h : DataW.Trod enc Tryz.prog w base spare held 22 v d p) :
    ∃ A n c zs, v = .slice A n c ∧ Bytes w w.heap.size A n zs ∧ n ≤ c ∧ c ≤ maxLen ∧ n ≤ 9223372036854775807 := by
  obtain ⟨a0, len, cap, rfl⟩ := okWide_slice Tryz.underlying22 hv
  obtain ⟨fuel, hf⟩ := h
  rcases open_ints Tryz.underlying22 Tryz.underlying5 cells_u8 hf with ⟨hcs, _⟩ | ⟨x, l, c, zs, hcs, _, hl, hm, hz, _, hcell, hwz⟩
  · simp [Value.cells] at hcs
    obtain ⟨rfl, rfl, rfl⟩ := hcs
    exact ⟨none, 0, 0, [], rfl, ⟨Reads.none_, by simp⟩, Nat.le_refl _, by simp [maxLen], by omega⟩
  · simp [Value.cells] at hcs
    obtain ⟨rfl, rfl, rfl⟩ := hcs
    have hzl : len ≤ zs.length := by rw [hz]; split <;> omega
    refine ⟨some x, len, cap, zs.take len, rfl, ⟨⟨by simp [u8s]; omega, fun hn => ⟨x, rfl, ?_, fun j u hu => ?_⟩⟩, fun z hzm => ?_⟩, hl, hm, by unfold maxLen at hm; omega⟩
    · have := World.block_lt_of_cell? _ _ (hcell 0 (by omega))
      rwa [block_of_add] at this
    · obtain ⟨z, hzj, rfl⟩ := u8s_get hu
      have hj : j < len := by
        have := (List.getElem?_eq_some_iff.1 hzj).1
        simp at this; omega
      rw [hcell j (by omega)]
      rw [List.getElem?_take, if_pos hj] at hzj
      simp [hzj]
    · have := hwz z (List.mem_of_mem_take hzm)
      have h1 : IntKind.u8.min = 0 := by rfl
      have h2 : IntKind.u8.max = 255 := by rfl
      simp [Lit.wf] at this
      omega
end
end Go.Proofs.YthbnliepgjjbdaaGreatDoor
