/- A step of drifting snow: plain mathematics, the reference's l06Step. -/
import Derived.Test.YtndnjabalofcnaaFiB
import Derived.Test.YtndnjabalofcnaaFiW
import Derived.Deep.RegionHeld3
namespace Go.Proofs.Ytndnjabalofcnaa
open Go.ChangeShapes Go.WideShapes Go.ChangeAt Go.RowKit
set_option linter.unusedVariables false

def lAt (l : List Int) (k : Nat) : Int := (l[k]?).getD 0
theorem lAt_get {l : List Int} {k : Nat} {z : Int} (h : l[k]? = some z) : lAt l k = z := by rw [lAt, h]; rfl
def moveV (l : List Int) (c t : Nat) (m : Int) : List Int := (l.set c (lAt l c - m)).set t (lAt (l.set c (lAt l c - m)) t + m)
def movedV (z sh : Int) : Int := rnd (z * sh) 1000
def stepL (g : Fi) (d sh : Int) : Nat → List Int
  | 0 => g.hs
  | k + 1 => if 0 ≤ leeV g k d then moveV (stepL g d sh k) k (leeV g k d).toNat (movedV (lAt g.hs k) sh) else stepL g d sh k
def stepF (g : Fi) (d sh : Int) : Fi := ⟨g.rows, g.cols, stepL g d sh g.hs.length⟩
theorem moveV_len (l : List Int) (c t : Nat) (m : Int) : (moveV l c t m).length = l.length := by simp [moveV]
theorem stepL_len (g : Fi) (d sh : Int) : ∀ k, (stepL g d sh k).length = g.hs.length
  | 0 => rfl
  | k + 1 => by rw [stepL]; split <;> simp [moveV_len, stepL_len g d sh k]
theorem lAt_bd {l : List Int} {M : Int} (h0 : 0 ≤ M) (h : ∀ x ∈ l, -M ≤ x ∧ x ≤ M) (k : Nat) : -M ≤ lAt l k ∧ lAt l k ≤ M := by
  unfold lAt
  cases hk : l[k]? with
  | none => simp; omega
  | some z => exact h z (List.mem_of_getElem? hk)
theorem set_bd {l : List Int} {M : Int} (h : ∀ x ∈ l, -M ≤ x ∧ x ≤ M) {c : Nat} {z : Int} (hz : -M ≤ z ∧ z ≤ M) : ∀ x ∈ l.set c z, -M ≤ x ∧ x ≤ M := by
  intro x hx
  rcases List.mem_or_eq_of_mem_set hx with h1 | h1
  · exact h x h1
  · rw [h1]; exact hz
theorem movedV_bd {z sh : Int} (h0 : 0 ≤ z) (h1 : z ≤ 1000000) (h2 : 0 ≤ sh) (h3 : sh ≤ 1000) : (0 ≤ z * sh ∧ z * sh ≤ 1000000000) ∧ 0 ≤ movedV z sh ∧ movedV z sh ≤ 1000000001 := by
  have m := mul_bd h0 h1 h2 h3
  have a := rnd_nn m.1 (show (0 : Int) < 1000 by omega)
  have b := rnd_le m.1 (show (0 : Int) < 1000 by omega)
  unfold movedV
  omega
theorem moveV_bd {l : List Int} {M : Int} (h0 : 0 ≤ M) (h : ∀ x ∈ l, -M ≤ x ∧ x ≤ M) {c t : Nat} {m : Int} (hm : 0 ≤ m) (hm2 : m ≤ 1000000001) : ∀ x ∈ moveV l c t m, -(M + 2000000002) ≤ x ∧ x ≤ M + 2000000002 := by
  have a := lAt_bd h0 h c
  have s1 : ∀ x ∈ l.set c (lAt l c - m), -(M + 1000000001) ≤ x ∧ x ≤ M + 1000000001 := set_bd (fun x hx => by have := h x hx; omega) (by omega)
  have b := lAt_bd (by omega) s1 t
  exact set_bd (fun x hx => by have := s1 x hx; omega) (by omega)
theorem hs_bd {g : Fi} (hg : FiOk g) (k : Nat) : 0 ≤ lAt g.hs k ∧ lAt g.hs k ≤ 1000000 := by
  unfold lAt
  cases h : g.hs[k]? with
  | none => simp
  | some z => exact inB_bd (List.all_eq_true.1 hg.hs z (List.mem_of_getElem? h))
theorem stepL_bd {g : Fi} (hg : FiOk g) {d sh : Int} (h2 : 0 ≤ sh) (h3 : sh ≤ 1000) : ∀ k : Nat, ∀ x ∈ stepL g d sh k, -(1000000 + 2000000002 * (k : Int)) ≤ x ∧ x ≤ 1000000 + 2000000002 * (k : Int)
  | 0 => fun x hx => by
    have := inB_bd (List.all_eq_true.1 hg.hs x hx)
    omega
  | k + 1 => by
    have ih := stepL_bd hg (d := d) h2 h3 k
    have hb := hs_bd hg k
    have hm := (movedV_bd hb.1 hb.2 h2 h3).2
    rw [stepL]
    split
    · have := moveV_bd (c := k) (t := (leeV g k d).toNat) (by omega) ih hm.1 hm.2
      intro x hx
      have := this x hx
      push_cast
      omega
    · intro x hx
      have := ih x hx
      push_cast
      omega
theorem moveV_ints (l : List Int) (c t : Nat) (m : Int) : ints (moveV l c t m) = ((ints l).set c (.int .i64 (lAt l c - m))).set t (.int .i64 (lAt (l.set c (lAt l c - m)) t + m)) := by simp [moveV, ints, List.map_set]
theorem Own.cellI {w : World} {lo hi n c j g : Nat} {l : List Int} (h : Own w lo hi 2 1 (.slice (some ⟨g, 0, none⟩) n c) n (ints l)) (hj : j < n) : w.cell? ⟨g, j, none⟩ = some (.int .i64 (lAt l j)) := by
  obtain ⟨ad, z, e1, _, hz, hc⟩ := h.reads.int hj
  injection e1 with e1
  subst e1
  rw [lAt_get hz]
  have e2 : (⟨g, 0, none⟩ : Addr).add j = ⟨g, j, none⟩ := by unfold Addr.add; split <;> simp_all
  rw [e2] at hc
  exact hc
theorem keepA {wr W : World} {S : World → Prop} {o : Obj} (hS : ∀ W', Below wr.heap.size wr W' → S W') (h : Below wr.heap.size wr W) : Below wr.heap.size wr (W.alloc o) ∧ S (W.alloc o) :=
  ⟨h.alloc h.size o, hS _ (h.alloc h.size o)⟩
theorem keepAD {wr W : World} {S : World → Prop} {o : Obj} (hS : ∀ W', Below wr.heap.size wr W' → S W') (h : Below wr.heap.size wr W) : Below wr.heap.size wr (W.alloc o).drew ∧ S (W.alloc o).drew :=
  ⟨(h.alloc h.size o).drew, hS _ (h.alloc h.size o).drew⟩
theorem set3_below {w0 w : World} {lo b : Nat} (h : Below lo w0 w) (hb : lo ≤ b) (u0 u1 u2 : Value) : Below lo w0 (((w.setCell ⟨b, 0, none⟩ u0).setCell ⟨b, 1, none⟩ u1).setCell ⟨b, 2, none⟩ u2) :=
  ((h.setCell (p := ⟨b, 0, none⟩) hb u0).setCell (p := ⟨b, 1, none⟩) hb u1).setCell (p := ⟨b, 2, none⟩) hb u2
theorem set3_blk {w : World} {b : Nat} {T : TypeId} {a0 a1 a2 : Value} (h : Blk w b T #[a0, a1, a2]) (u0 u1 u2 : Value) : Blk (((w.setCell ⟨b, 0, none⟩ u0).setCell ⟨b, 1, none⟩ u1).setCell ⟨b, 2, none⟩ u2) b T #[u0, u1, u2] := by
  have h1 := ((h.set_ 0 u0).set_ 1 u1).set_ 2 u2
  simpa using h1
theorem set3_far {w : World} {b b' : Nat} {T : TypeId} {cs : Array Value} (h : Blk w b' T cs) (hb : b' ≠ b) (u0 u1 u2 : Value) : Blk (((w.setCell ⟨b, 0, none⟩ u0).setCell ⟨b, 1, none⟩ u1).setCell ⟨b, 2, none⟩ u2) b' T cs :=
  ((h.far (p := ⟨b, 0, none⟩) hb u0).far (p := ⟨b, 1, none⟩) hb u1).far (p := ⟨b, 2, none⟩) hb u2
theorem Own.setFar {w : World} {lo hi s n : Nat} {T : TypeId} {v : Value} {xs : List Value} (h : Own w lo hi T s v n xs) {p : Addr} (hp : p.block < lo ∨ hi ≤ p.block) (u : Value) : Own (w.setCell p u) lo hi T s v n xs :=
  h.only (lo' := p.block) (hi' := p.block + 1) ⟨rfl, rfl, rfl, by simp, fun k hk hc => Below.heap_setCell _ _ _ _ (by omega)⟩ (by omega)
theorem set3_own {w : World} {lo hi s n b : Nat} {T : TypeId} {v : Value} {xs : List Value} (h : Own w lo hi T s v n xs) (hb : b < lo ∨ hi ≤ b) (u0 u1 u2 : Value) : Own (((w.setCell ⟨b, 0, none⟩ u0).setCell ⟨b, 1, none⟩ u1).setCell ⟨b, 2, none⟩ u2) lo hi T s v n xs :=
  ((h.setFar (p := ⟨b, 0, none⟩) hb u0).setFar (p := ⟨b, 1, none⟩) hb u1).setFar (p := ⟨b, 2, none⟩) hb u2
theorem keepS {wr W : World} {S : World → Prop} {u0 u1 u2 : Value} (hS : ∀ W', Below wr.heap.size wr W' → S W') (h : Below wr.heap.size wr W) : Below wr.heap.size wr (((W.setCell ⟨wr.heap.size, 0, none⟩ u0).setCell ⟨wr.heap.size, 1, none⟩ u1).setCell ⟨wr.heap.size, 2, none⟩ u2) ∧ S (((W.setCell ⟨wr.heap.size, 0, none⟩ u0).setCell ⟨wr.heap.size, 1, none⟩ u1).setCell ⟨wr.heap.size, 2, none⟩ u2) :=
  ⟨set3_below h (Nat.le_refl _) _ _ _, hS _ (set3_below h (Nat.le_refl _) _ _ _)⟩
/-- the struct variable in block bo with a row of the call's own -/
structure OutS (w wx : World) (bo lo hi : Nat) (r co : Int) (D : Option Addr) (n dd : Nat) (l : List Int) : Prop where
  blk : Blk wx bo 26 #[.int .i64 r, .int .i64 co, .slice D n dd]
  own : Own wx lo hi 2 1 (.slice D n dd) n (ints l)
  bel : Below w.heap.size w wx
  zero : Blk wx w.heap.size 26 #[.int .i64 0, .int .i64 0, .slice none 0 0]
  hlo : w.heap.size + 1 ≤ lo
  hhi : hi ≤ wx.heap.size
  hbo : bo < lo ∨ hi ≤ bo
  hbw : w.heap.size < bo
theorem OutS.below {w wx wy : World} {bo lo hi : Nat} {r co : Int} {D : Option Addr} {n dd : Nat} {l : List Int} (h : OutS w wx bo lo hi r co D n dd l) (hb : Below wx.heap.size wx wy) : OutS w wy bo lo hi r co D n dd l :=
  ⟨h.blk.below hb h.blk.lt, h.own.below hb h.hhi, h.bel.trans (hb.mono h.bel.size), h.zero.below hb h.zero.lt, h.hlo, Nat.le_trans h.hhi hb.size, h.hbo, h.hbw⟩
theorem OutS.stored {w wx : World} {bo lo hi : Nat} {r co : Int} {g n dd : Nat} {l : List Int} (h : OutS w wx bo lo hi r co (some ⟨g, 0, none⟩) n dd l) (hn : 0 < n) (j : Nat) (z : Int) : OutS w (wx.setCell ⟨g, j, none⟩ (.int .i64 z)) bo lo hi r co (some ⟨g, 0, none⟩) n dd (l.set j z) := by
  obtain ⟨g', e, h1, h2, h3⟩ := h.own.at_ hn
  have e' : g = g' := by injection e with e; injection e
  subst e'
  have hb := h.hbo
  have hlo := h.hlo
  exact ⟨h.blk.far (p := ⟨g, j, none⟩) (by show bo ≠ g; omega) _, by have := (h.own.stored (j := j) (.int .i64 z)).1; rwa [show (ints l).set j (.int .i64 z) = ints (l.set j z) from by simp [ints, List.map_set]] at this, h.bel.setCell (p := ⟨g, j, none⟩) (by show w.heap.size ≤ g; omega) _, h.zero.far (p := ⟨g, j, none⟩) (by show w.heap.size ≠ g; omega) _, h.hlo, by simpa using h.hhi, h.hbo, h.hbw⟩
set_option maxHeartbeats 8000000 in
theorem l06Step_c (g : Fi) (b : Nat) (A : Option Addr) (n c B : Nat) (d sh : Int) (w : World) (hg : GP w b B g A n c) (hok : FiOk g) (h0 : 0 ≤ d) (h3 : d ≤ 3) (h4 : 0 ≤ sh) (h5 : sh ≤ 1000) :
    Calls Try.prog 42 #[.pointer (some ⟨b, 0, none⟩), .int .i64 d, .int .i64 sh] w (ToFiPost (stepF g d sh) n w) := by
  have hbl := hg.blk.lt
  have HG := Lib.hid hg
  have HL := Lib.hid hg.gs.len
  have hbig := hg.gs.big
  have hln := hok.len64
  have HOK := Lib.hid hok
  have HSL := Lib.hid (stepL_len g d sh)
  have HBD := Lib.hid (stepL_bd hok (d := d) h4 h5)
  have HST := Lib.hid (show stepF g d sh = ⟨g.rows, g.cols, stepL g d sh g.hs.length⟩ from rfl)
  have HNX := Lib.hid fun W (hW : GP W b B g A n c) (k : Nat) (hk : k < n) => l06Next_c g b A n c B k d W hW hok hk h0 h3
  have HSU := Lib.hid (show ∀ k, stepL g d sh (k + 1) = if 0 ≤ leeV g k d then moveV (stepL g d sh k) k (leeV g k d).toNat (movedV (lAt g.hs k) sh) else stepL g d sh k from fun _ => rfl)
  have HS0 := Lib.hid (show stepL g d sh 0 = g.hs from rfl)
  have HLC := Lib.hid fun k => leeV_cases (cell := k) (d := d) hok
  have HHB := Lib.hid (hs_bd hok)
  obtain ⟨X, hX⟩ : ∃ X, X = w.alloc (.cells #[.int .i64 0, .int .i64 0, .slice none 0 0] 26) := ⟨_, rfl⟩
  have HX := Lib.hid hX
  have HT : Hid (Below w.heap.size w X) := Lib.hid (by rw [hX]; exact (Below.refl _ _).alloc (Nat.le_refl _) _)
  have K1 : Hid (Blk X w.heap.size 26 #[.int .i64 0, .int .i64 0, .slice none 0 0]) := Lib.hid (by rw [hX]; exact Blk.new _ _ _)
  have hs := Lib.hid (show X.heap.size = w.heap.size + 1 by rw [hX]; simp)
  have HS : Hid (∀ W, Below X.heap.size X W → (W.cell? ⟨b, 0, none⟩ = some (.int .i64 g.rows) ∧ W.cell? ⟨b, 1, none⟩ = some (.int .i64 g.cols) ∧ W.cell? ⟨b, 2, none⟩ = some (.slice A n c))) := Lib.hid fun W hW => by
    have hp := (HG.out.below HT.out).below hW
    exact ⟨hp.r, hp.c, hp.h⟩
  rw [HL.out] at hln HST
  clear hg hok hX
  generalize stepF g d sh = sf at *
  obtain ⟨r, co, hs'⟩ := g
  simp only at HS HST HL HS0 HSL HLC HSU HHB
  have hB := Below.refl X.heap.size X
  go_enter Try.func42, Try.ntmps42
  go_upto_region 1 with (fail)
  rw [← HX.out]
  go_cut [7] (fun o wx => ∃ bo lo hi D dd, o = .pointer (some ⟨bo, 0, none⟩) ∧ Hid (OutS w wx bo lo hi r co D n dd hs'))
  case first =>
    go_region_held3 (fun w' => Below X.heap.size X w' ∧ (w'.cell? ⟨b, 0, none⟩ = some (.int .i64 r) ∧ w'.cell? ⟨b, 1, none⟩ = some (.int .i64 co) ∧ w'.cell? ⟨b, 2, none⟩ = some (.slice A n c))) (first | exact keepB HS.out (by assumption) (by first | assumption | exact And.left (by assumption)) | exact keepD HS.out (by assumption) | exact keepA HS.out (by first | assumption | exact And.left (by assumption)) | exact keepAD HS.out hB | exact keepS HS.out (by assumption) | (go_keep; done)) (first
      | (go_at_call 65; refine (l00Own_c A n c B hs' _ ((HG.out.below HT.out).gs.below (by first | assumption | exact And.left (by assumption))).rd (Nat.le_trans (HG.out.below HT.out).gs.hB (Below.size (by first | assumption | exact And.left (by assumption)))) hbig).mono ?_; rintro e w1 ⟨D, dd, rfl, O1, B1⟩
         have KK : Blk w1 X.heap.size 26 #[.int .i64 0, .int .i64 0, .slice none 0 0] := ((Blk.new X 26 #[.int .i64 0, .int .i64 0, .slice none 0 0]).drew).below B1 (by simp)
         have B0 : Below X.heap.size X w1 := ((hB.alloc (Nat.le_refl _) (.cells #[.int .i64 0, .int .i64 0, .slice none 0 0] 26)).drew).trans (B1.mono (by simp))
         have c0 := KK.cell 0; have c1 := KK.cell 1; have c2 := KK.cell 2; have f0 := KK.frozen 0; have f1 := KK.frozen 1; have f2 := KK.frozen 2
         have HR : Hid (Own w1 (X.heap.size + 1) w1.heap.size 2 1 (.slice D n dd) n (ints hs') ∧ Blk w1 X.heap.size 26 #[.int .i64 0, .int .i64 0, .slice none 0 0] ∧ Below X.heap.size X w1) := Lib.hid ⟨O1.widen (by simp) (Nat.le_refl _), KK, B0⟩)
      | (go_at_call 65; refine (l00Own_c A n c B hs' _ ((HG.out.below HT.out).gs.below (by first | assumption | exact And.left (by assumption))).rd (Nat.le_trans (HG.out.below HT.out).gs.hB (Below.size (by first | assumption | exact And.left (by assumption)))) hbig).mono ?_; rintro e w1 ⟨D, dd, rfl, O1, B1⟩
         have B0 : Below X.heap.size X w1 := ⟨B1.os, B1.tape, B1.output, B1.size, B1.block⟩
         have HR : Hid (Own w1 X.heap.size w1.heap.size 2 1 (.slice D n dd) n (ints hs') ∧ Below X.heap.size X w1) := Lib.hid ⟨O1, B0⟩))
    all_goals go_wp2_with fail
    all_goals go_meet
    all_goals
      first
        | exact ⟨w1.heap.size, X.heap.size, w1.heap.size, D, dd, rfl, Lib.hid ⟨Blk.new _ _ _, HR.out.1.below ((Below.refl _ _).alloc (Nat.le_refl _) _) (Nat.le_refl _), HT.out.trans ((HR.out.2.mono HT.out.size).alloc (by have := HR.out.2.size; have := hs.out; omega) _), (K1.out.below (HR.out.2) (by rw [hs.out]; omega)).alloc _, by have := hs.out; omega, by simp, .inr (Nat.le_refl _), by have := HR.out.2.size; have := hs.out; omega⟩⟩
        | exact ⟨X.heap.size, X.heap.size + 1, w1.heap.size, D, dd, rfl, Lib.hid ⟨set3_blk HR.out.2.1 _ _ _, set3_own HR.out.1 (.inl (by omega)) _ _ _, set3_below (HT.out.trans (HR.out.2.2.mono HT.out.size)) (by have := hs.out; omega) _ _ _, set3_far (K1.out.below HR.out.2.2 (by rw [hs.out]; omega)) (by rw [hs.out]; omega) _ _ _, by have := hs.out; omega, by simp, .inl (by omega), by have := hs.out; omega⟩⟩
  case rest =>
    obtain ⟨bo, lo, hi, D, dd, rfl, HO⟩ := hcut
    clear HS hB HX HT K1 hs
    go_wp2
    go_loopw [8] (fun i wr => ∃ k : Nat, k ≤ n ∧ i = .int .i64 k ∧ Hid (OutS w wr bo lo hi r co D n dd (stepL ⟨r, co, hs'⟩ d sh k))) (fun i _ => n - (intOf i).toNat)
    case atStart => exact ⟨0, Nat.zero_le _, rfl, by rw [HS0.out]; exact HO⟩
    case round =>
      clear HO
      obtain ⟨k, hk, rfl, HO⟩ := hrel
      have HGP := Lib.hid (HG.out.below HO.out.bel)
      have x3 : wr.cell? ⟨b, 2, none⟩ = some (.slice A n c) := HGP.out.h
      by_cases hlt : k < n
      · obtain ⟨gb, rfl, hg1, hg2, hg3⟩ := HO.out.own.at_ (by omega)
        go_wp2_with fail
        refine (HNX.out wr HGP.out k hlt).mono ?_
        rintro e w' ⟨rfl, rfl⟩
        rcases HLC.out k with h1 | ⟨h1, h2⟩
        · have HE : Hid (stepL ⟨r, co, hs'⟩ d sh (k + 1) = stepL ⟨r, co, hs'⟩ d sh k) := Lib.hid (by rw [HSU.out, h1]; rfl)
          rw [h1]
          clear h1
          go_wp2
          go_roundw
          case rel => exact ⟨k + 1, by omega, by go_num, by rw [HE.out]; exact HO⟩
          case measure => simp [intOf]; omega
        · obtain ⟨t, ht⟩ : ∃ t : Nat, leeV ⟨r, co, hs'⟩ k d = t := ⟨(leeV ⟨r, co, hs'⟩ k d).toNat, by omega⟩
          obtain ⟨ad, z, rfl, _, hz, hc⟩ := HGP.out.gs.rd.int hlt
          have hzl := lAt_get hz
          have hzb := HHB.out k
          have HE := Lib.hid (HSU.out k)
          rw [if_pos h1, ht, Int.toNat_natCast] at HE
          rw [hzl] at hzb HE
          rw [ht] at h2 ⊢
          have htn : t < n := by have := HL.out; omega
          obtain ⟨⟨q1, q2⟩, q3, q4⟩ := movedV_bd hzb.1 hzb.2 h4 h5
          have hp := lAt_bd (by omega) (HBD.out k) k
          clear h1 h2 ht hz hzl
          go_wp2_with fail
          refine (l01Div_c (z * sh) 1000 _ (by omega) (by omega) (by omega) (by omega)).mono ?_
          rintro e w' ⟨rfl, rfl⟩
          rw [show rnd (z * sh) 1000 = movedV z sh from rfl]
          have HLL := Lib.hid (HSL.out k)
          have HBL := Lib.hid (HBD.out k)
          generalize movedV z sh = m at *
          generalize stepL ⟨r, co, hs'⟩ d sh k = L at *
          have y7 : wr.cell? ⟨bo, 2, none⟩ = some (.slice (some ⟨gb, 0, none⟩) n dd) := HO.out.blk.cell 2
          have a0 : wr.cell? ⟨gb, k, none⟩ = some (.int .i64 (lAt L k)) := HO.out.own.cellI hlt
          have f0 : wr.frozen? ⟨gb, k, none⟩ = false := HO.out.own.1.frozenAt k
          have hkn : (k : Int) < (n : Int) := by omega
          have htn' : (t : Int) < (n : Int) := by omega
          go_upto_region 9 with (fail)
          obtain ⟨W2, hW2⟩ : ∃ W2, W2 = wr.setCell ⟨gb, k, none⟩ (.int .i64 (lAt L k - m)) := ⟨_, rfl⟩
          rw [← hW2]
          have HO2 : Hid (OutS w W2 bo lo hi r co (some ⟨gb, 0, none⟩) n dd (L.set k (lAt L k - m))) := Lib.hid (by rw [hW2]; exact HO.out.stored (by omega) k _)
          have hq := lAt_bd (l := L.set k (lAt L k - m)) (M := 1000000 + 2000000002 * (k : Int) + 1000000001) (by omega) (set_bd (fun x hx => by have := HBL.out x hx; omega) (by omega)) t
          have HEE : Hid (stepL ⟨r, co, hs'⟩ d sh (k + 1) = (L.set k (lAt L k - m)).set t (lAt (L.set k (lAt L k - m)) t + m)) := HE
          clear y7 a0 f0 hW2 HE
          generalize L.set k (lAt L k - m) = L2 at *
          have y7 : W2.cell? ⟨bo, 2, none⟩ = some (.slice (some ⟨gb, 0, none⟩) n dd) := HO2.out.blk.cell 2
          have a0 : W2.cell? ⟨gb, t, none⟩ = some (.int .i64 (lAt L2 t)) := HO2.out.own.cellI htn
          have f0 : W2.frozen? ⟨gb, t, none⟩ = false := HO2.out.own.1.frozenAt t
          go_wp2
          go_roundw
          case rel => exact ⟨k + 1, by omega, by go_num, Lib.hid (by rw [HEE.out]; exact HO2.out.stored (by omega) t _)⟩
          case measure => simp [intOf]; omega
      · obtain rfl : k = n := by omega
        have r0 : wr.cell? ⟨bo, 0, none⟩ = some (.int .i64 r) := HO.out.blk.cell 0
        have r1 : wr.cell? ⟨bo, 1, none⟩ = some (.int .i64 co) := HO.out.blk.cell 1
        have r2 : wr.cell? ⟨bo, 2, none⟩ = some (.slice D k dd) := HO.out.blk.cell 2
        have z0 : wr.cell? ⟨w.heap.size, 0, none⟩ = some (.int .i64 0) := HO.out.zero.cell 0
        have z1 : wr.cell? ⟨w.heap.size, 1, none⟩ = some (.int .i64 0) := HO.out.zero.cell 1
        have z2 : wr.cell? ⟨w.heap.size, 2, none⟩ = some (.slice none 0 0) := HO.out.zero.cell 2
        have s0 := HO.out.zero.frozen 0
        have s1 := HO.out.zero.frozen 1
        have s2 := HO.out.zero.frozen 2
        go_wp2
        refine bodyPost_ret (v := .agg #[.int .i64 r, .int .i64 co, .slice D k dd]) (by simp [results, Try.results42, go_sem, z0, z1, z2]) rfl ?_
        have hlo := HO.out.hlo
        have hhi := HO.out.hhi
        exact ⟨D, dd, by rw [HST.out]; rfl, by rw [HST.out]; exact (set3_own HO.out.own (.inl (by omega)) _ _ _).widen (by omega) (by simp; omega), set3_below HO.out.bel (Nat.le_refl _) _ _ _⟩
end Go.Proofs.Ytndnjabalofcnaa
