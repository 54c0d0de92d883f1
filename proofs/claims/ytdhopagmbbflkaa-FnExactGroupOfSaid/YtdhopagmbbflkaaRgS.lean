/- Copies of lists of regions, by the reference. -/
import Derived.Test.YtdhopagmbbflkaaRgR
namespace Go.Proofs.Ytdhopagmbbflkaa
open Go.ChangeShapes Go.WideShapes Go.ChangeAt Go.RowKit
set_option linter.unusedVariables false
theorem keepLB {lo : Nat} {wr W W1 : World} {S : World → Prop} (hS : ∀ W', Below lo wr W' → S W') (hb : Below lo W W1) (h : Below lo wr W) : Below lo wr W1 ∧ S W1 :=
  ⟨h.trans hb, hS _ (h.trans hb)⟩
theorem keepLD {lo : Nat} {wr W : World} {S : World → Prop} (hS : ∀ W', Below lo wr W' → S W') (h : Below lo wr W) : Below lo wr W.drew ∧ S W.drew := ⟨h.drew, hS _ h.drew⟩
theorem keepLA {lo : Nat} {wr W : World} {S : World → Prop} {o : Obj} (hS : ∀ W', Below lo wr W' → S W') (hl : lo ≤ wr.heap.size) (h : Below lo wr W) : Below lo wr (W.alloc o) ∧ S (W.alloc o) :=
  ⟨h.alloc (Nat.le_trans hl h.size) o, hS _ (h.alloc (Nat.le_trans hl h.size) o)⟩
theorem keepLAD {lo : Nat} {wr W : World} {S : World → Prop} {o : Obj} (hS : ∀ W', Below lo wr W' → S W') (hl : lo ≤ wr.heap.size) (h : Below lo wr W) : Below lo wr (W.alloc o).drew ∧ S (W.alloc o).drew :=
  ⟨(h.alloc (Nat.le_trans hl h.size) o).drew, hS _ (h.alloc (Nat.le_trans hl h.size) o).drew⟩
theorem reads_one (W : World) (T : TypeId) (l : List Value) : Reads (W.alloc (.cells l.toArray T)) (W.heap.size + 1) l.length (some ⟨W.heap.size, 0, none⟩) 1 l := by
  refine ⟨by simp, fun _ => ⟨_, rfl, Nat.lt_succ_self _, fun j u hu => ?_⟩⟩
  have e : (⟨W.heap.size, 0, none⟩ : Addr).add j = ⟨W.heap.size, j, none⟩ := by unfold Addr.add; split <;> simp_all
  rw [e, (Blk.new W T l.toArray).cell j]
  simpa using hu
structure PartOw (w0 wr : World) (v : Value) (k : Nat) (rs ds : List Rg) : Prop where
  row : wr.ownsRow w0.heap.size 54 3 v k (rgs ds)
  len : ds.length = k
  dat : ds.map Rg.dat = (rs.take k).map Rg.dat
  inn : ∀ x ∈ ds, Own wr w0.heap.size wr.heap.size 9 1 x.row x.n (strs x.near)
  pw : ds.Pairwise fun x y => ∀ g, x.blk = some g → y.blk ≠ some g
  bel : Below w0.heap.size w0 wr
theorem PartOw.done {w0 wr : World} {n c : Nat} {A : Option Addr} {rs ds : List Rg} (h : PartOw w0 wr (.slice A n c) n rs ds) (hl : rs.length = n) : OwnRegs wr w0.heap.size wr.heap.size (.slice A n c) n ds ∧ ds.map Rg.dat = rs.map Rg.dat := by
  have hr := Own.of_owns h.row (Nat.le_refl _)
  refine ⟨⟨hr, h.inn, fun x hx g hg => own_types_ne (h.inn x hx) hr (by decide) hg, h.pw⟩, ?_⟩
  rw [h.dat, List.take_of_length_le (by omega)]
theorem PartOw.step {w0 wr wa X w2 : World} {k d : Nat} {v v2 : Value} {D : Option Addr} {rs ds : List Rg} {x : Rg} (h : PartOw w0 wr v k rs ds) (hx : rs[k]? = some x) (hb : Below wr.heap.size wr wa)
    (ho : Own wa wr.heap.size wa.heap.size 9 1 (.slice D x.n d) x.n (strs x.near)) (hX : Below wa.heap.size wa X) (ho2 : w2.ownsRow w0.heap.size 54 3 v2 (k + 1) (rgs ds ++ [.string x.id, .int .i64 x.lv, .slice D x.n d])) (hg : X.grownBy w2 v.ownBlock) :
    PartOw w0 w2 v2 (k + 1) rs (ds ++ [⟨x.id, x.lv, D, x.n, d, x.near⟩]) := by
  have hs1 := hb.size
  have hs2 := hX.size
  have hs3 := hg.size
  have hbw := h.bel.size
  have hrX : Own X w0.heap.size X.heap.size 54 3 v k (rgs ds) := ((Own.of_owns h.row (Nat.le_refl _)).below (hb.trans (hX.mono hs1)) (Nat.le_refl _)).widen (Nat.le_refl _) (by omega)
  have key : ∀ {lo hi n : Nat} {u : Value} {xs : List Value}, Own X lo hi 9 1 u n xs → Own w2 lo hi 9 1 u n xs := fun hu => hu.grownBy hg (fun g hgu e => own_types_ne hu hrX (by decide) hgu e.symm)
  refine ⟨by rw [rgs_app]; exact ho2, by simp [h.len], ?_, ?_, ?_, ?_⟩
  · rw [take_snoc_rg hx, List.map_append, List.map_append, h.dat]; rfl
  · intro y hy
    rcases List.mem_append.1 hy with h2 | h2
    · exact (key ((h.inn y h2).below (hb.trans (hX.mono hs1)) (Nat.le_refl _))).widen (Nat.le_refl _) (by omega)
    · simp at h2; subst h2
      exact (key (ho.below hX (Nat.le_refl _))).widen (by omega) (by omega)
  · rw [List.pairwise_append]
    refine ⟨h.pw, by simp, ?_⟩
    intro a ha b hb2 q hq
    simp at hb2; subst hb2
    have h3 := (h.inn a ha).blk_bd hq
    intro hq2
    have h4 := ho.blk_bd (g := q) hq2
    omega
  · have h5 : Below w0.heap.size X w2 := (Below.refl _ _).grown hg (by omega) (fun q hq => (hrX.blk_bd hq).1)
    exact (h.bel.trans ((hb.mono hbw).trans (hX.mono (by omega)))).trans h5
set_option maxHeartbeats 4000000 in
set_option maxRecDepth 100000 in
theorem l18Own_c (A : Option Addr) (n c B : Nat) (rs : List Rg) (w : World) (ha : Regs w B A n rs) (hB : B ≤ w.heap.size) (hx : ∀ x ∈ rs, x.n ≤ 1048576) (hn : n ≤ 1048576) :
    Calls Try.prog 55 #[.slice A n c] w fun e w' => ∃ D d ds, e = .returned (.slice D n d) ∧ OwnRegs w' w.heap.size w'.heap.size (.slice D n d) n ds ∧ ds.map Rg.dat = rs.map Rg.dat ∧ Below w.heap.size w w' := by
  have HA := Lib.hid ha
  have HX := Lib.hid hx
  have HL := Lib.hid ha.len
  clear ha hx
  obtain ⟨i0, hi, hz, hs, hb⟩ := info_parts info_str
  obtain ⟨i1, hi1, hz1, hs1, hb1⟩ := info_parts info_rg
  have HI := Lib.hid (And.intro hi (And.intro hz (And.intro hs hb)))
  have HJ := Lib.hid (And.intro hi1 (And.intro hz1 (And.intro hs1 hb1)))
  clear hi hz hs hb hi1 hz1 hs1 hb1
  have O1 : Hid (PartOw w (w.alloc (.cells #[] 54)) (.slice (some ⟨w.heap.size, 0, none⟩) 0 0) 0 rs []) := Lib.hid ⟨World.ownsRow_lit (w := w) (base := w.heap.size) (e := 54) (size := 3) #[] 0 (Nat.le_refl _) (by simp [maxLen]) (by simp), rfl, rfl, fun x hx => by simp at hx, List.Pairwise.nil, (Below.refl _ _).alloc (Nat.le_refl _) _⟩
  go_enter Try.func55, Try.ntmps55
  go_wp2
  go_loopw [3, 4] (fun o i wr => ∃ (k : Nat) (ds : List Rg), k ≤ n ∧ i = .int .i64 k ∧ Hid (PartOw w wr o k rs ds)) (fun _ i _ => n - (intOf i).toNat)
  case atStart => exact ⟨0, [], Nat.zero_le _, rfl, O1⟩
  case round =>
    clear O1
    obtain ⟨k, ds, hk, rfl, HP⟩ := hrel
    have hwz := HP.out.bel.size
    by_cases hlt : k < n
    · obtain ⟨ad, x, rfl, hbl, hs, hnx, c0, c1, c2⟩ := (HA.out.below (HP.out.bel.mono hB)).at_ hlt
      have HXS := Lib.hid hs
      have hxn := HX.out x (List.mem_of_getElem? hs)
      have HNX := Lib.hid hnx
      have hkn : (k : Int) < (n : Int) := by omega
      have hk0 : (0 : Int) ≤ (k : Int) := by omega
      have HS : Hid (∀ W', Below w.heap.size wr W' → (W'.cell? (ad.add (k * 3)) = some (.string x.id) ∧ W'.cell? ⟨(ad.add (k * 3)).block, (ad.add (k * 3)).off + 1, none⟩ = some (.int .i64 x.lv) ∧ W'.cell? ⟨(ad.add (k * 3)).block, (ad.add (k * 3)).off + 2, none⟩ = some (.slice x.A x.n x.c))) := Lib.hid fun W' hW =>
        ⟨(hW.cell (p := ad.add (k * 3)) (by rw [block_of_add]; omega)).trans c0, (hW.cell (p := ⟨(ad.add (k * 3)).block, (ad.add (k * 3)).off + 1, none⟩) (by show (ad.add (k * 3)).block < _; rw [block_of_add]; omega)).trans c1, (hW.cell (p := ⟨(ad.add (k * 3)).block, (ad.add (k * 3)).off + 2, none⟩) (by show (ad.add (k * 3)).block < _; rw [block_of_add]; omega)).trans c2⟩
      have O1 : Hid ((wr.alloc (.cells #[] 9)).drew.ownsRow wr.heap.size 9 1 (.slice (some ⟨wr.heap.size, 0, none⟩) 0 0) 0 (strs [])) := Lib.hid (show (wr.alloc (.cells #[] 9)).ownsRow wr.heap.size 9 1 (.slice (some ⟨wr.heap.size, 0, none⟩) 0 0) 0 (strs []) from World.ownsRow_lit (w := wr) (base := wr.heap.size) (e := 9) (size := 1) #[] 0 (Nat.le_refl _) (by simp [maxLen]) (by simp))
      have HR : Hid (Reads (wr.alloc (.cells #[] 9)).drew B 1 x.A x.n (strs x.near)) := Lib.hid (Reads.alloc HNX.out (by omega) _)
      have hB0 := Below.refl w.heap.size wr
      clear hs hnx c0 c1 c2
      go_wp2
      go_region_held3 (fun w' => Below w.heap.size wr w' ∧ (w'.cell? (ad.add (k * 3)) = some (.string x.id) ∧ w'.cell? ⟨(ad.add (k * 3)).block, (ad.add (k * 3)).off + 1, none⟩ = some (.int .i64 x.lv) ∧ w'.cell? ⟨(ad.add (k * 3)).block, (ad.add (k * 3)).off + 2, none⟩ = some (.slice x.A x.n x.c)))
        (first | exact keepLB HS.out (by assumption) (by first | assumption | exact And.left (by assumption)) | exact keepLD HS.out hB0 | exact keepLA HS.out hwz (by first | assumption | exact And.left (by assumption)) | exact keepLAD HS.out hwz hB0 | (go_keep; done))
        (first
          | (refine step_append_any _ (by rfl) (.tmp 23) (.tmp 28) _ (by rfl) wr.heap.size 9 i0 _ 1 16 Try.underlying30 HI.out.1 HI.out.2.1 HI.out.2.2.1 HI.out.2.2.2 rfl (by omega) _ 0 (strs []) (by rfl) O1.out B x.A x.n x.c (strs x.near) (by rfl) HR.out (strs_one x.near) (by simp [maxLen]; omega) (by omega) (by simp) ?_
             intro va wa O4 G4 h4
             rw [Nat.zero_add] at O4
             have BA1 : Below wr.heap.size (wr.alloc (.cells #[] 9)).drew wa := (Below.refl _ _).grown G4 (by simp) (fun q hq => (O1.out.lt q hq).1)
             have BA : Below w.heap.size (wr.alloc (.cells #[] 9)).drew wa := BA1.mono hwz
             have HB4 : Hid (Below wr.heap.size wr wa) := Lib.hid (((Below.refl _ _).alloc (Nat.le_refl _) _).drew.trans BA1)
             obtain ⟨D, d, hva, _, _⟩ := (Own.of_owns O4 (Nat.le_refl _)).slice
             subst hva
             have HO4 : Hid (Own wa wr.heap.size wa.heap.size 9 1 (.slice D x.n d) x.n (strs x.near)) := Lib.hid (by have h := Own.of_owns O4 (Nat.le_refl _); simpa [strs] using h))
          | (refine step_append_any _ (by rfl) (.tmp 12) (.tmp 31) _ (by rfl) w.heap.size 54 i1 _ 3 48 Try.underlying25 HJ.out.1 HJ.out.2.1 HJ.out.2.2.1 HJ.out.2.2.2 rfl (by omega) _ k (rgs ds) (by rfl) (owns_al (owns_bel HP.out.row HB4.out (Nat.le_refl _)) _) (wa.heap.size + 1) (some ⟨wa.heap.size, 0, none⟩) 1 1 [.string x.id, .int .i64 x.lv, .slice D x.n d] (by rfl) (reads_one wa 54 [.string x.id, .int .i64 x.lv, .slice D x.n d]) (by simp [Value.oneCell']) (by simp [maxLen]; omega) (by omega) (by have := HB4.out.size; simp; omega) ?_
             intro v2 w2 O5 G5 h5
             have BA : Below w.heap.size (wa.alloc (.cells #[.string x.id, .int .i64 x.lv, .slice D x.n d] 54)) w2 := (Below.refl _ _).grown G5 (by have := HB4.out.size; simp; omega) (fun q hq => (HP.out.row.lt q hq).1)
             have HST := Lib.hid (HP.out.step HXS.out HB4.out HO4.out ((Below.refl wa.heap.size wa).alloc (Nat.le_refl _) _) O5 G5)))
      clear HS O1 HR hB0
      go_wp2
      go_roundw
      case rel => exact ⟨k + 1, _, by omega, by go_num, HST⟩
      case measure => simp [intOf]; omega
    · obtain rfl : k = n := by omega
      obtain ⟨A', c', hv', _, _⟩ := (Own.of_owns HP.out.row (Nat.le_refl _)).slice
      subst hv'
      have hd := HP.out.done HL.out
      have HD1 := Lib.hid hd.1
      have HD2 := Lib.hid hd.2
      clear hd
      go_wp2
      go_ret
      exact ⟨A', c', ds, rfl, HD1.out, HD2.out, HP.out.bel⟩
end Go.Proofs.Ytdhopagmbbflkaa
