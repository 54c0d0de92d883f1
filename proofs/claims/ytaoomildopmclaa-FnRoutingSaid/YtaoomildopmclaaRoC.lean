/- Masses that run: the ways from a cell, by the reference. -/
import Derived.Test.YtaoomildopmclaaRoB
namespace Go.Proofs.Ytaoomildopmclaa
open Go.ChangeShapes Go.WideShapes Go.ChangeAt Go.RowKit
set_option linter.unusedVariables false
theorem Own.grownBy {w w' : World} {lo hi s n : Nat} {T : TypeId} {v : Value} {xs : List Value} {row : Option Nat} (h : Own w lo hi T s v n xs) (hg : w.grownBy w' row) (hne : ∀ g, v.ownBlock = some g → some g ≠ row) : Own w' lo hi T s v n xs := by
  refine ⟨⟨h.1.1, ?_⟩, h.2⟩
  rcases h.1.2 with hn | ⟨g, cap, cur, rfl, hb, hgb, rest⟩
  · exact .inl hn
  · refine .inr ⟨g, cap, cur, rfl, hb, ?_, rest⟩
    rw [hg.block g (Array.getElem?_eq_some_iff.1 hgb).1 (hne g (by simp [Value.ownBlock]))]
    exact hgb
theorem app_i64k {ops : Array Oper} {rest : List Oper} {o : Oper} {a : Act} {Q : Exit → Act → World → Prop} {w : World} (hgd : o.guard = none) (s x : Operand)
    (ho : o.op = .call { callee := .builtin .append, args := #[s, x], argTypes := #[24, 24] })
    (lo : Nat) (v : Value) (n : Nat) (zs : List Int) (z : Int) (g : Nat) (hs : a.eval s = v) (hown : w.ownsRow lo 2 1 v n (ints zs))
    (hx : a.eval x = .slice (some ⟨g, 0, none⟩) 1 1) (hc : w.cell? ⟨g, 0, none⟩ = some (.int .i64 z)) (hn : n ≤ 100000000000) (hlo : lo ≤ w.heap.size)
    (h : ∀ v' w', w'.ownsRow lo 2 1 v' (n + 1) (ints (zs ++ [z])) → w.grownBy w' v.ownBlock → (v'.ownBlock = v.ownBlock ∨ v'.ownBlock = some w.heap.size) → wpList Try.prog ops Q rest (a.put o.dst v') w') : wpList Try.prog ops Q (o :: rest) a w := by
  obtain ⟨i, hi, hz, hs', hb⟩ := info_parts info_i64
  have hg : g < w.heap.size := World.block_lt_of_cell? w ⟨g, 0, none⟩ hc
  refine wpList_append_any w hgd s x _ ho lo _ i _ 1 8 Try.underlying24 hi hz hs' hb rfl (by omega) v n (ints zs) hs hown w.heap.size (some ⟨g, 0, none⟩) 1 1 (ints [z]) hx
    ⟨rfl, fun _ => ⟨_, rfl, hg, fun j u hu => ?_⟩⟩ (ints_one [z]) (by simp only [maxLen]; omega) (by omega) hlo ?_
  · match j with
    | 0 => simp [ints] at hu; subst hu; exact hc
    | j + 1 => simp [ints] at hu
  · intro v' w' h2 h3 h4
    exact h v' w' (by rw [ints_app]; exact h2) h3 h4
/-- two rows of integers of the call's own, in blocks of their own -/
structure Two (w0 wr : World) (v1 : Value) (l1 : List Int) (v2 : Value) (l2 : List Int) : Prop where
  a : Own wr w0.heap.size wr.heap.size 2 1 v1 l1.length (ints l1)
  b : Own wr w0.heap.size wr.heap.size 2 1 v2 l2.length (ints l2)
  ne : ∀ q, v1.ownBlock = some q → v2.ownBlock ≠ some q
  bel : Below w0.heap.size w0 wr
section
variable {w0 wr : World} {v1 v2 : Value} {l1 l2 : List Int}
theorem Two.below {w1 : World} (h : Two w0 wr v1 l1 v2 l2) (hb : Below wr.heap.size wr w1) : Two w0 w1 v1 l1 v2 l2 :=
  ⟨(h.a.below hb (Nat.le_refl _)).widen (Nat.le_refl _) hb.size, (h.b.below hb (Nat.le_refl _)).widen (Nat.le_refl _) hb.size, h.ne, h.bel.trans (hb.mono h.bel.size)⟩
theorem Two.swap (h : Two w0 wr v1 l1 v2 l2) : Two w0 wr v2 l2 v1 l1 := ⟨h.b, h.a, fun q h1 h2 => h.ne q h2 h1, h.bel⟩
theorem Two.push {w2 : World} {v' : Value} {z : Int} {o : Obj} {m : Nat} (h : Two w0 wr v1 l1 v2 l2) (O5 : w2.ownsRow w0.heap.size 2 1 v' (m + 1) (ints (l1 ++ [z]))) (G5 : (wr.alloc o).grownBy w2 v1.ownBlock)
    (h4 : v'.ownBlock = v1.ownBlock ∨ v'.ownBlock = some (wr.heap.size + 1)) (hm : m = l1.length) : Two w0 w2 v' (l1 ++ [z]) v2 l2 := by
  have h1 := h.below ((Below.refl wr.heap.size wr).alloc (Nat.le_refl _) o)
  subst hm
  have hs := G5.size
  have hso : (wr.alloc o).heap.size = wr.heap.size + 1 := by simp
  refine ⟨by rw [List.length_append]; exact Own.of_owns O5 (Nat.le_refl _), (h1.b.grownBy G5 (fun q hq e => h.ne q e.symm hq)).widen (Nat.le_refl _) hs, ?_, ?_⟩
  · intro q hq hq2
    rcases h4 with h5 | h5
    · rw [h5] at hq; exact h.ne q hq hq2
    · rw [h5] at hq
      injection hq with hq
      have := h1.b.2 q hq2
      omega
  · exact h1.bel.trans ((Below.refl _ _).grown G5 h1.bel.size (fun q hq => (h1.a.1.lt q hq).1))
theorem Two.start (w : World) : Two w ((w.alloc (.cells #[] 2)).alloc (.cells #[] 2)) (.slice (some ⟨w.heap.size, 0, none⟩) 0 0) [] (.slice (some ⟨w.heap.size + 1, 0, none⟩) 0 0) [] := by
  have hs : (w.alloc (.cells #[] 2)).heap.size = w.heap.size + 1 := by simp
  have hs2 : ((w.alloc (.cells #[] 2)).alloc (.cells #[] 2)).heap.size = w.heap.size + 1 + 1 := by simp
  have k1 := (Blk.new w 2 #[]).alloc (.cells #[] 2)
  have k2 := Blk.new (w.alloc (.cells #[] 2)) 2 #[]
  rw [hs] at k2
  refine ⟨Own.of_blk (n := 0) k1 rfl (Nat.le_refl _) (by omega) (by simp [maxLen]), Own.of_blk (n := 0) k2 rfl (by omega) (by omega) (by simp [maxLen]), ?_, ?_⟩
  · intro q hq hq2
    simp [Value.ownBlock] at hq hq2
    omega
  · exact ((Below.refl _ _).alloc (Nat.le_refl _) _).alloc (by omega) _
end
def WaysPost (ws : List Stp) (w : World) (e : Ending) (w' : World) : Prop :=
  ∃ P p Q q, e = .returned (.tuple #[.slice P ws.length p, .slice Q ws.length q]) ∧ Two w w' (.slice P ws.length p) (ws.map Stp.dir) (.slice Q ws.length q) (ws.map Stp.slope)
theorem Two.done {w0 wr : World} {v1 v2 : Value} {ws : List Stp} (h : Two w0 wr v1 (ws.map Stp.dir) v2 (ws.map Stp.slope)) : WaysPost ws w0 (.returned (.tuple #[v1, v2])) wr := by
  obtain ⟨P, p, e1, _, _⟩ := h.a.slice
  obtain ⟨Q, q, e2, _, _⟩ := h.b.slice
  rw [List.length_map] at e1 e2
  subst e1 e2
  exact ⟨P, p, Q, q, rfl, h⟩
def waysK (g : Gr) (c : Nat) (fr : Int) (k : Nat) : List Stp := (nextTo g c k).filter (wayB g c fr)
theorem waysK_len (g : Gr) (c : Nat) (fr : Int) (k : Nat) : (waysK g c fr k).length ≤ k := by
  have h1 := List.length_filter_le (wayB g c fr) (nextTo g c k)
  have h2 := nextTo_len g c k
  unfold waysK; omega
theorem waysK_f {g : Gr} {c k : Nat} {fr : Int} (h : goB g c k = false) : waysK g c fr (k + 1) = waysK g c fr k := by unfold waysK; rw [nextTo_f h]
theorem waysK_no {g : Gr} {c k : Nat} {fr : Int} (h : goB g c k = true) (hw : wayB g c fr (stpV g c k) = false) : waysK g c fr (k + 1) = waysK g c fr k := by unfold waysK; rw [nextTo_t h, List.filter_append]; simp [hw]
theorem waysK_yes {g : Gr} {c k : Nat} {fr : Int} (h : goB g c k = true) (hw : wayB g c fr (stpV g c k) = true) : waysK g c fr (k + 1) = waysK g c fr k ++ [stpV g c k] := by unfold waysK; rw [nextTo_t h, List.filter_append]; simp [hw]
set_option maxHeartbeats 8000000 in
theorem l13Ways_c (g : Gr) (b : Nat) (A : Option Addr) (n c B : Nat) (cell : Nat) (fr : Int) (w : World) (hg : GP w b B g A n c) (hok : g.ok = true) (hc : cell < n) :
    Calls Try.prog 89 #[.pointer (some ⟨b, 0, none⟩), .int .i64 cell, .int .i64 fr] w (WaysPost (waysL g cell fr) w) := by
  have HG := Lib.hid fun W (hW : Below w.heap.size w W) a (ha : a < 8) => l09Go_c g b A n c B cell a W (hg.below hW) hok hc ha
  have HF := Lib.hid fun W (hW : Below w.heap.size w W) (to_ a : Nat) (ht : to_ < n) (ha : a < 8) => l09Fall_c g b A n c B cell to_ a W (hg.below hW) hok hc ht ha
  have HP := Lib.hid fun W (hW : Below w.heap.size w W) => hg.below hW
  have HOK := Lib.hid (Gr.ok_bd hok)
  have HL := Lib.hid hg.gs.len
  have hbig := hg.gs.big
  have HT0 : Hid (Two w ((w.alloc (.cells #[] 2)).alloc (.cells #[] 2)) (.slice (some ⟨w.heap.size, 0, none⟩) 0 0) ((waysK g cell fr 0).map Stp.dir) (.slice (some ⟨w.heap.size + 1, 0, none⟩) 0 0) ((waysK g cell fr 0).map Stp.slope)) := Lib.hid (Two.start w)
  clear hg hok
  go_enter Try.func89, Try.ntmps89
  go_wp2
  go_loopw [8, 9, 10] (fun p q i wr => ∃ k : Nat, k ≤ 8 ∧ i = .int .i64 k ∧ Hid (Two w wr p ((waysK g cell fr k).map Stp.dir) q ((waysK g cell fr k).map Stp.slope))) (fun _ _ i _ => 8 - (intOf i).toNat)
  case atStart => exact ⟨0, by omega, rfl, HT0⟩
  case round =>
    clear HT0
    obtain ⟨k, hk, rfl, HT⟩ := hrel
    by_cases hlt : k < 8
    · have hlt' : (k : Int) < 8 := by omega
      go_wp2_with fail
      refine (HG.out wr HT.out.bel k hlt).mono ?_
      rintro e w1 ⟨rfl, hb1⟩
      have HT1 := Lib.hid (HT.out.below hb1); clear hb1
      rcases goV_cases (cell := (cell : Int)) (a := k) HOK.out with ⟨hgb, hgv⟩ | ⟨hgb, hg0, hg1⟩
      · have HN := Lib.hid (waysK_f (fr := fr) hgb)
        rw [hgv]
        clear hgb hgv
        go_wp2
        go_quiet (fail)
        go_wp2
        go_roundw
        case rel => exact ⟨k + 1, by omega, by go_num, by rw [HN.out]; exact Lib.hid (HT1.out.below (below_drewN (Below.refl _ _) _))⟩
        case measure => simp [intOf]; omega
      · have HGB := Lib.hid hgb
        rw [HL.out] at hg1
        obtain ⟨to_, hto⟩ : ∃ t : Nat, goV g cell k = t := ⟨(goV g cell k).toNat, by omega⟩
        have HST := Lib.hid (show stpV g cell k = ⟨(to_ : Int), k, fallV g cell to_ k⟩ from by rw [stpV, hto])
        rw [hto] at hg0 hg1 ⊢
        have ht : to_ < n := by omega
        obtain ⟨ad, rfl, _, c1⟩ := (HP.out w1 HT1.out.bel).gs.at_ ht
        obtain ⟨ad', e', _, c2⟩ := (HP.out w1 HT1.out.bel).gs.at_ hc
        obtain rfl : ad = ad' := by injection e'
        have x3 := (HP.out w1 HT1.out.bel).h
        have hc' : (cell : Int) < (n : Int) := by omega
        have hnn : ¬ (to_ : Int) < 0 := by omega
        clear hgb hto e'
        by_cases hh : hAt g to_ < hAt g cell
        · have hge : decide (hAt g cell ≤ hAt g to_) = false := by simp; omega
          have HHH := Lib.hid hh
          clear hh
          go_wp2
          go_quiet (fail)
          clear hge
          go_wp2_with fail
          refine (HF.out _ (below_drewN HT1.out.bel _) to_ k ht hlt).mono ?_
          rintro e w' ⟨rfl, hq'⟩
          have HT3 : Hid (Two w w' u8 ((waysK g cell fr k).map Stp.dir) u9 ((waysK g cell fr k).map Stp.slope)) := Lib.hid (by
            obtain ⟨q', rfl⟩ := hq'
            exact HT1.out.below (below_drewN (below_drewN (Below.refl _ _) _) q'))
          have hz3 : w.heap.size ≤ w'.heap.size := HT3.out.bel.size
          clear hq'
          generalize fallV g cell to_ k = fv at *
          by_cases hsl : fr ≤ fv
          · have hd : decide (fr ≤ fv) = true := by simpa using hsl
            have HV : Hid (waysK g cell fr (k + 1) = waysK g cell fr k ++ [⟨(to_ : Int), k, fv⟩]) := Lib.hid (by rw [waysK_yes HGB.out (by rw [HST.out]; simp [wayB, HHH.out, hsl]), HST.out])
            have hw1 : ((waysK g cell fr k).map Stp.dir).length ≤ 8 := by rw [List.length_map]; have := waysK_len g cell fr k; omega
            have hw2 : ((waysK g cell fr k).map Stp.slope).length ≤ 8 := by rw [List.length_map]; have := waysK_len g cell fr k; omega
            have HOWN := Lib.hid (owns_al HT3.out.a.1 (.cells #[.int .i64 (k : Int)] 2))
            clear hsl
            go_wp2_with (at_builtin; refine app_i64k rfl (.tmp 50) (.tmp 52) rfl w.heap.size _ ((waysK g cell fr k).map Stp.dir).length ((waysK g cell fr k).map Stp.dir) (k : Int) _ rfl HOWN.out rfl ?_ (by omega) ?_ ?_)
            rotate_left 2
            · intro v' w2 O4 G4 h4
              have HT4 := Lib.hid (HT3.out.push O4 G4 h4 (by simp))
              have hz4 : w.heap.size ≤ w2.heap.size := HT4.out.bel.size
              have HOWN2 := Lib.hid (owns_al HT4.out.b.1 (.cells #[.int .i64 fv] 2))
              clear O4 G4 h4 HOWN
              go_wp2_with (at_builtin; refine app_i64k rfl (.tmp 54) (.tmp 56) rfl w.heap.size _ ((waysK g cell fr k).map Stp.slope).length ((waysK g cell fr k).map Stp.slope) fv _ rfl HOWN2.out rfl ?_ (by omega) ?_ ?_)
              rotate_left 2
              · intro v5 w5 O5 G5 h5
                have HT5 := Lib.hid ((HT4.out.swap.push O5 G5 h5 (by simp)).swap)
                clear O5 G5 h5 HOWN2
                go_wp2
                go_roundw
                case rel => exact ⟨k + 1, by omega, by go_num, by rw [HV.out, List.map_append, List.map_append]; exact HT5⟩
                case measure => simp [intOf]; omega
              · exact (Blk.new _ _ _).cell 0
              · simp; omega
            · exact (Blk.new _ _ _).cell 0
            · simp; omega
          · have hd : decide (fr ≤ fv) = false := by simpa using hsl
            have HV : Hid (waysK g cell fr (k + 1) = waysK g cell fr k) := Lib.hid (waysK_no HGB.out (by rw [HST.out]; simp [wayB, hsl]))
            clear hsl
            go_wp2
            go_roundw
            case rel => exact ⟨k + 1, by omega, by go_num, by rw [HV.out]; exact HT3⟩
            case measure => simp [intOf]; omega
        · have hge : decide (hAt g cell ≤ hAt g to_) = true := by simp; omega
          have HV : Hid (waysK g cell fr (k + 1) = waysK g cell fr k) := Lib.hid (waysK_no HGB.out (by rw [HST.out]; simp [wayB, hh]))
          clear hh
          go_wp2
          go_quiet (fail)
          clear hge
          go_wp2
          go_roundw
          case rel => exact ⟨k + 1, by omega, by go_num, by rw [HV.out]; exact Lib.hid (HT1.out.below (below_drewN (Below.refl _ _) _))⟩
          case measure => simp [intOf]; omega
    · obtain rfl : k = 8 := by omega
      go_wp2
      go_ret2
      exact HT.out.done
end Go.Proofs.Ytaoomildopmclaa
