/- Lists of steps; the direction to a cell (l09Way), the steepest direction (l09Steepest), by the reference. -/
import Derived.Test.YtaoomildopmclaaGrO
import Derived.Test.YtaoomildopmclaaStpS
namespace Go.Proofs.Ytaoomildopmclaa
open Go.ChangeShapes Go.WideShapes Go.ChangeAt Go.RowKit
set_option linter.unusedVariables false

def stpV (g : Gr) (cell : Int) (a : Nat) : Stp := ⟨goV g cell a, a, fallV g cell (goV g cell a) a⟩
/-- the steps to the cells next to a cell, of the first k directions -/
def nextTo (g : Gr) (cell : Int) : Nat → List Stp
  | 0 => []
  | k + 1 => nextTo g cell k ++ (if goB g cell k then [stpV g cell k] else [])
theorem nextTo_t {g : Gr} {cell : Int} {k : Nat} (h : goB g cell k = true) : nextTo g cell (k + 1) = nextTo g cell k ++ [stpV g cell k] := by rw [nextTo, if_pos h]
theorem nextTo_f {g : Gr} {cell : Int} {k : Nat} (h : goB g cell k = false) : nextTo g cell (k + 1) = nextTo g cell k := by rw [nextTo, if_neg (by simp [h])]; simp
theorem nextTo_mem {g : Gr} {cell : Int} : ∀ {k : Nat} {x : Stp}, x ∈ nextTo g cell k → ∃ a, a < k ∧ goB g cell a = true ∧ x = stpV g cell a
  | 0, x, h => by simp [nextTo] at h
  | k + 1, x, h => by
    rw [nextTo, List.mem_append] at h
    rcases h with h | h
    · obtain ⟨a, h1, h2, h3⟩ := nextTo_mem h
      exact ⟨a, by omega, h2, h3⟩
    · cases hb : goB g cell k
      · rw [hb] at h; simp at h
      · rw [hb] at h; simp at h; exact ⟨k, by omega, hb, h⟩
theorem nextTo_len (g : Gr) (cell : Int) : ∀ k : Nat, (nextTo g cell k).length ≤ k
  | 0 => by simp [nextTo]
  | k + 1 => by
    have := nextTo_len g cell k
    rw [nextTo, List.length_append]
    split <;> simp <;> omega
/-- the steepest step down, the first one of several -/
def beats : Option Stp → Stp → Bool
  | none, _ => true
  | some y, x => decide (y.slope < x.slope)
def bestS (g : Gr) (cell : Int) (best : Option Stp) (x : Stp) : Option Stp :=
  if hAt g x.cell < hAt g cell ∧ beats best x = true then some x else best
def bestL (g : Gr) (cell : Int) (l : List Stp) : Option Stp := l.foldl (bestS g cell) none
theorem bestL_snoc (g : Gr) (cell : Int) (l : List Stp) (x : Stp) : bestL g cell (l ++ [x]) = bestS g cell (bestL g cell l) x := by simp [bestL, List.foldl_append]
theorem bestF_mem {g : Gr} {cell : Int} : ∀ (l : List Stp) (b : Option Stp) {x : Stp}, l.foldl (bestS g cell) b = some x → (x ∈ l ∧ hAt g x.cell < hAt g cell) ∨ b = some x
  | [], b, x, h => .inr h
  | y :: l, b, x, h => by
    rcases bestF_mem l (bestS g cell b y) h with h1 | h1
    · exact .inl ⟨List.mem_cons_of_mem _ h1.1, h1.2⟩
    · unfold bestS at h1
      split at h1
      · rename_i hc
        injection h1 with h1
        subst h1
        exact .inl ⟨List.mem_cons_self .., hc.1⟩
      · exact .inr h1
theorem bestL_mem {g : Gr} {cell : Int} {l : List Stp} {x : Stp} (h : bestL g cell l = some x) : x ∈ l ∧ hAt g x.cell < hAt g cell := by
  rcases bestF_mem l none h with h1 | h1
  · exact h1
  · cases h1
def encD : Option Stp → Int
  | none => -1
  | some x => x.dir
def encS : Option Stp → Int
  | none => 0
  | some x => x.slope

def WayPost (g : Gr) (cell to_ : Int) (w : World) (e : Ending) (w' : World) : Prop :=
  ∃ z : Int, e = .returned (.int .i64 z) ∧ ((z = -1 ∧ ∀ a, a < 8 → goV g cell a ≠ to_) ∨ ∃ a : Nat, a < 8 ∧ z = a ∧ goV g cell a = to_ ∧ ∀ a', a' < a → goV g cell a' ≠ to_) ∧ Below w.heap.size w w'
set_option maxHeartbeats 1000000 in
theorem l09Way_c (g : Gr) (b : Nat) (A : Option Addr) (n c B : Nat) (cell : Nat) (to_ : Int) (w : World) (hg : GP w b B g A n c) (hok : g.ok = true) (hc : cell < n) :
    Calls Try.prog 56 #[.pointer (some ⟨b, 0, none⟩), .int .i64 cell, .int .i64 to_] w (WayPost g cell to_ w) := by
  have HG := Lib.hid fun W (hW : Below w.heap.size w W) a (ha : a < 8) => l09Go_c g b A n c B cell a W (hg.below hW) hok hc ha
  clear hg hok
  go_enter Try.func56, Try.ntmps56
  go_wp2
  go_loopw [7] (fun i wr => ∃ k : Nat, k ≤ 8 ∧ i = .int .i64 k ∧ Hid (∀ a, a < k → goV g cell a ≠ to_) ∧ Hid (Below w.heap.size w wr)) (fun i _ => 8 - (intOf i).toNat)
  case atStart => exact ⟨0, by omega, rfl, Lib.hid (fun a h => by omega), Lib.hid (Below.refl _ _)⟩
  case round =>
    obtain ⟨k, hk, rfl, HA, HT⟩ := hrel
    by_cases hlt : k < 8
    · have hlt' : (k : Int) < 8 := by omega
      go_wp2_with fail
      refine (HG.out wr HT.out k hlt).mono ?_
      rintro e w1 ⟨rfl, hb1⟩
      have HT1 := Lib.hid (HT.out.trans (hb1.mono HT.out.size)); clear hb1
      by_cases he : goV g cell k = to_
      · have HE := Lib.hid he
        have hq : (goV g cell k == to_) = true := by simpa using he
        clear he
        go_wp2
        go_ret
        exact ⟨k, rfl, .inr ⟨k, hlt, rfl, HE.out, HA.out⟩, HT1.out⟩
      · have HE := Lib.hid he
        have hq : (goV g cell k == to_) = false := by simpa using he
        clear he
        go_wp2
        go_roundw
        case rel => exact ⟨k + 1, by omega, by go_num, Lib.hid (fun a ha => by
          by_cases hak : a = k
          · subst hak; exact HE.out
          · exact HA.out a (by omega)), HT1⟩
        case measure => simp [intOf]; omega
    · obtain rfl : k = 8 := by omega
      go_wp2
      go_ret
      exact ⟨-1, rfl, .inl ⟨rfl, HA.out⟩, HT.out⟩
set_option maxHeartbeats 4000000 in
theorem l09Steepest_c (g : Gr) (b : Nat) (A : Option Addr) (n c B : Nat) (cell : Nat) (w : World) (hg : GP w b B g A n c) (hok : g.ok = true) (hc : cell < n) :
    Calls Try.prog 68 #[.pointer (some ⟨b, 0, none⟩), .int .i64 cell] w fun e w' => e = .returned (.tuple #[.int .i64 (encD (bestL g cell (nextTo g cell 8))), .int .i64 (encS (bestL g cell (nextTo g cell 8)))]) ∧ Below w.heap.size w w' := by
  have HG := Lib.hid fun W (hW : Below w.heap.size w W) a (ha : a < 8) => l09Go_c g b A n c B cell a W (hg.below hW) hok hc ha
  have HF := Lib.hid fun W (hW : Below w.heap.size w W) (to_ a : Nat) (ht : to_ < n) (ha : a < 8) => l09Fall_c g b A n c B cell to_ a W (hg.below hW) hok hc ht ha
  have HP := Lib.hid fun W (hW : Below w.heap.size w W) => hg.below hW
  have HOK := Lib.hid (Gr.ok_bd hok)
  have HL := Lib.hid hg.gs.len
  have hbig := hg.gs.big
  clear hg hok
  go_enter Try.func68, Try.ntmps68
  go_wp2
  go_loopw [6, 7, 8] (fun p q i wr => ∃ k : Nat, k ≤ 8 ∧ i = .int .i64 k ∧ p = .int .i64 (encD (bestL g cell (nextTo g cell k))) ∧ q = .int .i64 (encS (bestL g cell (nextTo g cell k))) ∧ Hid (Below w.heap.size w wr)) (fun _ _ i _ => 8 - (intOf i).toNat)
  case atStart => exact ⟨0, by omega, rfl, rfl, rfl, Lib.hid (Below.refl _ _)⟩
  case round =>
    obtain ⟨k, hk, rfl, rfl, rfl, HT⟩ := hrel
    by_cases hlt : k < 8
    · have hlt' : (k : Int) < 8 := by omega
      go_wp2_with fail
      refine (HG.out wr HT.out k hlt).mono ?_
      rintro e w1 ⟨rfl, hb1⟩
      have HT1 := Lib.hid (HT.out.trans (hb1.mono HT.out.size)); clear hb1
      rcases goV_cases (cell := (cell : Int)) (a := k) HOK.out with ⟨hgb, hgv⟩ | ⟨hgb, hg0, hg1⟩
      · have HN := Lib.hid (nextTo_f hgb)
        rw [hgv]
        clear hgb hgv
        go_wp2
        go_quiet (fail)
        go_wp2
        go_roundw
        case rel => exact ⟨k + 1, by omega, by go_num, by rw [HN.out], by rw [HN.out], Lib.hid (below_drewN HT1.out _)⟩
        case measure => simp [intOf]; omega
      · have HN := Lib.hid (nextTo_t hgb)
        have HNS := Lib.hid (bestL_snoc g cell (nextTo g cell k) (stpV g cell k))
        rw [HL.out] at hg1
        obtain ⟨to_, hto⟩ : ∃ t : Nat, goV g cell k = t := ⟨(goV g cell k).toNat, by omega⟩
        have HST := Lib.hid (show stpV g cell k = ⟨(to_ : Int), k, fallV g cell to_ k⟩ from by rw [stpV, hto])
        rw [hto] at hg0 hg1 ⊢
        have ht : to_ < n := by omega
        obtain ⟨ad, rfl, _, c1⟩ := (HP.out w1 HT1.out).gs.at_ ht
        obtain ⟨ad', e', _, c2⟩ := (HP.out w1 HT1.out).gs.at_ hc
        obtain rfl : ad = ad' := by injection e'
        have x3 := (HP.out w1 HT1.out).h
        have hc' : (cell : Int) < (n : Int) := by omega
        have hnn : ¬ (to_ : Int) < 0 := by omega
        clear hgb hto e'
        by_cases hh : hAt g to_ < hAt g cell
        · have hge : decide (hAt g cell ≤ hAt g to_) = false := by simp; omega
          have HHH := Lib.hid hh
          clear hh
          go_wp2
          go_quiet (fail)
          clear hge
          go_wp2_with fail
          refine (HF.out _ (below_drewN HT1.out _) to_ k ht hlt).mono ?_
          rintro e w' ⟨rfl, q', rfl⟩
          generalize fallV g cell to_ k = fv at *
          have HB : Hid (bestL g cell (nextTo g cell (k + 1)) = bestS g cell (bestL g cell (nextTo g cell k)) ⟨(to_ : Int), k, fv⟩) := Lib.hid (by rw [HN.out, HNS.out, HST.out])
          cases hbst : bestL g cell (nextTo g cell k) with
          | none =>
            have HV : Hid (bestL g cell (nextTo g cell (k + 1)) = some ⟨(to_ : Int), k, fv⟩) := Lib.hid (by rw [HB.out, hbst, bestS, if_pos ⟨HHH.out, rfl⟩])
            clear hbst
            go_wp2
            go_roundw
            case rel => exact ⟨k + 1, by omega, by go_num, by rw [HV.out]; rfl, by rw [HV.out]; rfl, Lib.hid (below_drewN HT1.out _)⟩
            case measure => simp [intOf]; omega
          | some y =>
            have hyd : 0 ≤ y.dir := by
              obtain ⟨a, _, _, hya⟩ := nextTo_mem (bestL_mem hbst).1
              rw [hya]; simp only [stpV]; omega
            have hed : encD (some y) = y.dir := rfl
            have hes : encS (some y) = y.slope := rfl
            rw [hed, hes]
            by_cases hsl : y.slope < fv
            · have HV : Hid (bestL g cell (nextTo g cell (k + 1)) = some ⟨(to_ : Int), k, fv⟩) := Lib.hid (by rw [HB.out, hbst, bestS, if_pos ⟨HHH.out, by simpa [beats] using hsl⟩])
              clear hbst hed hes
              go_wp2
              go_roundw
              case rel => exact ⟨k + 1, by omega, by go_num, by rw [HV.out]; rfl, by rw [HV.out]; rfl, Lib.hid (below_drewN HT1.out _)⟩
              case measure => simp [intOf]; omega
            · have HV : Hid (bestL g cell (nextTo g cell (k + 1)) = some y) := Lib.hid (by rw [HB.out, hbst, bestS, if_neg (fun h => hsl (by simpa [beats] using h.2))])
              clear hbst hed hes
              go_wp2
              go_roundw
              case rel => exact ⟨k + 1, by omega, by go_num, by rw [HV.out]; rfl, by rw [HV.out]; rfl, Lib.hid (below_drewN HT1.out _)⟩
              case measure => simp [intOf]; omega
        · have hge : decide (hAt g cell ≤ hAt g to_) = true := by simp; omega
          have HHH := Lib.hid hh
          have HV : Hid (bestL g cell (nextTo g cell (k + 1)) = bestL g cell (nextTo g cell k)) := Lib.hid (by rw [HN.out, HNS.out, HST.out, bestS, if_neg (fun h => HHH.out h.1)])
          clear hh
          go_wp2
          go_quiet (fail)
          clear hge
          go_wp2
          go_roundw
          case rel => exact ⟨k + 1, by omega, by go_num, by rw [HV.out], by rw [HV.out], Lib.hid (below_drewN HT1.out _)⟩
          case measure => simp [intOf]; omega
    · obtain rfl : k = 8 := by omega
      go_wp2
      go_ret2
      exact ⟨rfl, HT.out⟩
end Go.Proofs.Ytaoomildopmclaa
