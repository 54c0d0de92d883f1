/- The decimal form of a number, by the reference. -/
import Derived.Test.YteklfeeamjgplaaGreatDoorMio
import Derived.Lib.ItoaNum
import Derived.Laws.IdiomStrings
namespace Go.Proofs.YteklfeeamjgplaaGreatDoor
open Go.ChangeShapes Go.WideShapes Go.ChangeAt Go.RowKit
set_option linter.unusedVariables false
def bys (l : List UInt8) : List Value := l.map fun b => Value.int .u8 (b.toNat : Nat)
theorem bys_app (a b : List UInt8) : bys (a ++ b) = bys a ++ bys b := by simp [bys]
theorem info_u8b : (Tryz.prog.info? 5).map (fun i => (i.zero, i.size, i.bytes)) = some (some (.int .u8 0), 1, 1) := by kernel_rfl
theorem app_u8 {ops : Array Oper} {rest : List Oper} {o : Oper} {a : Act} {Q : Exit → Act → World → Prop} {w : World} (hgd : o.guard = none) (s x : Operand)
    (ho : o.op = .call { callee := .builtin .append, args := #[s, x], argTypes := #[22, 22] })
    (lo : Nat) (v : Value) (n : Nat) (l : List UInt8) (z : UInt8) (g : Nat) (hs : a.eval s = v) (hown : w.ownsRow lo 5 1 v n (bys l))
    (hx : a.eval x = .slice (some ⟨g, 0, none⟩) 1 1) (hc : w.cell? ⟨g, 0, none⟩ = some (.int .u8 (z.toNat : Nat))) (hn : n ≤ 100000000000) (hlo : lo ≤ w.heap.size)
    (h : ∀ v' w', w'.ownsRow lo 5 1 v' (n + 1) (bys (l ++ [z])) → Below lo w w' → w.heap.size ≤ w'.heap.size → wpList Tryz.prog ops Q rest (a.put o.dst v') w') : wpList Tryz.prog ops Q (o :: rest) a w := by
  refine app_gen hgd s x _ ho lo _ _ 1 1 Tryz.underlying22 info_u8b rfl (by omega) (by omega) v n (bys l) [.int .u8 (z.toNat : Nat)] g hs hown hx rfl (by simp [Value.oneCell']) (fun j u hu => ?_) hn hlo (fun v' w' h1 h2 h3 => h v' w' (by simpa [bys] using h1) h2 h3)
  match j with
  | 0 => simp at hu; rw [hc, hu]
  | j + 1 => simp at hu
theorem owns_alD {w : World} {lo s n : Nat} {T : TypeId} {v : Value} {xs : List Value} (h : w.ownsRow lo T s v n xs) (o : Obj) : (w.alloc o).ownsRow lo T s v n xs := by
  have h2 : Own w lo w.heap.size T s v n xs := Own.of_owns h (Nat.le_refl _)
  exact (h2.below ((Below.refl w.heap.size w).alloc (Nat.le_refl _) o) (Nat.le_refl _)).1
/-- the digits of what is left, none of nothing -/
def dg (m : Nat) : List UInt8 := if m = 0 then [] else Lib.decDigits m
theorem dg_step {m : Nat} (h : 0 < m) : dg m = dg (m / 10) ++ [UInt8.ofNat (48 + m % 10)] := by
  rw [dg, if_neg (by omega), Lib.decDigits]
  split
  · rename_i h10
    rw [show m / 10 = 0 by omega, show m % 10 = m by omega]; rfl
  · rename_i h10
    rw [dg, if_neg (by omega)]
theorem dg_len : ∀ (f m : Nat), m < 10 ^ f → (dg m).length ≤ f
  | 0, m, h => by rw [show m = 0 by omega]; simp [dg]
  | f + 1, m, h => by
    by_cases h0 : m = 0
    · subst h0; simp [dg]
    · have ih := dg_len f (m / 10) (by rw [Nat.pow_succ] at h; omega)
      rw [dg_step (by omega), List.length_append]
      simp; omega
def decB (n : Nat) : ByteArray := ⟨(Lib.decDigits n).toArray⟩
set_option maxHeartbeats 4000000 in
set_option maxRecDepth 100000 in
theorem l01Dec_c (n : Nat) (w : World) (hn : n ≤ 9223372036854775807) :
    Calls Tryz.prog 43 #[.int .i64 n] w fun e w' => e = .returned (.string (decB n)) ∧ Below w.heap.size w w' := by
  by_cases h0 : n = 0
  · subst h0
    have HV : Hid (decB 0 = ⟨#[48]⟩) := Lib.hid (by unfold decB; rw [Lib.decDigits]; rfl)
    go_enter Tryz.func43, Tryz.ntmps43
    go_wp2
    go_ret
    exact ⟨by rw [HV.out]; rfl, Below.refl _ _⟩
  · have hz : ((n : Int) == 0) = false := by simpa using h0
    have HD : Hid (decB n = ⟨(dg n).toArray⟩) := Lib.hid (by rw [decB, dg, if_neg h0])
    have O1 : Hid ((w.alloc (.cells #[] 5)).ownsRow w.heap.size 5 1 (.slice (some ⟨w.heap.size, 0, none⟩) 0 0) 0 (bys [])) := Lib.hid (World.ownsRow_lit (w := w) (base := w.heap.size) (e := 5) (size := 1) #[] 0 (Nat.le_refl _) (by simp [maxLen]) (by simp))
    have B1 : Hid (Below w.heap.size w (w.alloc (.cells #[] 5))) := Lib.hid ((Below.refl _ _).alloc (Nat.le_refl _) _)
    have HLN := Lib.hid (dg_len 19 n (by omega))
    have HDP : Hid (Lib.decDigits n ≠ []) := Lib.hid (by rw [Lib.decDigits]; split <;> simp)
    clear h0
    go_enter Tryz.func43, Tryz.ntmps43
    go_wp2
    go_loopw [3, 4] (fun dv mv wr => ∃ (m : Nat) (ds : List UInt8), m ≤ n ∧ mv = .int .i64 m ∧ dg n = dg m ++ ds.reverse ∧ Hid (wr.ownsRow w.heap.size 5 1 dv ds.length (bys ds)) ∧ Hid (Below w.heap.size w wr)) (fun _ mv _ => (intOf mv).toNat)
    case atStart => exact ⟨n, [], Nat.le_refl _, rfl, by simp, O1, B1⟩
    case round =>
      clear O1 B1
      obtain ⟨m, ds, hm, rfl, hdg, HO, HB⟩ := hrel
      have hwr := HB.out.size
      have hln : ds.length ≤ 19 := by
        have h := congrArg List.length hdg
        rw [List.length_append, List.length_reverse] at h
        have := HLN.out
        omega
      have HDG := Lib.hid hdg
      clear hdg
      by_cases hm0 : m = 0
      · subst hm0
        rw [show ((0 : Nat) : Int) = 0 from rfl]
        have hn0 : decide ((n : Int) < 0) = false := by simp
        obtain ⟨A1, c1, rfl, _, _⟩ := (Own.of_owns HO.out (Nat.le_refl _)).slice
        have HV : Hid (decB n = ⟨ds.reverse.toArray⟩) := Lib.hid (by rw [HD.out, HDG.out]; rfl)
        have O2 : Hid ((wr.alloc (.cells #[] 5)).ownsRow wr.heap.size 5 1 (.slice (some ⟨wr.heap.size, 0, none⟩) 0 0) 0 (bys [])) := Lib.hid (World.ownsRow_lit (w := wr) (base := wr.heap.size) (e := 5) (size := 1) #[] 0 (Nat.le_refl _) (by simp [maxLen]) (by simp))
        have HR : Hid (Reads wr wr.heap.size 1 A1 ds.length (bys ds)) := Lib.hid (Own.of_owns HO.out (Nat.le_refl _)).reads
        have HB2 := Lib.hid (HB.out.alloc hwr (.cells #[] 5))
        have HBS : Hid (Below wr.heap.size wr (wr.alloc (.cells #[] 5))) := Lib.hid ((Below.refl _ _).alloc (Nat.le_refl _) _)
        have hwl : IntKind.i64.wrap ((ds.length : Int) - 1) = (ds.length : Int) - 1 := IntWalk.i64_in _ (by omega)
        clear HO HD HDG
        generalize wr = w1 at *
        go_wp2
        clear hwl
        go_loopw [6, 7] (fun ov iv wq => ∃ k : Nat, k ≤ ds.length ∧ iv = .int .i64 ((k : Int) - 1) ∧ Hid (wq.ownsRow w1.heap.size 5 1 ov (ds.length - k) (bys (ds.drop k).reverse)) ∧ Hid (Below w.heap.size w wq) ∧ Hid (Below w1.heap.size w1 wq)) (fun _ iv _ => (intOf iv + 1).toNat)
        case atStart => exact ⟨ds.length, Nat.le_refl _, rfl, by rw [Nat.sub_self, List.drop_length]; exact O2, HB2, HBS⟩
        case round =>
          clear O2 HB2 HBS
          obtain ⟨k, hk, rfl, HO3, HB3, HBS3⟩ := hrel
          have hwq := HBS3.out.size
          by_cases hk0 : k = 0
          · subst hk0
            have hge : decide ((0 : Int) ≤ ((0 : Nat) : Int) - 1) = false := by simp
            obtain ⟨A3, c3, rfl, _, _⟩ := (Own.of_owns HO3.out (Nat.le_refl _)).slice
            rw [List.drop_zero, Nat.sub_zero] at HO3
            by_cases hd0 : ds.length = 0
            · exfalso
              have h1 : ds = [] := List.eq_nil_of_length_eq_zero hd0
              have h2 := HV.out
              rw [h1] at h2
              have h3 : (decB n).data.size = 0 := by rw [h2]; rfl
              have h4 := HDP.out
              unfold decB at h3
              simp at h3
              exact h4 h3
            · obtain ⟨g, rfl, _, _, _⟩ := (Own.of_owns HO3.out (Nat.le_refl _)).at_ (by omega)
              have hcv := Go.run_convert_bytes_back (P := Tryz.prog) wr 22 9 5 ⟨g, 0, none⟩ c3 ds.reverse Tryz.underlying22 Tryz.underlying5 Tryz.underlying9 (fun j hj => by
                rw [show (⟨g, 0, none⟩ : Addr).add j = ⟨g, j, none⟩ from by unfold Addr.add; split <;> simp_all]
                rw [HO3.out.cellAt j (by rw [List.length_reverse] at hj; omega)]
                unfold bys
                rw [List.getElem?_map, List.getElem?_eq_getElem hj]; rfl)
              rw [List.length_reverse] at hcv
              rw [← HV.out] at hcv
              simp only [Nat.sub_zero]
              go_wp2
              go_ret
              exact ⟨rfl, HB3.out⟩
          · have hge : decide ((0 : Int) ≤ (k : Int) - 1) = true := by simp; omega
            obtain ⟨j, rfl⟩ : ∃ j, k = j + 1 := ⟨k - 1, by omega⟩
            have hjd : j < ds.length := by omega
            have e1 : (((j + 1 : Nat) : Int) - 1) = (j : Int) := by omega
            rw [e1] at hge ⊢
            have hb : ds[j]? = some (ds[j]) := List.getElem?_eq_getElem hjd
            obtain ⟨ad, u, rfl, _, hu, cu⟩ := (HR.out.below HBS3.out).at_ hjd
            have hub : u = .int .u8 ((ds[j].toNat : Nat) : Int) := by
              unfold bys at hu
              rw [List.getElem?_map, hb] at hu
              injection hu with hu
              exact hu.symm
            subst hub
            have hjn : (j : Int) < (ds.length : Int) := by omega
            have hj0 : (0 : Int) ≤ (j : Int) := by omega
            have HT : Hid ((ds.drop j).reverse = (ds.drop (j + 1)).reverse ++ [ds[j]]) := Lib.hid (by rw [List.drop_eq_getElem_cons hjd, List.reverse_cons])
            have HOW := Lib.hid (owns_alD HO3.out (.cells #[.int .u8 ((ds[j].toNat : Nat) : Int)] 5))
            have hlk : ds.length - (j + 1) + 1 = ds.length - j := by omega
            generalize ds[j] = b8 at *
            clear hb hu
            go_wp2_with (at_builtin; refine app_u8 rfl (.tmp 41) (.tmp 46) rfl w1.heap.size _ (ds.length - (j + 1)) (ds.drop (j + 1)).reverse b8 _ rfl HOW.out rfl ?_ (by omega) ?_ ?_)
            rotate_left 2
            · intro v' w2 O4 B4 hs4
              have HO4 : Hid (w2.ownsRow w1.heap.size 5 1 v' (ds.length - j) (bys (ds.drop j).reverse)) := Lib.hid (by rw [HT.out]; exact O4)
              have hal := (Below.refl w1.heap.size wr).alloc hwq (.cells #[.int .u8 ((b8.toNat : Nat) : Int)] 5)
              have HB4 := Lib.hid (HB3.out.trans ((hal.trans B4).mono hwr))
              have HBS4 := Lib.hid (HBS3.out.trans (hal.trans B4))
              clear O4 B4 hs4 HOW hal
              go_wp2
              go_roundw
              case rel => exact ⟨j, by omega, rfl, HO4, HB4, HBS4⟩
              case measure => simp [intOf]
            · exact (Blk.new _ _ _).cell 0
            · simp; omega
      · have hmz : ((m : Int) != 0) = true := by simpa using hm0
        have hrl : decide ((m : Int) % 10 < 0) = false := by simp; omega
        have hz8 : (((UInt8.ofNat (48 + m % 10)).toNat : Nat) : Int) = 48 + (m : Int) % 10 := by
          have : (UInt8.ofNat (48 + m % 10)).toNat = 48 + m % 10 := by rw [UInt8.toNat_ofNat']; omega
          omega
        have hds := dg_step (show 0 < m by omega)
        obtain ⟨b8, hb8⟩ : ∃ b : UInt8, b = UInt8.ofNat (48 + m % 10) := ⟨_, rfl⟩
        rw [← hb8] at hz8 hds
        have HDN : Hid (dg n = dg (m / 10) ++ (ds ++ [b8]).reverse) := Lib.hid (by rw [HDG.out, hds]; simp)
        have HZ8 := Lib.hid hz8
        have HOW := Lib.hid (owns_alD HO.out (.cells #[.int .u8 (48 + (m : Int) % 10)] 5))
        have hmp : 0 < m := by omega
        clear hm0 hz8 hb8 hds
        go_wp2_with (at_builtin; refine app_u8 rfl (.tmp 22) (.tmp 26) rfl w.heap.size _ ds.length ds b8 _ rfl HOW.out rfl ?_ (by omega) ?_ ?_)
        rotate_left 2
        · intro v' w2 O4 B4 hs4
          have HO2 : Hid (w2.ownsRow w.heap.size 5 1 v' (ds ++ [b8]).length (bys (ds ++ [b8]))) := Lib.hid (by rw [List.length_append]; exact O4)
          have HB2 := Lib.hid (HB.out.trans ((((Below.refl w.heap.size wr).alloc hwr (.cells #[.int .u8 (48 + (m : Int) % 10)] 5))).trans B4))
          clear O4 B4 hs4 HOW
          go_wp2
          go_roundw
          case rel => exact ⟨m / 10, _, by omega, by rw [Int.natCast_ediv]; rfl, HDN.out, HO2, HB2⟩
          case measure => simp [intOf]; omega
        · rw [HZ8.out]; exact (Blk.new _ _ _).cell 0
        · simp; omega
end Go.Proofs.YteklfeeamjgplaaGreatDoor
