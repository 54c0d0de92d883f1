/- Valid regions by both, by their data; the regions with high levels. -/
import Derived.Test.YtdhopagmbbflkaaRgM
import Derived.Test.YtdhopagmbbflkaaRgP
import Derived.Test.YtdhopagmbbflkaaMk
import Derived.Test.YtdhopagmbbflkaaPut
namespace Go.Proofs.Ytdhopagmbbflkaa
open Go.ChangeShapes Go.WideShapes Go.ChangeAt Go.RowKit
set_option linter.unusedVariables false

theorem iValidRegions_d (A : Option Addr) (n c BA : Nat) (rs : List Rg) (w : World) (ha : Regs w BA A n rs) (hB : BA ≤ w.heap.size) (hx : ∀ x ∈ rs, x.n ≤ 1048576) (hn : n ≤ 1048576) :
    Calls Try.prog 18 #[.slice A n c] w fun e w' => e = .returned (.bool (validD (rs.map Rg.dat))) ∧ Below w.heap.size w w' := by
  rw [← validR_dat]; exact iValidRegions_c A n c BA rs w ha hB hx hn
theorem l18Ok_d (A : Option Addr) (n c BA : Nat) (rs : List Rg) (w : World) (ha : Regs w BA A n rs) (hx : ∀ x ∈ rs, x.n ≤ 1048576) (hn : n ≤ 1048576) :
    Calls Try.prog 48 #[.slice A n c] w fun e w' => e = .returned (.bool (validD (rs.map Rg.dat))) ∧ Below w.heap.size w w' := by
  rw [← validR_dat]; exact l18Ok_c A n c BA rs w ha hx hn
theorem sValidRegions_d (A : Option Addr) (n c BA : Nat) (rs : List Rg) (w : World) (ha : Regs w BA A n rs) (hB : BA ≤ w.heap.size) (hx : ∀ x ∈ rs, x.n ≤ 1048576) (hn : n ≤ 1048576) :
    Calls Try.prog 17 #[.slice A n c] w fun e w' => e = .returned (.bool (validD (rs.map Rg.dat))) ∧ Below w.heap.size w w' := by
  have HC := Lib.hid (l18Ok_d A n c BA rs w ha hx hn)
  clear ha hx
  go_enter Try.func17, Try.ntmps17
  go_wp2_with fail
  refine HC.out.mono ?_
  rintro e w1 ⟨rfl, B1⟩
  have HB := Lib.hid B1; clear B1
  go_wp2
  go_ret
  exact ⟨rfl, HB.out⟩
theorem validD_len {rs : List Rg} (h : validD (rs.map Rg.dat) = true) : rs.length ≤ 8 := by rw [← validR_dat] at h; exact (valid_len h).1

/-! ### append of one text -/
theorem app_str {ops : Array Oper} {rest : List Oper} {o : Oper} {a : Act} {Q : Exit → Act → World → Prop} {w : World} (hgd : o.guard = none) (s x : Operand)
    (ho : o.op = .call { callee := .builtin .append, args := #[s, x], argTypes := #[30, 30] })
    (lo : Nat) (v : Value) (n : Nat) (l : List ByteArray) (z : ByteArray) (g : Nat) (hs : a.eval s = v) (hown : w.ownsRow lo 9 1 v n (strs l))
    (hx : a.eval x = .slice (some ⟨g, 0, none⟩) 1 1) (hc : w.cell? ⟨g, 0, none⟩ = some (.string z)) (hn : n ≤ 100000000000) (hlo : lo ≤ w.heap.size)
    (h : ∀ v' w', w'.ownsRow lo 9 1 v' (n + 1) (strs (l ++ [z])) → Below lo w w' → w.heap.size ≤ w'.heap.size → wpList Try.prog ops Q rest (a.put o.dst v') w') : wpList Try.prog ops Q (o :: rest) a w := by
  refine app_gen hgd s x _ ho lo _ _ 1 16 Try.underlying30 info_str rfl (by omega) (by omega) v n (strs l) [.string z] g hs hown hx rfl (by simp [Value.oneCell']) (fun j u hu => ?_) hn hlo (fun v' w' h1 h2 h3 => h v' w' (by simpa [strs] using h1) h2 h3)
  match j with
  | 0 => simp at hu; rw [hc, hu]
  | j + 1 => simp at hu
/-- a call's results: a list of texts and a code -/
def StrsPost (v : List ByteArray × Int) (w : World) (e : Ending) (w' : World) : Prop :=
  ∃ A n c, e = .returned (.tuple #[.slice A n c, .int .i64 v.2]) ∧ Own w' w.heap.size w'.heap.size 9 1 (.slice A n c) n (strs v.1) ∧ n ≤ 1048576 ∧ Below w.heap.size w w'
theorem StrsPost.err {v : List ByteArray × Int} {k : Int} {w w' : World} (hv : v = ([], k)) (hb : Below w.heap.size w w') : StrsPost v w (.returned (.tuple #[.slice none 0 0, .int .i64 k])) w' := by
  subst hv; exact ⟨none, 0, 0, rfl, Own.nil, by omega, hb⟩
theorem StrsPost.ok {v : List ByteArray × Int} {l : List ByteArray} {m : Nat} {o : Value} {w w' : World} (hv : v = (l, 0)) (ho : w'.ownsRow w.heap.size 9 1 o m (strs l)) (hm : m ≤ 1048576) (hb : Below w.heap.size w w') : StrsPost v w (.returned (.tuple #[o, .int .i64 0])) w' := by
  subst hv
  have h := Own.of_owns ho (Nat.le_refl _)
  obtain ⟨A, c, rfl, _, _⟩ := h.slice
  exact ⟨A, m, c, rfl, h, hm, hb⟩
def highTo (ds : List Dat) (least : Int) (k : Nat) : List ByteArray := ((ds.take k).filter fun d => decide (least ≤ d.2.1)).map (·.1)
theorem highTo_succ {ds : List Dat} {least : Int} {k : Nat} {d : Dat} (h : ds[k]? = some d) : highTo ds least (k + 1) = if least ≤ d.2.1 then highTo ds least k ++ [d.1] else highTo ds least k := by
  unfold highTo
  rw [List.take_add_one, h]
  by_cases hc : least ≤ d.2.1 <;> simp [List.filter_append, hc]
def highV (ds : List Dat) (least : Int) : List ByteArray × Int := if validD ds = false then ([], 1) else if inB least 1 5 = false then ([], 2) else (highTo ds least ds.length, 0)
set_option maxHeartbeats 2000000 in
theorem iHighRegions_d (A : Option Addr) (n c BA : Nat) (rs : List Rg) (least : Int) (w : World) (ha : Regs w BA A n rs) (hB : BA ≤ w.heap.size) (hx : ∀ x ∈ rs, x.n ≤ 1048576) (hn : n ≤ 1048576) :
    Calls Try.prog 20 #[.slice A n c, .int .i64 least] w (StrsPost (highV (rs.map Rg.dat) least) w) := by
  have HC := Lib.hid (iValidRegions_d A n c BA rs w ha hB hx hn)
  have HVD := Lib.hid (show highV (rs.map Rg.dat) least = if validD (rs.map Rg.dat) = false then ([], 1) else if inB least 1 5 = false then ([], 2) else (highTo (rs.map Rg.dat) least (rs.map Rg.dat).length, 0) from rfl)
  have HL := Lib.hid ha.len
  have HA := Lib.hid ha
  clear ha hx
  generalize highV (rs.map Rg.dat) least = V at *
  go_enter Try.func20, Try.ntmps20
  go_wp2_with fail
  refine HC.out.mono ?_
  rintro e w1 ⟨rfl, B1⟩
  have T := Lib.hid B1; clear B1
  cases hv : validD (rs.map Rg.dat)
  · have HV : Hid (V = ([], 1)) := Lib.hid (by rw [HVD.out, if_pos hv])
    clear hv HC
    go_wp2
    go_ret2
    exact StrsPost.err HV.out T.out
  · have H8 := Lib.hid (validD_len hv)
    have HV1 := Lib.hid (show V = if inB least 1 5 = false then ([], 2) else (highTo (rs.map Rg.dat) least (rs.map Rg.dat).length, 0) by rw [HVD.out, hv]; rfl)
    clear hv HC HVD
    go_wp2_with fail
    refine (levelOk_c least w1).mono ?_
    rintro e w2 ⟨rfl, rfl⟩
    cases hl : inB least 1 5
    · have HV : Hid (V = ([], 2)) := Lib.hid (by rw [HV1.out, if_pos hl])
      clear hl
      go_wp2
      go_ret2
      exact StrsPost.err HV.out T.out
    · have HV : Hid (V = (highTo (rs.map Rg.dat) least n, 0)) := Lib.hid (by rw [HV1.out, hl, List.length_map, HL.out]; rfl)
      clear hl HV1
      go_wp2
      go_loopw [6, 19] (fun o i wr => ∃ k m : Nat, k ≤ n ∧ m ≤ k ∧ i = .int .i64 k ∧ Hid (wr.ownsRow w.heap.size 9 1 o m (strs (highTo (rs.map Rg.dat) least k))) ∧ Hid (Below w.heap.size w wr)) (fun _ i _ => n - (intOf i).toNat)
      case atStart => exact ⟨0, 0, Nat.zero_le _, Nat.le_refl _, rfl, Lib.hid (World.ownsRow_nil _ _ _ _), T⟩
      case round =>
        obtain ⟨k, m, hk, hm, rfl, HO, HT⟩ := hrel
        have hwz := HT.out.size
        by_cases hlt : k < n
        · obtain ⟨ad, x, rfl, hbl, hs, hnx, c0, c1, c2⟩ := (HA.out.below (HT.out.mono hB)).at_ hlt
          have HN := Lib.hid (highTo_succ (least := least) (dat_get hs))
          have hkn : (k : Int) < (n : Int) := by omega
          clear hs hnx
          by_cases hle : least ≤ x.lv
          · have HY : Hid (highTo (rs.map Rg.dat) least (k + 1) = highTo (rs.map Rg.dat) least k ++ [x.id]) := Lib.hid (by rw [HN.out]; exact if_pos hle)
            have hd : decide (least ≤ x.lv) = true := by simpa using hle
            clear HN hle
            go_wp2_with (at_builtin; refine app_str rfl (.tmp 27) (.tmp 30) rfl w.heap.size _ m (highTo (rs.map Rg.dat) least k) x.id _ rfl (owns_al (owns_al HO.out _) _) rfl ?_ (by omega) ?_ ?_)
            rotate_left 2
            · intro v' w' O4 B4 hs4
              have HO4 := Lib.hid O4
              have HT4 := Lib.hid ((HT.out.alloc hwz _ |>.alloc (by simp; omega) _).trans B4)
              clear O4 B4 hs4 c0 c1 c2
              go_wp2
              go_roundw
              case rel => exact ⟨k + 1, m + 1, by omega, by omega, by go_num, Lib.hid (by rw [HY.out]; exact HO4.out), HT4⟩
              case measure => simp [intOf]; omega
            · simp
            · simp; omega
          · have HY : Hid (highTo (rs.map Rg.dat) least (k + 1) = highTo (rs.map Rg.dat) least k) := Lib.hid (by rw [HN.out]; exact if_neg hle)
            have hd : decide (least ≤ x.lv) = false := by simpa using hle
            clear HN hle
            go_wp2
            go_roundw
            case rel => exact ⟨k + 1, m, by omega, by omega, by go_num, Lib.hid (by rw [HY.out]; exact owns_al HO.out _), Lib.hid (HT.out.alloc hwz _)⟩
            case measure => simp [intOf]; omega
        · obtain rfl : k = n := by omega
          go_wp2
          go_ret2
          exact StrsPost.ok HV.out HO.out (by omega) HT.out
set_option maxHeartbeats 2000000 in
theorem sHighRegions_d (A : Option Addr) (n c BA : Nat) (rs : List Rg) (least : Int) (w : World) (ha : Regs w BA A n rs) (hB : BA ≤ w.heap.size) (hx : ∀ x ∈ rs, x.n ≤ 1048576) (hn : n ≤ 1048576) :
    Calls Try.prog 19 #[.slice A n c, .int .i64 least] w (StrsPost (highV (rs.map Rg.dat) least) w) := by
  have HC := Lib.hid (l18Ok_d A n c BA rs w ha hx hn)
  have HVD := Lib.hid (show highV (rs.map Rg.dat) least = if validD (rs.map Rg.dat) = false then ([], 1) else if inB least 1 5 = false then ([], 2) else (highTo (rs.map Rg.dat) least (rs.map Rg.dat).length, 0) from rfl)
  have HL := Lib.hid ha.len
  have HA := Lib.hid ha
  clear ha hx
  generalize highV (rs.map Rg.dat) least = V at *
  go_enter Try.func19, Try.ntmps19
  go_wp2_with fail
  refine HC.out.mono ?_
  rintro e w1 ⟨rfl, B1⟩
  have T := Lib.hid B1; clear B1
  cases hv : validD (rs.map Rg.dat)
  · have HV : Hid (V = ([], 1)) := Lib.hid (by rw [HVD.out, if_pos hv])
    clear hv HC
    go_wp2
    go_ret2
    exact StrsPost.err HV.out T.out
  · have H8 := Lib.hid (validD_len hv)
    have HV1 := Lib.hid (show V = if inB least 1 5 = false then ([], 2) else (highTo (rs.map Rg.dat) least (rs.map Rg.dat).length, 0) by rw [HVD.out, hv]; rfl)
    clear hv HC HVD
    go_wp2_with fail
    refine (l17Is_c least w1).mono ?_
    rintro e w2 ⟨rfl, rfl⟩
    cases hl : inB least 1 5
    · have HV : Hid (V = ([], 2)) := Lib.hid (by rw [HV1.out, if_pos hl])
      clear hl
      go_wp2
      go_ret2
      exact StrsPost.err HV.out T.out
    · have HV : Hid (V = (highTo (rs.map Rg.dat) least n, 0)) := Lib.hid (by rw [HV1.out, hl, List.length_map, HL.out]; rfl)
      have hwz1 := T.out.size
      have O1 : Hid ((w1.alloc (.cells #[] 9)).ownsRow w.heap.size 9 1 (.slice (some ⟨w1.heap.size, 0, none⟩) 0 0) 0 (strs [])) := Lib.hid (World.ownsRow_lit (w := w1) (base := w.heap.size) (e := 9) (size := 1) #[] 0 (by omega) (by simp [maxLen]) (by simp))
      have T1 := Lib.hid (T.out.alloc hwz1 (.cells #[] 9))
      clear hl HV1
      go_wp2
      go_loopw [6, 7] (fun o i wr => ∃ k m : Nat, k ≤ n ∧ m ≤ k ∧ i = .int .i64 k ∧ Hid (wr.ownsRow w.heap.size 9 1 o m (strs (highTo (rs.map Rg.dat) least k))) ∧ Hid (Below w.heap.size w wr)) (fun _ i _ => n - (intOf i).toNat)
      case atStart => exact ⟨0, 0, Nat.zero_le _, Nat.le_refl _, rfl, O1, T1⟩
      case round =>
        clear O1 T1
        obtain ⟨k, m, hk, hm, rfl, HO, HT⟩ := hrel
        have hwz := HT.out.size
        by_cases hlt : k < n
        · obtain ⟨ad, x, rfl, hbl, hs, hnx, c0, c1, c2⟩ := (HA.out.below (HT.out.mono hB)).at_ hlt
          have HN := Lib.hid (highTo_succ (least := least) (dat_get hs))
          have hkn : (k : Int) < (n : Int) := by omega
          clear hs hnx
          by_cases hle : least ≤ x.lv
          · have HY : Hid (highTo (rs.map Rg.dat) least (k + 1) = highTo (rs.map Rg.dat) least k ++ [x.id]) := Lib.hid (by rw [HN.out]; exact if_pos hle)
            have hd : decide (least ≤ x.lv) = true := by simpa using hle
            clear HN hle
            go_wp2_with (at_builtin; refine app_str rfl (.tmp 28) (.tmp 34) rfl w.heap.size _ m (highTo (rs.map Rg.dat) least k) x.id _ rfl (owns_al HO.out _) rfl ?_ (by omega) ?_ ?_)
            rotate_left 2
            · intro v' w' O4 B4 hs4
              have HO4 := Lib.hid O4
              have HT4 := Lib.hid ((HT.out.alloc hwz _).trans B4)
              clear O4 B4 hs4 c0 c1 c2
              go_wp2
              go_roundw
              case rel => exact ⟨k + 1, m + 1, by omega, by omega, by go_num, Lib.hid (by rw [HY.out]; exact HO4.out), HT4⟩
              case measure => simp [intOf]; omega
            · exact (Blk.new _ _ _).cell 0
            · simp; omega
          · have HY : Hid (highTo (rs.map Rg.dat) least (k + 1) = highTo (rs.map Rg.dat) least k) := Lib.hid (by rw [HN.out]; exact if_neg hle)
            have hd : decide (least ≤ x.lv) = false := by simpa using hle
            clear HN hle
            go_wp2
            go_roundw
            case rel => exact ⟨k + 1, m, by omega, by omega, by go_num, Lib.hid (by rw [HY.out]; exact HO.out), HT⟩
            case measure => simp [intOf]; omega
        · obtain rfl : k = n := by omega
          go_wp2
          go_ret2
          exact StrsPost.ok HV.out HO.out (by omega) HT.out
end Go.Proofs.Ytdhopagmbbflkaa
