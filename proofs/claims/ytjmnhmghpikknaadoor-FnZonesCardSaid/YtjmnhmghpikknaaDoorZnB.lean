/- Texts of zones: names, least, lines. -/
import Derived.Test.YtjmnhmghpikknaaDoorZnA
import Derived.Test.YtjmnhmghpikknaaDoorRgA
import Derived.Test.YtjmnhmghpikknaaDoorSl
import Derived.BigQuiet
import Derived.Lib.QuietBelow
namespace Go.Proofs.YtjmnhmghpikknaaDoor
open Go.ChangeShapes Go.WideShapes Go.ChangeAt Go.RowKit
set_option linter.unusedVariables false
theorem zquiet_b {P : Program} {f : FuncId} {args : Array Value} {w : World} {v : Value} (h : Calls P f args w fun e w' => e = .returned v ∧ w = w') :
    Calls P f args w fun e w' => e = .returned v ∧ Below w.heap.size w w' := h.mono fun _ _ ⟨he, hw⟩ => ⟨he, by subst hw; exact Below.refl _ _⟩
theorem app_str {ops : Array Oper} {rest : List Oper} {o : Oper} {a : Act} {Q : Exit → Act → World → Prop} {w : World} (hgd : o.guard = none) (s x : Operand)
    (ho : o.op = .call { callee := .builtin .append, args := #[s, x], argTypes := #[52, 52] })
    (lo : Nat) (v : Value) (n : Nat) (l : List ByteArray) (z : ByteArray) (g : Nat) (hs : a.eval s = v) (hown : w.ownsRow lo 9 1 v n (strs l))
    (hx : a.eval x = .slice (some ⟨g, 0, none⟩) 1 1) (hc : w.cell? ⟨g, 0, none⟩ = some (.string z)) (hn : n ≤ 100000000000) (hlo : lo ≤ w.heap.size)
    (h : ∀ v' w', w'.ownsRow lo 9 1 v' (n + 1) (strs (l ++ [z])) → Below lo w w' → w.heap.size ≤ w'.heap.size → wpList Tryd.prog ops Q rest (a.put o.dst v') w') : wpList Tryd.prog ops Q (o :: rest) a w := by
  refine app_gen hgd s x _ ho lo _ _ 1 16 Tryd.underlying52 info_str rfl (by omega) (by omega) v n (strs l) [.string z] g hs hown hx rfl (by simp [Value.oneCell']) (fun j u hu => ?_) hn hlo (fun v' w' h1 h2 h3 => h v' w' (by simpa [strs] using h1) h2 h3)
  match j with
  | 0 => simp at hu; rw [hc, hu]
  | j + 1 => simp at hu
theorem owns_alZ {w : World} {lo s n : Nat} {T : TypeId} {v : Value} {xs : List Value} (h : w.ownsRow lo T s v n xs) (o : Obj) : (w.alloc o).ownsRow lo T s v n xs := by
  have h2 : Own w lo w.heap.size T s v n xs := Own.of_owns h (Nat.le_refl _)
  exact (h2.below ((Below.refl w.heap.size w).alloc (Nat.le_refl _) o) (Nat.le_refl _)).1
theorem owns_belZ {w w' : World} {lo B s n : Nat} {T : TypeId} {v : Value} {xs : List Value} (h : w.ownsRow lo T s v n xs) (hb : Below B w w') (hB : w.heap.size ≤ B) : w'.ownsRow lo T s v n xs :=
  ((Own.of_owns h (Nat.le_refl _)).below hb hB).1
theorem eqT (a b : ByteArray) : (a.toList == b.toList) = decide (a = b) := by
  rw [ByteArray.toList_eq, ByteArray.toList_eq, Bool.eq_iff_iff, beq_iff_eq, decide_eq_true_iff]
  constructor
  · intro h
    obtain ⟨⟨a⟩⟩ := a
    obtain ⟨⟨b⟩⟩ := b
    simp at h
    rw [h]
  · rintro rfl; rfl
theorem zoneOk_c (z : Int) (w : World) : Calls Tryd.prog 30 #[.int .i64 z] w fun e w' => e = .returned (.bool (inB z 0 3)) ∧ w = w' := by
  go_enter Tryd.func30, Tryd.ntmps30
  go_wp2_with (go_at_call 17; refine (within_c _ _ _ _).mono ?_; rintro e w' ⟨rfl, rfl⟩)
  go_ret
  exact ⟨rfl, rfl⟩
theorem z_cases {z : Int} (h : inB z 0 3 = true) : z = 0 ∨ z = 1 ∨ z = 2 ∨ z = 3 := by
  unfold inB at h; simp at h; omega
theorem nameZ_no {z : Int} (h : inB z 0 3 = false) : nameZ z = ⟨#[]⟩ := by
  unfold nameZ
  split
  · cases h
  · cases h
  · cases h
  · cases h
  · rfl
theorem ixZ {z : Int} (h : z = 0 ∨ z = 1 ∨ z = 2 ∨ z = 3) (W : World) : (Instr.index 65 (.agg #[.string ⟨#[119, 104, 105, 116, 101]⟩, .string ⟨#[121, 101, 108, 108, 111, 119]⟩, .string ⟨#[98, 108, 117, 101]⟩, .string ⟨#[114, 101, 100]⟩]) (.int .i64 z)).run Tryd.prog W = .ok (.string (nameZ z)) W := by
  rcases h with rfl | rfl | rfl | rfl <;> kernel_rfl
theorem iZoneName_c (z : Int) (w : World) : Calls Tryd.prog 27 #[.int .i64 z] w fun e w' => e = .returned (.string (nameZ z)) ∧ w = w' := by
  have HZ := Lib.hid (zoneOk_c z w)
  cases hb : inB z 0 3
  · rw [hb] at HZ
    have HN := Lib.hid (nameZ_no hb)
    clear hb
    go_enter Tryd.func27, Tryd.ntmps27
    go_wp2_with fail
    refine HZ.out.mono ?_
    rintro e w' ⟨rfl, rfl⟩
    go_wp2
    go_ret
    exact ⟨by rw [HN.out]; rfl, rfl⟩
  · rw [hb] at HZ
    have hix := fun W => ixZ (z_cases hb) W
    rcases z_cases hb with rfl | rfl | rfl | rfl
    all_goals
      clear hb
      go_enter Tryd.func27, Tryd.ntmps27
      go_wp2_with fail
      refine HZ.out.mono ?_
      rintro e w' ⟨rfl, rfl⟩
      go_wp2
      go_ret
      exact ⟨rfl, rfl⟩
theorem readZones1_c (name : ByteArray) (a : Addr) (w : World) (hla : w.cell? a = some (.string name)) (ha : a.block < w.heap.size) :
    ClosI 26 #[.pointer (some a)] (fun z => decide (nameZ z = name)) w := by
  refine ⟨enters_of Tryd.func26 (by kernel_rfl) rfl, fun z W hW => ?_⟩
  have h1 := (hW.cell ha).trans hla
  have HE := Lib.hid (eqT (nameZ z) name)
  clear hla hW
  show Calls _ _ #[_, _] _ _
  cases hp : ((nameZ z).toList == name.toList)
  all_goals
    rw [hp] at HE
    go_enter Tryd.func26, Tryd.ntmps26
    go_upto_region 1 with (fail)
    have qh1 := cell_regrown h1
    refine wp_region_quiet_below (by kernel_rfl) (by kernel_rfl) ?_
    repeat (first | go_big_quiet_step ((go_at_call 27; exact Calls.regrown_of (zquiet_b (iZoneName_c z _)))) | quiet_step ((go_at_call 27; exact Calls.regrown_of (zquiet_b (iZoneName_c z _)))))
    refine wpQuiet_nil ?_
    intro W2 B2
    replace B2 := Lib.hid (show Below (W).heap.size (W) W2 from by obtain ⟨pq, rfl⟩ := B2; exact below_regrown _ _ _)
    clear qh1
    go_wp2
    go_ret
    exact ⟨ret_bool (by rw [← HE.out]), B2.out⟩
def leastV (p : Int → Bool) : Int × Bool := if p 0 then (0, true) else if p 1 then (1, true) else if p 2 then (2, true) else if p 3 then (3, true) else (0, false)
theorem least_name (name : ByteArray) : leastV (fun z => decide (nameZ z = name)) = if 0 ≤ zn name then (zn name, true) else (0, false) := by
  unfold leastV zn
  simp only [decide_eq_true_eq]
  repeat' split
  all_goals first | rfl | (exfalso; omega) | simp_all
theorem least_c (g : Nat) (lb : Array Value) (p : Int → Bool) (w : World) (hf : ClosI g lb p w) :
    Calls Tryd.prog 25 #[.int .i64 0, .int .i64 3, .func (.func g) #[] lb] w fun e w' => e = .returned (.tuple #[.int .i64 (leastV p).1, .bool (leastV p).2]) ∧ Below w.heap.size w w' := by
  have HF := Lib.hid hf; clear hf
  go_enter Tryd.func25, Tryd.ntmps25
  go_wp2
  go_loopw [8] (fun iv wr => ∃ k : Nat, k ≤ 4 ∧ iv = .int .i64 k ∧ Hid (∀ j : Nat, j < k → p j = false) ∧ Hid (Below w.heap.size w wr)) (fun iv _ => 4 - (intOf iv).toNat)
  case atStart => exact ⟨0, by omega, rfl, Lib.hid (fun j h => by omega), Lib.hid (Below.refl _ _)⟩
  case round =>
    obtain ⟨k, hk, rfl, HA, HW⟩ := hrel
    by_cases hlt : k < 4
    · have hk3 : (k : Int) ≤ 3 := by omega
      have he := HF.out.1
      unfold Enters at he
      go_wp2_with fail
      clear he
      refine (HF.out.2 k wr HW.out).mono ?_
      rintro e w1 ⟨rfl, hb1⟩
      have HB1 := Lib.hid (HW.out.trans (hb1.mono HW.out.size)); clear hb1
      cases hp : p k
      · have HN : Hid (∀ j : Nat, j < k + 1 → p j = false) := Lib.hid (fun j hj => by
          by_cases e : j = k
          · subst e; exact hp
          · exact HA.out j (by omega))
        go_wp2
        go_roundw
        case rel => exact ⟨k + 1, by omega, by go_num, HN, HB1⟩
        case measure => simp [intOf]; omega
      · have HV : Hid (leastV p = ((k : Int), true)) := Lib.hid (by
          have h4 : k = 0 ∨ k = 1 ∨ k = 2 ∨ k = 3 := by omega
          have h := HA.out
          unfold leastV
          rcases h4 with rfl | rfl | rfl | rfl
          · rw [if_pos (by simpa using hp)]; rfl
          · rw [if_neg (by have := h 0 (by omega); simpa using this), if_pos (by simpa using hp)]; rfl
          · rw [if_neg (by have := h 0 (by omega); simpa using this), if_neg (by have := h 1 (by omega); simpa using this), if_pos (by simpa using hp)]; rfl
          · rw [if_neg (by have := h 0 (by omega); simpa using this), if_neg (by have := h 1 (by omega); simpa using this), if_neg (by have := h 2 (by omega); simpa using this), if_pos (by simpa using hp)]; rfl)
        go_wp2
        try simp only [Exit.inBlock, Exit.then]
        go_ret2
        exact ⟨by rw [HV.out]; rfl, HB1.out⟩
    · obtain rfl : k = 4 := by omega
      have HV : Hid (leastV p = (0, false)) := Lib.hid (by
        have h := HA.out
        unfold leastV
        rw [if_neg (by have := h 0 (by omega); simpa using this), if_neg (by have := h 1 (by omega); simpa using this), if_neg (by have := h 2 (by omega); simpa using this), if_neg (by have := h 3 (by omega); simpa using this)])
      go_wp2
      try simp only [Exit.inBlock, Exit.then]
      go_ret2
      exact ⟨by rw [HV.out]; rfl, HW.out⟩
theorem zonesOk_c (A : Option Addr) (n c B : Nat) (zs : List Int) (w : World) (ha : Reads w B 1 A n (ints zs)) (hB : B ≤ w.heap.size) (hn : n ≤ 1048576) :
    Calls Tryd.prog 22 #[.slice A n c] w fun e w' => e = .returned (.bool (decide (n ≤ 64) && allInB 0 3 zs)) ∧ Below w.heap.size w w' := by
  have HC := Lib.hid (allWithin_c A n c B zs 0 3 w ha hB (by omega))
  clear ha
  by_cases h : n ≤ 64
  · have h1 : (n : Int) ≤ 64 := by omega
    go_enter Tryd.func22, Tryd.ntmps22
    go_wp2_with fail
    refine HC.out.mono ?_
    rintro e w1 ⟨rfl, B1⟩
    go_wp2
    go_ret
    exact ⟨ret_bool (by rw [decide_eq_true h]; rfl), B1⟩
  · have h1 : ¬ (n : Int) ≤ 64 := by omega
    go_enter Tryd.func22, Tryd.ntmps22
    go_wp2
    go_ret
    exact ⟨ret_bool rfl, Below.refl _ _⟩
end Go.Proofs.YtjmnhmghpikknaaDoor
