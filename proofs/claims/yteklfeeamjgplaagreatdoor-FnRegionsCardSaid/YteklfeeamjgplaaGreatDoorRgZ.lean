/- XRgI, XRgJ: merged texts. -/
import Derived.Test.YteklfeeamjgplaaGreatDoorRgY
import Derived.Test.YteklfeeamjgplaaGreatDoorSl
/- Where a region stands, and whether it lies near another one, by both. -/
namespace Go.Proofs.YteklfeeamjgplaaGreatDoor
open Go.ChangeShapes Go.WideShapes Go.ChangeAt Go.RowKit
set_option linter.unusedVariables false

theorem eqS_comm (a b : ByteArray) : eqS a b = eqS b a := by unfold eqS; rw [Bool.eq_iff_iff, beq_iff_eq, beq_iff_eq]; exact eq_comm
def findP (id : ByteArray) (x : Rg) : Bool := eqS x.id id
def findR (rs : List Rg) (id : ByteArray) : Int := idxOf (findP id) rs
def nearV (l : List ByteArray) (id : ByteArray) : Bool := l.any fun s => eqS s id
def ClosR (g : Nat) (lb : Array Value) (p : Rg → Bool) (w : World) : Prop :=
  Enters Tryz.prog g ∧ ∀ (x : Rg) (W : World), Below w.heap.size w W → Calls Tryz.prog g (#[x.val] ++ lb) W fun e W' => e = .returned (.bool (p x)) ∧ Below W.heap.size W W'
set_option maxHeartbeats 2000000 in
theorem indexFuncR_c (g : Nat) (lb : Array Value) (p : Rg → Bool) (A : Option Addr) (n c BA : Nat) (rs : List Rg) (w : World) (ha : Regs w BA A n rs) (hB : BA ≤ w.heap.size) (hn : n ≤ 1048576) (hf : ClosR g lb p w) :
    Calls Tryz.prog 48 #[.slice A n c, .func (.func g) #[] lb] w fun e w' => e = .returned (.int .i64 (idxOf p rs)) ∧ Below w.heap.size w w' := by
  have HL := Lib.hid ha.len
  have HF := Lib.hid hf
  have HA := Lib.hid ha
  clear hf ha
  go_enter Tryz.func48, Tryz.ntmps48
  go_wp2
  go_loopw [8] (fun i wr => ∃ k : Nat, k ≤ n ∧ i = .int .i64 k ∧ Hid ((rs.take k).all (fun z => !p z) = true) ∧ Hid (Below w.heap.size w wr)) (fun i _ => n - (intOf i).toNat)
  case atStart => exact ⟨0, Nat.zero_le _, rfl, Lib.hid (by simp), Lib.hid (Below.refl _ _)⟩
  case round =>
    obtain ⟨k, hk, rfl, HAL, HW⟩ := hrel
    by_cases hlt : k < n
    · obtain ⟨ad, x, rfl, _, hzk, _, c0, c1, c2⟩ := (HA.out.below (HW.out.mono hB)).at_ hlt
      have HZ := Lib.hid hzk
      clear hzk
      have he := HF.out.1
      unfold Enters at he
      go_wp2_with fail
      clear he
      refine (HF.out.2 x wr HW.out).mono ?_
      rintro e w1 ⟨rfl, hb1⟩
      have HB1 := Lib.hid hb1; clear hb1 c0 c1 c2
      cases hp : p x
      · have HP := Lib.hid hp; clear hp
        go_wp2
        go_roundw
        case rel => exact ⟨k + 1, by omega, by go_num, Lib.hid (by rw [take_snoc' HZ.out]; simp [HAL.out, HP.out]), Lib.hid (HW.out.trans (HB1.out.mono HW.out.size))⟩
        case measure => simp [intOf]; omega
      · have HP := Lib.hid hp; clear hp
        go_wp2
        go_ret
        refine ⟨ret_int ?_, HW.out.trans (HB1.out.mono HW.out.size)⟩
        rw [drop_cons_get HZ.out, idxFrom_at p _ _ x HAL.out HP.out]
        simp; have := HL.out; omega
    · obtain rfl : k = n := by omega
      go_wp2
      go_ret
      refine ⟨ret_int ?_, HW.out⟩
      have h := HAL.out
      rw [List.take_of_length_le (by have := HL.out; omega)] at h
      exact (idxFrom_none p 0 rs h).symm
theorem regionAt1_c (id : ByteArray) (a : Addr) (w : World) (hl : w.cell? a = some (.string id)) (ha : a.block < w.heap.size) : ClosR 49 #[.pointer (some a)] (findP id) w := by
  refine ⟨enters_of Tryz.func49 (by kernel_rfl) rfl, fun x W hW => ?_⟩
  have h2 := (hW.cell ha).trans hl
  have h3 : ∀ o, (W.alloc o).cell? a = some (.string id) := fun o => (((Below.refl W.heap.size W).alloc (Nat.le_refl _) o).cell (p := a) (by have := hW.size; omega)).trans h2
  clear hl hW
  have HP := Lib.hid (show findP id x = (x.id.toList == id.toList) from rfl)
  obtain ⟨xi, lv, A, n, c, near⟩ := x
  simp only [Rg.val] at *
  show Calls _ _ #[_, _] _ _
  go_enter Tryz.func49, Tryz.ntmps49
  go_wp2
  go_ret
  exact ⟨ret_bool HP.out.symm, by go_grown⟩
theorem regionAt_c (A : Option Addr) (n c BA : Nat) (rs : List Rg) (id : ByteArray) (w : World) (ha : Regs w BA A n rs) (hB : BA ≤ w.heap.size) (hn : n ≤ 1048576) :
    Calls Tryz.prog 23 #[.slice A n c, .string id] w fun e w' => e = .returned (.int .i64 (findR rs id)) ∧ Below w.heap.size w w' := by
  have HC := Lib.hid fun (W : World) (hW : Regs W BA A n rs) (hBW : BA ≤ W.heap.size) (a : Addr) (h1 : W.cell? a = some (.string id)) (h3 : a.block < W.heap.size) =>
    indexFuncR_c 49 #[.pointer (some a)] (findP id) A n c BA rs W hW hBW hn (regionAt1_c id a W h1 h3)
  have HA := Lib.hid ha; clear ha
  go_enter Tryz.func23, Tryz.ntmps23
  go_wp2_with fail
  refine (HC.out _ (HA.out.below ((Below.refl _ _).alloc hB _)) (by simp; omega) _ ?_ ?_).mono ?_
  rotate_left 2
  · rintro e w1 ⟨rfl, hb1⟩
    go_wp2
    go_ret
    exact ⟨rfl, ((Below.refl _ _).alloc (Nat.le_refl _) _).trans (hb1.mono (by simp))⟩
  all_goals go_simp
set_option maxHeartbeats 1000000 in
theorem indexStr_c (A : Option Addr) (n c BA : Nat) (l : List ByteArray) (v : ByteArray) (w : World) (ha : Reads w BA 1 A n (strs l)) (hn : n ≤ 1048576) :
    Calls Tryz.prog 60 #[.slice A n c, .string v] w fun e w' => e = .returned (.int .i64 (idxOf (fun s => eqS s v) l)) ∧ w = w' := by
  have HL := Lib.hid ha.strLen
  have HA := Lib.hid ha
  clear ha
  go_enter Tryz.func60, Tryz.ntmps60
  go_wp2
  go_loop [8] (fun i => ∃ k : Nat, k ≤ n ∧ i = .int .i64 k ∧ Hid ((l.take k).all (fun z => !eqS z v) = true)) (fun i => n - (intOf i).toNat)
  case atStart => exact ⟨0, Nat.zero_le _, rfl, Lib.hid (by simp)⟩
  case round =>
    obtain ⟨k, hk, rfl, HAL⟩ := hrel
    by_cases hlt : k < n
    · obtain ⟨ad, s, rfl, _, hzk, hc⟩ := HA.out.str hlt
      have HZ := Lib.hid hzk
      clear hzk
      cases hp : (v.toList == s.toList)
      · have HP : Hid (eqS s v = false) := Lib.hid (by rw [eqS_comm]; exact hp)
        go_wp2
        go_round
        case rel => exact ⟨k + 1, by omega, by go_num, Lib.hid (by rw [take_snoc' HZ.out]; simp [HAL.out, HP.out])⟩
        case measure => simp [intOf]; omega
      · have HP : Hid (eqS s v = true) := Lib.hid (by rw [eqS_comm]; exact hp)
        go_wp2
        go_ret
        refine ⟨ret_int ?_, rfl⟩
        rw [drop_cons_get HZ.out, idxFrom_at (fun s => eqS s v) _ _ s HAL.out HP.out]
        simp; have := HL.out; omega
    · obtain rfl : k = n := by omega
      go_wp2
      go_ret
      refine ⟨ret_int ?_, rfl⟩
      have h := HAL.out
      rw [List.take_of_length_le (by have := HL.out; omega)] at h
      exact (idxFrom_none (fun s => eqS s v) 0 l h).symm
theorem idxOf_any' {α : Type} (p : α → Bool) (l : List α) : decide (0 ≤ idxOf p l) = l.any p := by
  have := (idxFrom_bd p 0 l).2.2
  unfold idxOf
  rw [Bool.eq_iff_iff, decide_eq_true_iff]
  exact this
theorem containsStr_c (A : Option Addr) (n c BA : Nat) (l : List ByteArray) (v : ByteArray) (w : World) (ha : Reads w BA 1 A n (strs l)) (hn : n ≤ 1048576) :
    Calls Tryz.prog 36 #[.slice A n c, .string v] w fun e w' => e = .returned (.bool (nearV l v)) ∧ w = w' := by
  have HC := Lib.hid (indexStr_c A n c BA l v w ha hn)
  have HV := Lib.hid (show nearV l v = decide (0 ≤ idxOf (fun s => eqS s v) l) from (idxOf_any' _ _).symm)
  clear ha
  generalize idxOf (fun s => eqS s v) l = z at *
  go_enter Tryz.func36, Tryz.ntmps36
  go_wp2_with fail
  refine HC.out.mono ?_
  rintro e w' ⟨rfl, rfl⟩
  go_wp2
  go_ret
  exact ⟨ret_bool HV.out.symm, rfl⟩
theorem idxFrom_spec {α : Type} (p : α → Bool) : ∀ (l : List α) (k : Nat), 0 ≤ idxFrom p k l → ∃ (j : Nat) (y : α), idxFrom p k l = ((k + j : Nat) : Int) ∧ l[j]? = some y ∧ p y = true ∧ ∀ i, i < j → ∀ z, l[i]? = some z → p z = false
  | [], k, h => by simp [idxFrom] at h
  | z :: l, k, h => by
    by_cases hp : p z = true
    · exact ⟨0, z, by simp [idxFrom, hp], rfl, hp, fun i hi => by omega⟩
    · have hp' : p z = false := by simpa using hp
      simp only [idxFrom, hp', Bool.false_eq_true, if_false] at h ⊢
      obtain ⟨j, y, h1, h2, h3, h4⟩ := idxFrom_spec p l (k + 1) h
      refine ⟨j + 1, y, by rw [h1]; congr 1; omega, by simpa using h2, h3, fun i hi w hw => ?_⟩
      cases i with
      | zero => simp at hw; subst hw; exact hp'
      | succ i => exact h4 i (by omega) w (by simpa using hw)
theorem idxOf_spec {α : Type} (p : α → Bool) (l : List α) (h : 0 ≤ idxOf p l) : ∃ y, l[(idxOf p l).toNat]? = some y ∧ p y = true ∧ ∀ i, i < (idxOf p l).toNat → ∀ z, l[i]? = some z → p z = false := by
  obtain ⟨j, y, h1, h2, h3, h4⟩ := idxFrom_spec p l 0 h
  have e : (idxOf p l).toNat = j := by unfold idxOf; rw [h1]; simp
  rw [e]
  exact ⟨y, h2, h3, h4⟩
/-- is there a region of that name, and does it lie near the other -/
def isNearR (rs : List Rg) (id other : ByteArray) : Bool := if findR rs id < 0 then false else match rs[(findR rs id).toNat]? with
  | none => false
  | some x => nearV x.near other
theorem findR_bd (rs : List Rg) (id : ByteArray) : -1 ≤ findR rs id ∧ findR rs id < rs.length := by
  have := idxFrom_bd (findP id) 0 rs
  unfold findR idxOf
  omega
set_option maxHeartbeats 1000000 in
theorem isNear_c (A : Option Addr) (n c BA : Nat) (rs : List Rg) (id other : ByteArray) (w : World) (ha : Regs w BA A n rs) (hB : BA ≤ w.heap.size) (hx : ∀ x ∈ rs, x.n ≤ 1048576) (hn : n ≤ 1048576) :
    Calls Tryz.prog 46 #[.slice A n c, .string id, .string other] w fun e w' => e = .returned (.bool (isNearR rs id other)) ∧ Below w.heap.size w w' := by
  have HR := Lib.hid (regionAt_c A n c BA rs id w ha hB hn)
  have hfb := findR_bd rs id
  have HV := Lib.hid (show isNearR rs id other = if findR rs id < 0 then false else match rs[(findR rs id).toNat]? with | none => false | some x => nearV x.near other from rfl)
  have HA := Lib.hid ha
  have HX := Lib.hid hx
  rw [ha.len] at hfb
  clear ha hx
  generalize findR rs id = at_ at *
  by_cases h0 : at_ < 0
  · have HVV : Hid (isNearR rs id other = false) := Lib.hid (by rw [HV.out, if_pos h0])
    clear HV
    go_enter Tryz.func46, Tryz.ntmps46
    go_wp2_with fail
    refine HR.out.mono ?_
    rintro e w1 ⟨rfl, B1⟩
    have HB := Lib.hid B1; clear B1
    go_wp2
    go_ret
    exact ⟨ret_bool HVV.out.symm, HB.out⟩
  · obtain ⟨j, rfl⟩ : ∃ j : Nat, at_ = j := ⟨at_.toNat, by omega⟩
    have hjn : j < n := by omega
    go_enter Tryz.func46, Tryz.ntmps46
    go_wp2_with fail
    refine HR.out.mono ?_
    rintro e w1 ⟨rfl, B1⟩
    obtain ⟨ad, x, rfl, _, hs, hnx, c0, c1, c2⟩ := (HA.out.below (B1.mono hB)).at_ hjn
    have hxn := HX.out x (List.mem_of_getElem? hs)
    have HVV : Hid (isNearR rs id other = nearV x.near other) := Lib.hid (by rw [HV.out, if_neg (by omega), Int.toNat_natCast, hs])
    have HCS := Lib.hid (containsStr_c x.A x.n x.c BA x.near other w1 hnx hxn)
    have HB := Lib.hid B1; clear B1 hs hnx
    have hjn' : (j : Int) < (n : Int) := by omega
    go_wp2_with fail
    refine HCS.out.mono ?_
    rintro e w' ⟨rfl, rfl⟩
    go_wp2
    go_ret
    exact ⟨ret_bool HVV.out.symm, HB.out⟩
set_option maxHeartbeats 1000000 in
theorem l18Find_c (A : Option Addr) (n c BA : Nat) (rs : List Rg) (id : ByteArray) (w : World) (ha : Regs w BA A n rs) (hn : n ≤ 1048576) :
    Calls Tryz.prog 63 #[.slice A n c, .string id] w fun e w' => e = .returned (.int .i64 (findR rs id)) ∧ w = w' := by
  have HL := Lib.hid ha.len
  have HA := Lib.hid ha
  clear ha
  go_enter Tryz.func63, Tryz.ntmps63
  go_wp2
  go_loop [5] (fun i => ∃ k : Nat, k ≤ n ∧ i = .int .i64 k ∧ Hid ((rs.take k).all (fun z => !findP id z) = true)) (fun i => n - (intOf i).toNat)
  case atStart => exact ⟨0, Nat.zero_le _, rfl, Lib.hid (by simp)⟩
  case round =>
    obtain ⟨k, hk, rfl, HAL⟩ := hrel
    by_cases hlt : k < n
    · obtain ⟨ad, x, rfl, _, hzk, _, c0, c1, c2⟩ := HA.out.at_ hlt
      have HZ := Lib.hid hzk
      clear hzk
      cases hp : (x.id.toList == id.toList)
      · have HP : Hid (findP id x = false) := Lib.hid hp
        go_wp2
        go_round
        case rel => exact ⟨k + 1, by omega, by go_num, Lib.hid (by rw [take_snoc' HZ.out]; simp [HAL.out, HP.out])⟩
        case measure => simp [intOf]; omega
      · have HP : Hid (findP id x = true) := Lib.hid hp
        go_wp2
        go_ret
        refine ⟨ret_int ?_, rfl⟩
        unfold findR
        rw [drop_cons_get HZ.out, idxFrom_at (findP id) _ _ x HAL.out HP.out]
        simp; have := HL.out; omega
    · obtain rfl : k = n := by omega
      go_wp2
      go_ret
      refine ⟨ret_int ?_, rfl⟩
      have h := HAL.out
      rw [List.take_of_length_le (by have := HL.out; omega)] at h
      exact (idxFrom_none (findP id) 0 rs h).symm
set_option maxHeartbeats 1000000 in
theorem l18Near_c (p : Addr) (x : Rg) (BX : Nat) (id : ByteArray) (w : World) (hp : RgP w p x) (hx : Near w BX x) (hn : x.n ≤ 1048576) :
    Calls Tryz.prog 64 #[.pointer (some p), .string id] w fun e w' => e = .returned (.bool (nearV x.near id)) ∧ w = w' := by
  obtain ⟨p0, p1, p2⟩ := hp
  have HL := Lib.hid (Reads.strLen hx)
  have HA := Lib.hid hx
  clear hx
  go_enter Tryz.func64, Tryz.ntmps64
  go_wp2
  go_loop [5] (fun i => ∃ k : Nat, k ≤ x.n ∧ i = .int .i64 k ∧ Hid ((x.near.take k).any (fun s => eqS s id) = false)) (fun i => x.n - (intOf i).toNat)
  case atStart => exact ⟨0, Nat.zero_le _, rfl, Lib.hid (by simp)⟩
  case round =>
    obtain ⟨k, hk, rfl, HAL⟩ := hrel
    by_cases hlt : k < x.n
    · obtain ⟨ad, s, hA, _, hzk, hc⟩ := Reads.str HA.out hlt
      rw [hA] at p2
      have HZ := Lib.hid hzk
      clear hzk hA
      cases hp : (s.toList == id.toList)
      · have HP : Hid (eqS s id = false) := Lib.hid hp
        go_wp2
        go_round
        case rel => exact ⟨k + 1, by omega, by go_num, Lib.hid (by rw [take_snoc' HZ.out]; simp [HAL.out, HP.out])⟩
        case measure => simp [intOf]; omega
      · have HP : Hid (nearV x.near id = true) := Lib.hid (List.any_eq_true.2 ⟨s, List.mem_of_getElem? HZ.out, hp⟩)
        go_wp2
        go_ret
        exact ⟨ret_bool HP.out.symm, rfl⟩
    · have HV : Hid (nearV x.near id = false) := Lib.hid (by
        have h := HAL.out
        rw [List.take_of_length_le (by have := HL.out; omega)] at h
        exact h)
      go_wp2
      go_ret
      exact ⟨ret_bool HV.out.symm, rfl⟩
end Go.Proofs.YteklfeeamjgplaaGreatDoor

/- Valid regions: plain facts. -/
namespace Go.Proofs.YteklfeeamjgplaaGreatDoor
open Go.ChangeShapes Go.WideShapes Go.ChangeAt Go.RowKit
set_option linter.unusedVariables false

theorem u8_tri (a b : UInt8) : a < b ∨ a = b ∨ b < a := by
  rcases Nat.lt_trichotomy a.toNat b.toNat with h | h | h
  · exact .inl (UInt8.lt_iff_toNat_lt.2 h)
  · exact .inr (.inl (UInt8.toNat_inj.1 h))
  · exact .inr (.inr (UInt8.lt_iff_toNat_lt.2 h))
theorem bl_tri : ∀ x y : List UInt8, (Op.bytesLess x y || x == y) = !(Op.bytesLess y x)
  | [], [] => by simp [Op.bytesLess]
  | [], b :: y => by simp [Op.bytesLess]
  | a :: x, [] => by simp [Op.bytesLess]
  | a :: x, b :: y => by
    have ih := bl_tri x y
    rw [Bool.eq_iff_iff] at ih ⊢
    simp only [Op.bytesLess, Bool.or_eq_true, decide_eq_true_eq, Bool.and_eq_true, beq_iff_eq, Bool.not_eq_true', List.cons.injEq, Bool.or_eq_false_iff, Bool.and_eq_false_iff, decide_eq_false_iff_not] at ih ⊢
    rcases u8_tri a b with h | h | h
    · have h1 : ¬ b < a := UInt8.lt_asymm h
      have h2 : ¬ b = a := fun e => by rw [e] at h; exact UInt8.lt_irrefl _ h
      simp [h, h1, h2]
    · subst h
      have h1 : ¬ a < a := UInt8.lt_irrefl _
      simp only [h1, false_or, true_and, not_false_eq_true, beq_self_eq_true]
      simp only [Bool.true_eq_false, false_or]
      exact ih
    · have h1 : ¬ a < b := UInt8.lt_asymm h
      have h2 : ¬ a = b := fun e => by rw [e] at h; exact UInt8.lt_irrefl _ h
      simp [h, h1, h2]
theorem bl_irrefl : ∀ x : List UInt8, Op.bytesLess x x = false
  | [] => rfl
  | a :: x => by simp [Op.bytesLess, bl_irrefl x, UInt8.lt_irrefl]
theorem bl_trans : ∀ {x y z : List UInt8}, Op.bytesLess x y = true → Op.bytesLess y z = true → Op.bytesLess x z = true
  | [], [], _, h, _ => by simp [Op.bytesLess] at h
  | _, _ :: _, [], _, h => by simp [Op.bytesLess] at h
  | [], b :: y, c :: z, _, _ => by simp [Op.bytesLess]
  | a :: x, [], _, h, _ => by simp [Op.bytesLess] at h
  | a :: x, b :: y, c :: z, h1, h2 => by
    simp only [Op.bytesLess, Bool.or_eq_true, decide_eq_true_eq, Bool.and_eq_true, beq_iff_eq] at h1 h2 ⊢
    rcases h1 with h1 | ⟨e1, h1⟩
    · rcases h2 with h2 | ⟨e2, h2⟩
      · exact .inl (UInt8.lt_trans h1 h2)
      · exact .inl (by rw [← e2]; exact h1)
    · subst e1
      rcases h2 with h2 | ⟨e2, h2⟩
      · exact .inl h2
      · exact .inr ⟨e2, bl_trans h1 h2⟩
def ltS (a b : ByteArray) : Bool := Op.bytesLess a.toList b.toList
def sAt (l : List ByteArray) (k : Nat) : ByteArray := (l[k]?).getD ⟨#[]⟩
theorem sAt_get {l : List ByteArray} {k : Nat} {s : ByteArray} (h : l[k]? = some s) : sAt l k = s := by rw [sAt, h]; rfl
def idAt (rs : List Rg) (i : Nat) : ByteArray := ((rs[i]?).map Rg.id).getD ⟨#[]⟩
theorem idAt_get {rs : List Rg} {i : Nat} {x : Rg} (h : rs[i]? = some x) : idAt rs i = x.id := by rw [idAt, h]; rfl
def okIn (rs : List Rg) (x : Rg) (k : Nat) : Bool := (decide (k = 0) || ltS (sAt x.near (k - 1)) (sAt x.near k)) && !eqS (sAt x.near k) x.id && isNearR rs (sAt x.near k) x.id
def okNear (rs : List Rg) (x : Rg) (m : Nat) : Bool := (List.range m).all (okIn rs x)
def okAt (rs : List Rg) (i : Nat) : Bool := match rs[i]? with
  | none => true
  | some x => nameV x.id && inB x.lv 1 5 && (decide (i = 0) || ltS (idAt rs (i - 1)) x.id) && okNear rs x x.near.length
def okTo (rs : List Rg) (k : Nat) : Bool := (List.range k).all (okAt rs)
def validR (rs : List Rg) : Bool := decide (rs.length ≤ 8) && okTo rs rs.length
theorem okNear_succ (rs : List Rg) (x : Rg) (k : Nat) : okNear rs x (k + 1) = (okNear rs x k && okIn rs x k) := by simp [okNear, List.range_succ]
theorem okNear_no {rs : List Rg} {x : Rg} {k m : Nat} (hk : k < m) (h : okIn rs x k = false) : okNear rs x m = false := List.all_eq_false.2 ⟨k, List.mem_range.2 hk, by simp [h]⟩
theorem okTo_succ (rs : List Rg) (k : Nat) : okTo rs (k + 1) = (okTo rs k && okAt rs k) := by simp [okTo, List.range_succ]
theorem okTo_no {rs : List Rg} {k m : Nat} (hk : k < m) (h : okAt rs k = false) : okTo rs m = false := List.all_eq_false.2 ⟨k, List.mem_range.2 hk, by simp [h]⟩
theorem okAt_some {rs : List Rg} {i : Nat} {x : Rg} (h : rs[i]? = some x) : okAt rs i = (nameV x.id && inB x.lv 1 5 && (decide (i = 0) || ltS (idAt rs (i - 1)) x.id) && okNear rs x x.near.length) := by simp only [okAt, h]
theorem okTo_at {rs : List Rg} {k j : Nat} (h : okTo rs k = true) (hj : j < k) : okAt rs j = true := List.all_eq_true.1 h j (List.mem_range.2 hj)
/-- names rise -/
theorem ids_rise {rs : List Rg} {i : Nat} (hi : i < rs.length) (h : okTo rs i = true) (hl : i = 0 ∨ ltS (idAt rs (i - 1)) (idAt rs i) = true) : ∀ d j, j + d + 1 = i → ltS (idAt rs j) (idAt rs i) = true
  | 0, j, e => by
    rcases hl with h0 | h0
    · omega
    · rwa [show i - 1 = j by omega] at h0
  | d + 1, j, e => by
    have ih := ids_rise hi h hl d (j + 1) (by omega)
    have hj : j + 1 < rs.length := by omega
    have hs : rs[j + 1]? = some (rs[j + 1]'hj) := List.getElem?_eq_getElem hj
    have h1 := okTo_at h (show j + 1 < i by omega)
    rw [okAt_some hs] at h1
    simp only [Bool.and_eq_true, Bool.or_eq_true, decide_eq_true_eq, Nat.add_sub_cancel] at h1
    have h2 := h1.1.2
    rcases h2 with h2 | h2
    · omega
    · rw [← idAt_get hs] at h2
      exact bl_trans h2 ih
theorem find_self {rs : List Rg} {i : Nat} {x : Rg} (hx : rs[i]? = some x) (h : okTo rs i = true) (hl : i = 0 ∨ ltS (idAt rs (i - 1)) x.id = true) {s : ByteArray} (h0 : 0 ≤ findR rs s) : (findR rs s = i ↔ eqS s x.id = true) := by
  have hi : i < rs.length := (List.getElem?_eq_some_iff.1 hx).1
  rw [← idAt_get hx] at hl
  have hr := ids_rise hi h hl
  constructor
  · intro e
    have hsp := idxOf_spec (findP s) rs (by unfold findR at h0; exact h0)
    unfold findR at e
    rw [e, Int.toNat_natCast] at hsp
    obtain ⟨y, hy, hp, _⟩ := hsp
    rw [hx] at hy; injection hy with hy; subst hy
    rw [eqS_comm]; exact hp
  · intro e
    obtain ⟨y, hy, hp, hfirst⟩ := idxOf_spec (findP s) rs (by unfold findR at h0; exact h0)
    have hpx : findP s x = true := by unfold findP; rw [eqS_comm]; exact e
    have hle : (idxOf (findP s) rs).toNat ≤ i := by
      rcases Nat.lt_or_ge i (idxOf (findP s) rs).toNat with hlt | hge
      · have := hfirst i hlt x hx
        rw [hpx] at this; cases this
      · exact hge
    rcases Nat.lt_or_eq_of_le hle with hlt | heq
    · have h1 := hr (i - (idxOf (findP s) rs).toNat - 1) (idxOf (findP s) rs).toNat (by omega)
      rw [idAt_get hy, idAt_get hx] at h1
      have e1 : y.id.toList = x.id.toList := by
        have a1 : y.id.toList = s.toList := by simpa [findP, eqS] using hp
        have a2 : s.toList = x.id.toList := by simpa [eqS] using e
        rw [a1, a2]
      unfold ltS at h1
      rw [e1, bl_irrefl] at h1; cases h1
    · unfold findR at h0 ⊢
      omega
end Go.Proofs.YteklfeeamjgplaaGreatDoor
