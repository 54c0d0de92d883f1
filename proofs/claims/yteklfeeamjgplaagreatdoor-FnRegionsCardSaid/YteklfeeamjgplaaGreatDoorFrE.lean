/- FnRegions: drawn regions, the whole. -/
import Derived.Test.YteklfeeamjgplaaGreatDoorFrD
namespace Go.Proofs.YteklfeeamjgplaaGreatDoor
open Go.ChangeShapes Go.WideShapes Go.ChangeAt Go.RowKit
set_option linter.unusedVariables false
theorem DR.setLv {w wr : World} {g M n K gt c i : Nat} {rs : List Rg} {x : Rg} (h : DR w wr g M (.slice (some ⟨gt, 0, none⟩) n c) n K rs) (hx : rs[i]? = some x) (z : Int) :
    DR w (wr.setCell ⟨gt, i * 3 + 1, none⟩ (.int .i64 z)) g M (.slice (some ⟨gt, 0, none⟩) n c) n K (rs.set i { x with lv := z }) := by
  have hs := h.own.setLv hx z
  have hgt := (h.own.row.blk_bd (g := gt) (by simp [Value.ownBlock])).1
  have hg := h.hg
  refine ⟨by simpa using hs.1, h.src.set (p := ⟨gt, i * 3 + 1, none⟩) (by show g < gt; omega) _, h.only.setNew (p := ⟨gt, i * 3 + 1, none⟩) hgt _, set_n hx z h.few, hg⟩
theorem decB_small {m : Nat} (h : m ≤ 9) : (decB m).size = 1 := by
  unfold decB
  rw [Lib.decDigits_one (by omega)]; rfl
theorem app_rg {ops : Array Oper} {rest : List Oper} {o : Oper} {a : Act} {Q : Exit → Act → World → Prop} {w : World} (hgd : o.guard = none) (s x : Operand)
    (ho : o.op = .call { callee := .builtin .append, args := #[s, x], argTypes := #[24, 24] })
    (lo : Nat) (v : Value) (n : Nat) (rs : List Rg) (id : ByteArray) (lv : Int) (D : Option Addr) (m d : Nat) (hs : a.eval s = v) (hown : w.ownsRow lo 37 3 v n (rgs rs))
    (hx : a.eval x = .slice (some ⟨w.heap.size, 0, none⟩) 1 1) (hn : n ≤ 100000000000) (hlo : lo ≤ w.heap.size)
    (h : ∀ v' w', w'.ownsRow lo 37 3 v' (n + 1) (rgs rs ++ [.string id, .int .i64 lv, .slice D m d]) → (w.alloc (.cells #[.string id, .int .i64 lv, .slice D m d] 37)).grownBy w' v.ownBlock → wpList Tryz.prog ops Q rest (a.put o.dst v') w') :
    wpList Tryz.prog ops Q (o :: rest) a (w.alloc (.cells #[.string id, .int .i64 lv, .slice D m d] 37)) := by
  obtain ⟨i, hi, hz, hs', hb⟩ := info_parts info_rg
  refine wpList_append_any _ hgd s x _ ho lo _ i _ 3 48 Tryz.underlying24 hi hz hs' hb rfl (by omega) v n (rgs rs) hs (owns_al hown _) (w.heap.size + 1) (some ⟨w.heap.size, 0, none⟩) 1 1 [.string id, .int .i64 lv, .slice D m d] hx
    (reads_one w 37 _) (by simp [Value.oneCell']) (by simp only [maxLen]; omega) (by omega) (by simp; omega) ?_
  intro v' w' O4 G4 _
  exact h v' w' O4 ⟨G4.os, G4.tape, G4.output, G4.size, G4.block⟩
set_option maxHeartbeats 8000000 in
set_option maxRecDepth 100000 in
theorem l18Draw_c (g M : Nat) (w : World) (h : Src w g M) (hM : M ≤ 10000000000000000) :
    Calls Tryz.prog 20 #[.pointer (some ⟨g, 0, none⟩)] w (DRPost w g (M + 300) 200) := by
  have HK0 := Lib.hid (l18DrawOk_c g M w h (by omega))
  have hg := h.lt
  clear h
  go_enter Tryz.func20, Tryz.ntmps20
  go_wp2_with fail
  refine HK0.out.mono ?_
  rintro e w1 ⟨v, n, rs, rfl, hd1, hn9⟩
  have HD1 := Lib.hid hd1
  obtain ⟨A1, c1, rfl, _, _⟩ := hd1.own.row.slice
  clear hd1 HK0
  go_wp2_with fail
  refine (pick_c g (M + 200) 20 w1 HD1.out.src (by omega) (by omega)).mono ?_
  rintro e w2 ⟨u, rfl, hu0, hu1, S2, Y2⟩
  have HD2 := Lib.hid (HD1.out.turn S2 Y2)
  have hs2 : w.heap.size ≤ w2.heap.size := HD2.out.only.size
  clear S2 Y2 HD1 hu1
  have hrl := HD2.out.own.regs.len
  by_cases h0 : u = 0
  · subst h0
    by_cases hn : 0 < n
    · have hnz : (0 : Int) < (n : Int) := by omega
      go_wp2_with fail
      refine (pick_c g (M + 202) n w2 HD2.out.src (by omega) (by omega)).mono ?_
      rintro e w3 ⟨a0, rfl, ha0, ha1, S3, Y3⟩
      have HD3 := Lib.hid (HD2.out.turn S3 Y3)
      obtain ⟨a, rfl⟩ : ∃ a : Nat, a0 = a := ⟨a0.toNat, by omega⟩
      have han : a < n := by omega
      clear S3 Y3 HD2 ha0 ha1
      go_wp2_with fail
      refine (among_c g w3.heap.size (M + 204) 3 [0, 5, 6] _ (HD3.out.src.alloc _) (Blk.new _ _ _) (by have := HD3.out.src.lt; omega) rfl (by omega) (by omega) (by omega)).mono ?_
      rintro e w4 ⟨z, rfl, mm, S4, Y4⟩
      have HD4 := Lib.hid ((HD3.out.alloc _).turn S4 Y4)
      clear S4 Y4 HD3 mm
      obtain ⟨gt, rfl, hgt1, hgt2, hgt3⟩ := HD4.out.own.row.at_ (by omega)
      have hx := List.getElem?_eq_getElem (l := rs) (i := a) (by omega)
      generalize rs[a] = x at hx
      obtain ⟨_, ci1, _, ff1⟩ := HD4.out.own.atOwn hx
      have HST := Lib.hid (HD4.out.setLv hx z)
      have hann : (a : Int) < (n : Int) := by omega
      have ha00 : (0 : Int) ≤ (a : Int) := by omega
      clear hx hnz
      go_wp2
      go_ret
      exact ⟨_, n, _, rfl, HST.out.more (by omega) (by omega), hn9⟩
    · obtain rfl : n = 0 := by omega
      go_wp2
      go_ret
      exact ⟨_, 0, rs, rfl, HD2.out.more (by omega) (by omega), hn9⟩
  · by_cases h1 : u = 1
    · subst h1
      by_cases hn : 0 < n
      · have hnz : (0 : Int) < (n : Int) := by omega
        obtain ⟨gt, rfl, hgt1, hgt2, hgt3⟩ := HD2.out.own.row.at_ (by omega)
        have hx := List.getElem?_eq_getElem (l := rs) (i := 0) (by omega)
        generalize rs[0] = x at hx
        have hxn : x.n ≤ 100 := HD2.out.few x (List.mem_of_getElem? hx)
        obtain ⟨i0, hi1, hz1, hs1, hb1⟩ := info_parts info_str
        have HI := Lib.hid (And.intro hi1 (And.intro hz1 (And.intro hs1 hb1)))
        clear hi1 hz1 hs1 hb1
        obtain ⟨_, _, ci2, _⟩ := HD2.out.own.atOwn hx
        have hci : (⟨gt, 0 * 3 + 2, none⟩ : Addr) = ⟨gt, 2, none⟩ := rfl
        rw [hci] at ci2
        have hinx := HD2.out.own.inn x (List.mem_of_getElem? hx)
        have hofx := HD2.out.own.off x (List.mem_of_getElem? hx)
        have hgx : some gt ≠ (Value.slice x.A x.n x.c).ownBlock := fun e => hofx gt e.symm rfl
        have hgb : (⟨gt, 2, none⟩ : Addr).block < g ∨ g + 1 ≤ (⟨gt, 2, none⟩ : Addr).block := .inr (by show g + 1 ≤ gt; omega)
        have HBK : Hid (Blk (w2.alloc (.cells #[.string ⟨#[122, 122]⟩, .string ⟨#[101, 97, 115, 116]⟩, .string ⟨#[119, 101, 115, 116]⟩] 9)).drew w2.heap.size 9 (strs [⟨#[122, 122]⟩, ⟨#[101, 97, 115, 116]⟩, ⟨#[119, 101, 115, 116]⟩]).toArray) := Lib.hid ((Blk.new w2 _ _).below ((Below.refl (w2.heap.size + 1) _).drew) (by omega))
        have HSR : Hid (Src (w2.alloc (.cells #[.string ⟨#[122, 122]⟩, .string ⟨#[101, 97, 115, 116]⟩, .string ⟨#[119, 101, 115, 116]⟩] 9)).drew g (M + 202)) := Lib.hid (HD2.out.alloc _).drew.src
        have ci2a : ∀ o, (w2.alloc o).cell? ⟨gt, 2, none⟩ = some (.slice x.A x.n x.c) := fun o => keepCA o ci2
        have HOWN : Hid (∀ w3, Only g (g + 1) (w2.alloc (.cells #[.string ⟨#[122, 122]⟩, .string ⟨#[101, 97, 115, 116]⟩, .string ⟨#[119, 101, 115, 116]⟩] 9)).drew w3 → ∀ o, (w3.alloc o).ownsRow w.heap.size 9 1 (.slice x.A x.n x.c) x.n (strs x.near)) := Lib.hid (fun w3 Y3 o =>
          owns_al (hinx.only (((Only.refl g (g + 1) w2).alloc' (.cells #[.string ⟨#[122, 122]⟩, .string ⟨#[101, 97, 115, 116]⟩, .string ⟨#[119, 101, 115, 116]⟩] 9)).trans (⟨Y3.os, Y3.tape, Y3.output, Y3.size, Y3.block⟩ : Only g (g + 1) (w2.alloc (.cells #[.string ⟨#[122, 122]⟩, .string ⟨#[101, 97, 115, 116]⟩, .string ⟨#[119, 101, 115, 116]⟩] 9)) w3)) (.inr (by omega))).1 o)
        have HFR : Hid (∀ w3, Only g (g + 1) (w2.alloc (.cells #[.string ⟨#[122, 122]⟩, .string ⟨#[101, 97, 115, 116]⟩, .string ⟨#[119, 101, 115, 116]⟩] 9)).drew w3 → Src w3 g (M + 204) → DR w w3 g (M + 204) (.slice (some ⟨gt, 0, none⟩) n c1) n 100 rs) := Lib.hid (fun w3 Y3 S3 =>
          (HD2.out.alloc (.cells #[.string ⟨#[122, 122]⟩, .string ⟨#[101, 97, 115, 116]⟩, .string ⟨#[119, 101, 115, 116]⟩] 9)).drew.turn S3 Y3)
        have HX := Lib.hid hx
        have hsz3 : ∀ w3, Only g (g + 1) (w2.alloc (.cells #[.string ⟨#[122, 122]⟩, .string ⟨#[101, 97, 115, 116]⟩, .string ⟨#[119, 101, 115, 116]⟩] 9)).drew w3 → w.heap.size ≤ w3.heap.size := fun w3 Y3 => Nat.le_trans hs2 (Nat.le_trans (by simp) Y3.size)
        clear hinx hofx
        go_upto_region 9 with (fail)
        go_region_law (first
            | (go_simp; go_at_call 42; refine (text_c g w2.heap.size (M + 202) 3 [⟨#[122, 122]⟩, ⟨#[101, 97, 115, 116]⟩, ⟨#[119, 101, 115, 116]⟩] (w2.alloc (.cells #[.string ⟨#[122, 122]⟩, .string ⟨#[101, 97, 115, 116]⟩, .string ⟨#[119, 101, 115, 116]⟩] 9)).drew HSR.out HBK.out (by omega) rfl (by omega) (by omega) (by omega)).mono ?_; rintro e w3 ⟨z, rfl, mm, S3, Y3⟩
               have c3 : w3.cell? ⟨gt, 2, none⟩ = some (.slice x.A x.n x.c) := keepCO Y3 hgb (ci2a _)
               have c3a : ∀ o, (w3.alloc o).cell? ⟨gt, 2, none⟩ = some (.slice x.A x.n x.c) := fun o => keepCA o c3
               have HW3 : Hid (Src w3 g (M + 204) ∧ Only g (g + 1) (w2.alloc (.cells #[.string ⟨#[122, 122]⟩, .string ⟨#[101, 97, 115, 116]⟩, .string ⟨#[119, 101, 115, 116]⟩] 9)).drew w3) := Lib.hid ⟨S3, Y3⟩)
            | (refine step_append_any _ (by rfl) (.tmp 34) (.tmp 38) _ (by rfl) w.heap.size 9 i0 _ 1 16 Tryz.underlying33 HI.out.1 HI.out.2.1 HI.out.2.2.1 HI.out.2.2.2 rfl (by omega) _ x.n (strs x.near) (by rfl) (HOWN.out w3 HW3.out.2 _) (w3.heap.size + 1) (some ⟨w3.heap.size, 0, none⟩) 1 1 [.string z] (by rfl) (reads_one w3 9 [.string z]) (by simp [Value.oneCell']) (by simp [maxLen]; omega) (by omega) (by have := hsz3 w3 HW3.out.2; simp; omega) ?_
               intro v4 w4 O4 G4 h4
               obtain ⟨A5, c5, rfl, _, _⟩ := (Own.of_owns O4 (Nat.le_refl _)).slice
               have cc4 : w4.cell? ⟨gt, 2, none⟩ = some (.slice x.A x.n x.c) := keepCG G4 hgx (c3a _)
               have ff4 : w4.frozen? ⟨gt, 2, none⟩ = false := (Own.grownBy ((HFR.out w3 HW3.out.2 HW3.out.1).own.row.below ((Below.refl w3.heap.size w3).alloc (Nat.le_refl _) (.cells #[.string z] 9)) (Nat.le_refl _)) ⟨G4.os, G4.tape, G4.output, G4.size, G4.block⟩ (fun q hq => by have e : gt = q := (by simpa [Value.ownBlock] using hq); subst e; exact hgx)).1.frozenAt 2
               have HST : Hid (DR w (w4.setCell ⟨gt, 2, none⟩ (.slice A5 (x.n + 1) c5)) g (M + 204) (.slice (some ⟨gt, 0, none⟩) n c1) n 101 (rs.set 0 ⟨x.id, x.lv, A5, x.n + 1, c5, x.near ++ [z]⟩)) := Lib.hid ((HFR.out w3 HW3.out.2 HW3.out.1).app (K2 := 101) ((Below.refl w3.heap.size w3).alloc (Nat.le_refl _) (.cells #[.string z] 9)) HX.out O4 ⟨G4.os, G4.tape, G4.output, G4.size, G4.block⟩ h4 (by omega) (by omega)))
            | fail "no arm")
        all_goals
          clear HSR HBK HOWN HFR HX hsz3 ci2 ci2a HI hgx hgb
          go_wp2
          go_ret
          exact ⟨_, n, _, rfl, HST.out.more (by omega) (by omega), hn9⟩
      · obtain rfl : n = 0 := by omega
        go_wp2
        go_ret
        exact ⟨_, 0, rs, rfl, HD2.out.more (by omega) (by omega), hn9⟩
    · by_cases h2 : u = 2
      · subst h2
        go_wp2_with fail
        refine (among_c g w2.heap.size (M + 202) 2 [8, 9] _ (HD2.out.src.alloc _) (Blk.new _ _ _) (by have := HD2.out.src.lt; omega) rfl (by omega) (by omega) (by omega)).mono ?_
        rintro e w3 ⟨y, rfl, mm, S3, Y3⟩
        have HD3 := Lib.hid ((HD2.out.alloc _).turn S3 Y3)
        have hs3 : w.heap.size ≤ w3.heap.size := HD3.out.only.size
        obtain ⟨m, rfl, hm⟩ : ∃ m : Nat, y = m ∧ m ≤ 9 := by
          simp at mm
          rcases mm with rfl | rfl
          · exact ⟨8, rfl, by omega⟩
          · exact ⟨9, rfl, by omega⟩
        have D0 : Hid (DR w (w3.alloc (.cells #[] 37)) g (M + 204) (.slice (some ⟨w3.heap.size, 0, none⟩) 0 0) 0 0 []) := Lib.hid (by
          have ho := World.ownsRow_lit (w := w3) (base := w.heap.size) (e := 37) (size := 3) #[] 0 hs3 (by simp [maxLen]) (by simp)
          exact ⟨⟨Own.of_owns ho (Nat.le_refl _), fun x hx => by simp at hx, fun x hx => by simp at hx, List.Pairwise.nil⟩, HD3.out.src.alloc _, HD3.out.only.alloc' _, fun x hx => by simp at hx, hg⟩)
        clear S3 Y3 HD2 HD3 mm hrl h0 h1
        go_wp2
        go_loopw [3, 6] (fun ov kv wr => ∃ (k : Nat) (rs : List Rg), k ≤ m ∧ kv = .int .i64 k ∧ Hid (DR w wr g (M + 204) ov k 0 rs)) (fun _ kv _ => m - (intOf kv).toNat)
        case atStart => exact ⟨0, [], Nat.zero_le _, rfl, D0⟩
        case round =>
          clear D0
          obtain ⟨k, rs, hk, rfl, HD⟩ := hrel
          by_cases hlt : k < m
          · have hkm : (k : Int) < (m : Int) := by omega
            have hk0 : (0 : Int) ≤ (k : Int) := by omega
            go_wp2_with fail
            refine (l01Dec_c k wr (by omega)).mono ?_
            rintro e w4 ⟨rfl, B4⟩
            have HD4 := Lib.hid (HD.out.bel B4)
            have hs4 : w.heap.size ≤ w4.heap.size := HD4.out.only.size
            have hds := decB_small (m := k) (by omega)
            generalize decB k = db at *
            clear B4 HD
            have hwr : IntKind.i64.wrap (1 + (k : Int) % 5) = 1 + (k : Int) % 5 := IntWalk.i64_in _ (by omega)
            have hrm : IntKind.i64.wrap (Int.tmod (k : Int) 5) = (k : Int) % 5 := by rw [Int.tmod_eq_emod_of_nonneg (by omega)]; exact IntWalk.i64_in _ (by omega)
            have htm : Int.tmod (k : Int) 5 = (k : Int) % 5 := Int.tmod_eq_emod_of_nonneg (by omega)
            have hns : ¬ (9223372036854775807 < 1 + db.size) := by omega
            have hz1 : (⟨#[110]⟩ : ByteArray).size = 1 := rfl
            have hns2 : ¬ (9223372036854775807 < ((⟨#[110]⟩ : ByteArray) ++ db).size) := by rw [ByteArray.size_append, hz1]; omega
            go_wp2_with (at_builtin; refine app_rg rfl (.tmp 53) (.tmp 61) rfl w.heap.size _ k rs _ _ none 0 0 rfl HD4.out.own.row.1 rfl (by omega) hs4 ?_)
            intro v5 w5 O5 G5
            have HS := Lib.hid (HD4.out.push (nr := []) (Only.refl g (g + 1) w4) HD4.out.src (Nat.le_refl 0) Own.nil ((Below.refl _ _).alloc (Nat.le_refl _) _) O5 G5)
            clear O5 G5 hwr hrm htm hns hns2 hz1 hds HD4
            go_wp2
            go_roundw
            case rel => exact ⟨k + 1, _, by omega, by go_num, HS⟩
            case measure => simp [intOf] <;> omega
          · obtain rfl : k = m := by omega
            go_wp2
            go_ret
            exact ⟨_, k, rs, rfl, HD.out.more (by omega) (by omega), hm⟩
      · go_wp2
        go_ret
        exact ⟨_, n, rs, rfl, HD2.out.more (by omega) (by omega), hn9⟩
end Go.Proofs.YteklfeeamjgplaaGreatDoor
