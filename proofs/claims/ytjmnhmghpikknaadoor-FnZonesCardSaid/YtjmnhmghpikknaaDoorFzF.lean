/- FnZones: the law's walk. -/
import Derived.Test.YtjmnhmghpikknaaDoorFzE
import Derived.Test.YtjmnhmghpikknaaDoorOpenU
import Derived.Deep.DeepCutAuto
namespace Go.Proofs.YtjmnhmghpikknaaDoor
open Go.ChangeShapes Go.WideShapes Go.ChangeAt Go.RowKit
set_option linter.unusedVariables false

/-- what the three zones answer -/
structure ZFacts (p : Int) (a b c : Int × Int) : Prop where
  c1 : a.2 = 0 ∨ a.2 = 2
  c2 : b.2 = 0 ∨ b.2 = 2
  c3 : c.2 = 0 ∨ c.2 = 2
  lo : a.2 = 0 → 0 ≤ a.1 ∧ a.1 ≤ 3
  hi : a.2 = 0 → b.2 = 0 → a.1 ≤ b.1
  so : a.2 = 0 → c.2 = 0 → a.1 ≤ c.1
  ze : a.2 = 0 → (a.1 = 0 ↔ p = 0)
theorem zfacts (p y : Int) : ZFacts p (zoneV p y) (zoneV (p + 1) y) (zoneV p (y - 1)) := by
  have h1 := @zoneV_ok p y
  have h2 := @zoneV_ok (p + 1) y
  have h3 := @zoneV_ok p (y - 1)
  have k1 := zoneOf_bd p y
  have k2 := zoneOf_p p y
  have k3 := zoneOf_y p y
  refine ⟨?_, ?_, ?_, ?_, ?_, ?_, ?_⟩
  · rcases h1 with h | h
    · exact .inl h.1
    · rw [h]; exact .inr rfl
  · rcases h2 with h | h
    · exact .inl h.1
    · rw [h]; exact .inr rfl
  · rcases h3 with h | h
    · exact .inl h.1
    · rw [h]; exact .inr rfl
  · intro h0
    rcases h1 with h | h
    · rw [h.2.2.2]; exact k1
    · rw [h] at h0; cases h0
  · intro h0 g0
    rcases h1 with h | h
    · rcases h2 with g | g
      · rw [h.2.2.2, g.2.2.2]; exact k2
      · rw [g] at g0; cases g0
    · rw [h] at h0; cases h0
  · intro h0 g0
    rcases h1 with h | h
    · rcases h3 with g | g
      · rw [h.2.2.2, g.2.2.2]; exact k3
      · rw [g] at g0; cases g0
    · rw [h] at h0; cases h0
  · intro h0
    rcases h1 with h | h
    · rw [h.2.2.2]; exact zoneOf_0 y h.2.1.1
    · rw [h] at h0; cases h0
theorem ztext_c (A : Option Addr) (n c B : Nat) (zs : List Int) (W : World) (ha : Reads W B 1 A n (ints zs)) (hB : B ≤ W.heap.size) (hok : okZ zs = true) :
    Calls Tryd.prog 10 #[.slice A n c] W fun e w' => e = .returned (.string (textZ zs)) ∧ Below W.heap.size W w' := by
  have h64 := (okZ_iff.1 hok).1
  have h := iZonesText_c A n c B zs W ha hB (by have := ha.len; omega)
  have e : (decide (n ≤ 64) && allInB 0 3 zs) = true := by unfold okZ at hok; rw [← ha.len]; exact hok
  rw [if_pos e] at h
  exact h
theorem zread_c (zs : List Int) (hok : okZ zs = true) (m0 : Int) (W : World) (hm0 : W.cell? ⟨0, 0, none⟩ = some (.int .i64 m0)) : Calls Tryd.prog 9 #[.string (textZ zs)] W (RZPost (zs, true) W) := by
  have h := iReadZones_c (textZ zs) m0 W (by have := textZ_size hok; omega) hm0
  rw [spec_text hok] at h
  exact h
theorem zparts_no (A : Option Addr) (n c B : Nat) (zs : List Int) (W : World) (ha : Reads W B 1 A n (ints zs)) (hB : B ≤ W.heap.size) (hn : n ≤ 1000) (hok : okZ zs = false) :
    Calls Tryd.prog 13 #[.slice A n c] W fun e w' => e = .returned (.tuple #[.slice none 0 0, .int .i64 2]) ∧ Below W.heap.size W w' := by
  have h := iZoneParts_c A n c B zs W ha hB hn
  unfold ZPPost at h
  simp only [hok, Bool.false_eq_true, reduceIte] at h
  exact h
theorem zparts_yes (A : Option Addr) (n c B : Nat) (zs : List Int) (W : World) (ha : Reads W B 1 A n (ints zs)) (hB : B ≤ W.heap.size) (hn : n ≤ 1000) (hok : okZ zs = true) :
    Calls Tryd.prog 13 #[.slice A n c] W fun e w' => ∃ A c l, e = .returned (.tuple #[.slice A (partsK zs zs.length).length c, .int .i64 0]) ∧ PZ W w' (.slice A (partsK zs zs.length).length c) (partsK zs zs.length) l := by
  have h := iZoneParts_c A n c B zs W ha hB hn
  unfold ZPPost at h
  simp only [hok, reduceIte] at h
  exact h
theorem maxL_const {l : List Int} {z : Int} (h : ∀ y ∈ l, y = z) (hne : l ≠ []) : maxL l = z := by
  cases l with
  | nil => exact absurd rfl hne
  | cons a r =>
    have ha := h a (by simp)
    subst ha
    have hr : ∀ (r : List Int) (a : Int), (∀ y ∈ r, y = a) → r.foldl max a = a := by
      intro r
      induction r with
      | nil => intro a _; rfl
      | cons b r ih =>
        intro a h
        have hb := h b (by simp)
        subst hb
        rw [List.foldl_cons, Int.max_self]
        exact ih _ (fun y hy => h y (by simp [hy]))
    exact hr r _ (fun y hy => h y (by simp [hy]))
theorem seg_const {zs : List Int} {f u : Nat} {z : Int} (hfu : f ≤ u) (hu : u < zs.length) (h : ∀ j, f ≤ j → j ≤ u → iA zs j = z) : maxL ((zs.drop f).take (u + 1 - f)) = z := by
  refine maxL_const (fun y hy => ?_) (fun e => ?_)
  · obtain ⟨j, hj⟩ := List.getElem?_of_mem hy
    rw [List.getElem?_take] at hj
    split at hj
    · rw [List.getElem?_drop] at hj
      rw [← h (f + j) (by omega) (by omega), iA_some hj]
    · cases hj
  · have := congrArg List.length e
    rw [List.length_take, List.length_drop, List.length_nil] at this
    omega
/-- the cells of row i of the parts -/
theorem PZ.rowAt {w wr : World} {A : Option Addr} {c i : Nat} {P : List Pt} {l : List GRow} {p : Pt} (h : PZ w wr (.slice A P.length c) P l) (hp : P[i]? = some p) {W : World} (hW : Below wr.heap.size wr W) :
    ∃ (gA gx cx : Nat), A = some ⟨gA, 0, none⟩ ∧ W.cell? ⟨gA, i, none⟩ = some (.slice (some ⟨gx, 0, none⟩) 3 cx) ∧ W.cell? ⟨gx, 0, none⟩ = some (.int .i64 p.z) ∧ W.cell? ⟨gx, 1, none⟩ = some (.int .i64 p.f) ∧ W.cell? ⟨gx, 2, none⟩ = some (.int .i64 p.l) ∧ gA < wr.heap.size ∧ gx < wr.heap.size := by
  have hi := (List.getElem?_eq_some_iff.1 hp).1
  obtain ⟨gA, x, rfl, g1, g2, hx, hc, ho⟩ := (h.g.below hW (Nat.le_refl _)).at_ (k := i) hi
  have hx3 := h.n3 x (List.mem_of_getElem? hx)
  have hxs : x.xs = p.xs := by
    have e := congrArg (fun q => q[i]?) h.eq
    simp only [List.getElem?_map, hx, hp, Option.map_some] at e
    exact Option.some.inj e
  obtain ⟨xA, xn, xc, xx⟩ := x
  simp only at hx3 hxs
  subst hx3; subst hxs
  obtain ⟨gx, rfl, q1, q2, q3⟩ := ho.at_ (by show 0 < 3; omega)
  exact ⟨gA, gx, xc, rfl, hc, ho.1.cellAt 0 (by show 0 < 3 * 1; omega), ho.1.cellAt 1 (by show 1 < 3 * 1; omega), ho.1.cellAt 2 (by show 2 < 3 * 1; omega), g2, q2⟩
set_option maxHeartbeats 8000000 in
set_option maxRecDepth 100000 in
theorem wZones (w : World) (m0 : Int) (hm0 : w.cell? ⟨0, 0, none⟩ = some (.int .i64 m0)) (A : Option Addr) (n cp : Nat) (bs : List Int) (ha : Bytes w w.heap.size A n bs) (_ : n ≤ 9223372036854775807) (D : Option Addr) (m d : Nat) (cs : List Int) (hd : Bytes w w.heap.size D m cs) (_ : m ≤ 9223372036854775807) :
    Calls Tryd.prog 3 #[.slice A n cp, .slice D m d] w fun e w' => e = .returned (.bool true) ∧ Below w.heap.size w w' := by
  have HL1 := Lib.hid (fun W => b10Long_c A n cp W)
  have HL2 := Lib.hid (fun W => b10Long_c D m d W)
  by_cases h1 : 1048576 < n
  · rw [decide_eq_true h1] at HL1
    clear ha hd h1
    go_enter Tryd.func3, Tryd.ntmps3
    go_wp2_with fail
    refine (HL1.out _).mono ?_
    rintro e w1 ⟨rfl, rfl⟩
    go_wp2
    go_ret
    exact ⟨rfl, Below.refl _ _⟩
  · rw [decide_eq_false h1] at HL1
    by_cases h2 : 1048576 < m
    · rw [decide_eq_true h2] at HL2
      clear ha hd h1 h2
      go_enter Tryd.func3, Tryd.ntmps3
      go_wp2_with fail
      refine (HL1.out _).mono ?_
      rintro e w1 ⟨rfl, rfl⟩
      go_wp2_with fail
      refine (HL2.out _).mono ?_
      rintro e w1 ⟨rfl, rfl⟩
      go_wp2
      go_ret
      exact ⟨rfl, Below.refl _ _⟩
    · rw [decide_eq_false h2] at HL2
      have hn : n ≤ 1048576 := by omega
      have hm : m ≤ 1048576 := by omega
      have HM : Hid (∀ W, Below w.heap.size w W → W.cell? ⟨0, 0, none⟩ = some (.int .i64 m0)) := Lib.hid (fun W hW => (hW.cell (World.block_lt_of_cell? _ _ hm0)).trans hm0)
      have HA := Lib.hid ha
      have HD := Lib.hid hd
      clear ha hd h1 h2 hm0
      go_enter Tryd.func3, Tryd.ntmps3
      go_wp2_with fail
      refine (HL1.out _).mono ?_
      rintro e w1 ⟨rfl, rfl⟩
      go_wp2_with fail
      refine (HL2.out _).mono ?_
      rintro e w1 ⟨rfl, rfl⟩
      clear HL1 HL2
      go_wp2_with fail
      refine (drawZoneOf_c A n cp bs w HA.out hn).mono ?_
      rintro e w1 ⟨p, y, rfl, hp, hy, B1⟩
      have T1 := Lib.hid B1
      clear B1
      have wp1 : IntKind.i64.wrap (p + 1) = p + 1 := IntWalk.i64_in _ (by omega)
      have wy1 : IntKind.i64.wrap (y - 1) = y - 1 := IntWalk.i64_in _ (by omega)
      obtain ⟨a1, a2, a3, a4, a5, a6, a7⟩ := zfacts p y
      have HZ1 := Lib.hid (fun W => iZoneOf_c p y W)
      have HZ2 := Lib.hid (fun W => iZoneOf_c (p + 1) y W)
      have HZ3 := Lib.hid (fun W => iZoneOf_c p (y - 1) W)
      generalize zoneV p y = v1 at *
      generalize zoneV (p + 1) y = v2 at *
      generalize zoneV p (y - 1) = v3 at *
      obtain ⟨z1, c1⟩ := v1
      obtain ⟨z2, c2⟩ := v2
      obtain ⟨z3, c3⟩ := v3
      simp only at a1 a2 a3 a4 a5 a6 a7 HZ1 HZ2 HZ3
      go_wp2_with fail
      refine (HZ1.out _).mono ?_
      rintro e wx ⟨rfl, rfl⟩
      go_wp2_with fail
      refine (HZ2.out _).mono ?_
      rintro e wx ⟨rfl, rfl⟩
      go_wp2_with fail
      refine (HZ3.out _).mono ?_
      rintro e wx ⟨rfl, rfl⟩
      clear HZ1 HZ2 HZ3 wp1 wy1
      go_upto_region 7 with (fail)
      go_cut [91] (fun b wx => b = .bool false ∧ wx = w1)
      case first =>
        as_aux_lemma =>
        rcases a1 with rfl | rfl
        · obtain ⟨b1, b2⟩ := a4 rfl
          have d1 : decide (z1 < 0) = false := by simp; omega
          have d2 : decide (3 < z1) = false := by simp; omega
          have HZ0 : Hid ((z1 == 0) = (p == 0)) := Lib.hid (by rw [Bool.eq_iff_iff, beq_iff_eq, beq_iff_eq]; exact a7 rfl)
          rcases a2 with rfl | rfl <;> rcases a3 with rfl | rfl
          · have d4 : decide (z2 < z1) = false := by have := a5 rfl rfl; simp; omega
            have d5 : decide (z3 < z1) = false := by have := a6 rfl rfl; simp; omega
            go_wp2_with fail
            go_meet
            exact ⟨by rw [HZ0.out]; simp, rfl⟩
          · have d4 : decide (z2 < z1) = false := by have := a5 rfl rfl; simp; omega
            go_wp2_with fail
            go_meet
            exact ⟨by rw [HZ0.out]; simp, rfl⟩
          · have d5 : decide (z3 < z1) = false := by have := a6 rfl rfl; simp; omega
            go_wp2_with fail
            go_meet
            exact ⟨by rw [HZ0.out]; simp, rfl⟩
          · go_wp2_with fail
            go_meet
            exact ⟨by rw [HZ0.out]; simp, rfl⟩
        · go_wp2_with fail
          go_meet
          exact ⟨rfl, rfl⟩
      case rest =>
        obtain ⟨rfl, hwc⟩ := hcut
        obtain rfl := hwc.symm
        clear a1 a2 a3 a4 a5 a6 a7
        go_wp2_with fail
        refine (drawWorstZones_c D m d cs w1 ((HD.out.below T1.out).more T1.out.size) hm).mono ?_
        rintro e w2 ⟨X, nx, cx, xs, Y, ny, cy, ys, rfl, OX, OY, hx, hy2, B2⟩
        have T2 := Lib.hid (T1.out.trans (B2.mono T1.out.size))
        have HX := Lib.hid OX
        have HY := Lib.hid OY
        clear OX OY B2 T1
        have lx := HX.out.reads.len
        have ly := HY.out.reads.len
        have HWZ := Lib.hid (iWorstZones_c X nx cx _ xs Y ny cy _ ys w2 HX.out.reads (Nat.le_refl _) (by omega) HY.out.reads (Nat.le_refl _) (by omega))
        have HWV := Lib.hid (show worstV xs ys = if okZ xs = false ∨ okZ ys = false then ([], 2) else if xs.length ≠ ys.length then ([], 7) else (zmax xs ys, 0) from rfl)
        have HOKM := Lib.hid (fun h1 h2 h3 => zmax_ok (a := xs) (b := ys) h1 h2 h3)
        go_wp2_with fail
        refine HWZ.out.mono ?_
        rintro e w3 ⟨E, k, ce, rfl, OE, hk, hkc, B3⟩
        have HE := Lib.hid OE
        have T3 := Lib.hid (T2.out.trans (B3.mono T2.out.size))
        have HX3 := Lib.hid (HX.out.below B3 (Nat.le_refl _))
        have HY3 := Lib.hid (HY.out.below B3 (Nat.le_refl _))
        have hs3 := B3.size
        obtain ⟨cc, hcc⟩ : ∃ cc, cc = (worstV xs ys).2 := ⟨_, rfl⟩
        rw [← hcc]
        have HCC := Lib.hid hcc
        clear OE B3 HWZ HX HY T2 hcc
        go_upto_if 104 with (fail)
        go_cut [17, 18, 19] (fun v17 v18 v19 wx => Hid (Below w.heap.size w wx))
        case first =>
          as_aux_lemma =>
          by_cases hok : okZ xs = true ∧ okZ ys = true ∧ xs.length = ys.length
          · obtain ⟨h1, h2, h3⟩ := hok
            have HV : Hid (worstV xs ys = (zmax xs ys, 0)) := Lib.hid (by rw [HWV.out, if_neg (by simp [h1, h2]), if_neg (by simpa using h3)])
            have HEV : Hid (Own w3 w2.heap.size w3.heap.size 2 1 (.slice E k ce) k (ints (zmax xs ys))) := Lib.hid (by have h := HE.out; rw [HV.out] at h; exact h)
            have hc0 : (cc == 0) = true := by rw [HCC.out, HV.out]; rfl
            have lz : (zmax xs ys).length = k := HEV.out.reads.len
            have lz2 := zmax_len h3
            obtain rfl : nx = k := by omega
            obtain rfl : ny = nx := by omega
            have HOKZ := Lib.hid (HOKM.out h1 h2 h3)
            have HZG := Lib.hid (fun (j : Nat) (x y : Int) (hx : xs[j]? = some x) (hy : ys[j]? = some y) => zmax_get hx hy)
            clear h1 h2 h3 HCC HOKM HWV HV lz lz2 HE
            generalize zmax xs ys = zm at *
            go_wp2
            go_loopw [17] (fun iv wr => ∃ j q : Nat, j ≤ ny ∧ iv = .int .i64 j ∧ wr = w3.drewN q) (fun iv _ => ny - (intOf iv).toNat)
            case atStart => exact ⟨0, 0, Nat.zero_le _, rfl, rfl⟩
            case round =>
              obtain ⟨j, q, hj, rfl, rfl⟩ := hrel
              by_cases hlt : j < ny
              · obtain ⟨ax, x, rfl, _, hx', cx'⟩ := HX3.out.reads.int hlt
                obtain ⟨ay, y', rfl, _, hy', cy'⟩ := HY3.out.reads.int hlt
                obtain ⟨ae, e', rfl, _, he', ce'⟩ := HEV.out.reads.int hlt
                obtain rfl : max x y' = e' := by have h := HZG.out j x y' hx' hy'; rw [he'] at h; exact (Option.some.inj h).symm
                have hjn : (j : Int) < (ny : Int) := by omega
                have hj0 : (0 : Int) ≤ (j : Int) := by omega
                have hne : (max x y' != max x y') = false := by simp
                clear hx' hy' he'
                go_wp2
                go_quiet (fail)
                go_wp2
                go_roundw
                case rel => exact ⟨j + 1, _, by omega, by go_num, rfl⟩
                case measure => simp [intOf] <;> omega
              · have hjn : ¬ (j : Int) < (ny : Int) := by omega
                have T4 := Lib.hid (below_drewN T3.out q)
                have HE4 : Hid (Own (w3.drewN q) w2.heap.size w3.heap.size 2 1 (.slice E ny ce) ny (ints zm)) := Lib.hid (HEV.out.drewN q)
                have hs4 : w3.heap.size ≤ (w3.drewN q).heap.size := Nat.le_refl _
                generalize w3.drewN q = w4 at *
                clear HX3 HY3 HEV HZG hj hlt
                go_wp2_with fail
                refine (ztext_c E ny ce _ zm w4 HE4.out.reads (by omega) HOKZ.out).mono ?_
                rintro e w5 ⟨rfl, B5⟩
                have T5 := Lib.hid (T4.out.trans (B5.mono T4.out.size))
                have HE5 := Lib.hid (HE4.out.below B5 hs4)
                have hs5 : w3.heap.size ≤ w5.heap.size := by have := B5.size; omega
                clear B5 HE4 T4
                go_wp2_with fail
                refine (zread_c zm HOKZ.out m0 w5 (HM.out _ T5.out)).mono ?_
                rintro e w6 ⟨A6, c6, rfl, O6, hn6, B6⟩
                have T6 := Lib.hid (T5.out.trans (B6.mono T5.out.size))
                have HE6 := Lib.hid (HE5.out.below B6 hs5)
                have HO6 := Lib.hid O6
                clear B6 HE5 T5 O6
                simp only at HO6 ⊢
                go_wp2_with fail
                refine (b10Nums_same A6 E zm.length ny c6 ce _ _ zm w6 HO6.out.reads HE6.out.reads (by omega)).mono ?_
                rintro e w7 ⟨rfl, B7⟩
                have T7 := Lib.hid (T6.out.trans (B7.mono T6.out.size))
                clear B7
                go_wp2_with fail
                go_meet
                exact T7
          · have hc2 : (cc == 0) = false := by
              rw [HCC.out, HWV.out]
              split
              · rfl
              · rename_i g
                rw [if_pos (fun e => hok ⟨by cases q : okZ xs; exact absurd (.inl q) g; rfl, by cases q : okZ ys; exact absurd (.inr q) g; rfl, e⟩)]
                rfl
            go_wp2_with fail
            go_meet
            exact T3
        case rest =>
          as_aux_lemma =>
          have T3 := hcut
          clear hcut HX3 HY3 HE HWV HOKM lx ly hs3 HCC
          generalize wc = w3 at *
          go_wp2_with fail
          refine (drawZoneParts_c A n cp bs w3 ((HA.out.below T3.out).more T3.out.size) hn).mono ?_
          rintro e w4 ⟨L, nl, cl, zs, rfl, OL, hl, B4⟩
          have T4 := Lib.hid (T3.out.trans (B4.mono T3.out.size))
          have HL := Lib.hid OL
          have lz := OL.reads.len
          clear OL B4 T3
          cases hok : okZ zs
          · go_wp2_with fail
            refine (zparts_no L nl cl _ zs w4 HL.out.reads (Nat.le_refl _) (by omega) hok).mono ?_
            rintro e w5 ⟨rfl, B5⟩
            have T5 := Lib.hid (T4.out.trans (B5.mono T4.out.size))
            go_wp2
            go_ret
            exact ⟨rfl, T5.out⟩
          · have HOK := Lib.hid hok
            go_wp2_with fail
            refine (zparts_yes L nl cl _ zs w4 HL.out.reads (Nat.le_refl _) (by omega) hok).mono ?_
            rintro e w5 ⟨G, cg, gl, rfl, HPZ0⟩
            have HPZ := Lib.hid HPZ0
            have T5 := Lib.hid (T4.out.trans (HPZ0.bel.mono T4.out.size))
            have HL5 := Lib.hid (HL.out.below HPZ0.bel (Nat.le_refl _))
            have hs5 := HPZ0.bel.size
            have HPI := Lib.hid (parts_inv zs zs.length)
            have HZK := Lib.hid (okZ_iff.1 hok).2
            have hP8 := partsK_le zs zs.length
            have h64 := (okZ_iff.1 hok).1
            obtain ⟨_, _, eL, hlc, hlm⟩ := HL5.out.slice
            obtain rfl : cl = _ := by injection eL
            clear HPZ0 hok HL T4 eL
            generalize partsK zs zs.length = P at *
            go_wp2
            go_loopw [23, 24] (fun av iv wr => ∃ i : Nat, i ≤ P.length ∧ iv = .int .i64 i ∧ av = .int .i64 (startP P i) ∧ Hid (Below w5.heap.size w5 wr)) (fun _ iv _ => P.length - (intOf iv).toNat)
            case atStart => exact ⟨0, Nat.zero_le _, rfl, rfl, Lib.hid (Below.refl _ _)⟩
            case round =>
              obtain ⟨i, hi, rfl, rfl, HB⟩ := hrel
              by_cases hlt : i < P.length
              · have hp : P[i]? = some (P[i]'hlt) := List.getElem?_eq_getElem hlt
                generalize P[i]'hlt = p1 at hp
                obtain ⟨hst, hst2⟩ := startP_at HPI.out hp
                have HS2 := Lib.hid hst2
                obtain ⟨hfl, hln, hall, _⟩ := HPI.out.at_ i p1 hp
                have HALL := Lib.hid hall
                have hz03 : 0 ≤ p1.z ∧ p1.z ≤ 3 := by
                  have h1 := hall p1.f (Nat.le_refl _) hfl
                  have hz1 : zs[p1.f]? = some (zs[p1.f]'(by omega)) := List.getElem?_eq_getElem _
                  rw [iA_some hz1] at h1
                  rw [← h1]
                  exact HZK.out _ (List.getElem_mem _)
                have HPP := Lib.hid hp
                have hsw := HB.out.size
                rw [hst]
                have HMB : Hid (∀ (z : Int) (u : Nat) W, Below w5.heap.size w5 W → p1.f ≤ u → u ≤ p1.l → inB z 0 3 = true → Calls Tryd.prog 14 #[.slice L nl cl, .int .i64 (p1.f : Int), .int .i64 (u : Int), .int .i64 z] W fun e w' => e = .returned (.bool (decide (p1.z ≤ z))) ∧ Below W.heap.size W w') := Lib.hid (fun z u W hW h1 h2 h3 => by
                  have h := mayBuild_c L nl cl w4.heap.size zs p1.f u z W ((HL5.out.below hW hs5).reads) (Nat.le_trans hs5 hW.size) HOK.out hlc hlm h1 (by omega) h3
                  rw [seg_const h1 (by omega) (fun j q1 q2 => HALL.out j q1 (by omega))] at h
                  exact h)
                have hpf1 : ¬ ((p1.l : Int) < (p1.f : Int)) := by omega
                have hpf2 : ¬ ((nl : Int) ≤ (p1.l : Int)) := by omega
                have hin : (i : Int) < (P.length : Int) := by omega
                have hi0 : (0 : Int) ≤ (i : Int) := by omega
                clear hst hst2 hall hi
                go_upto_region 30 with (fail)
                go_cut [225] (fun b wx => b = .bool false ∧ ∃ q, wx = wr.drewN q)
                case first =>
                  as_aux_lemma =>
                  obtain ⟨gA, gx, cx, rfl, c0, c1, c2, c3, hgA, hgx⟩ := HPZ.out.rowAt hp HB.out
                  have e1 : ((p1.f : Int) != (p1.f : Int)) = false := by simp
                  have e2 : decide ((p1.l : Int) < (p1.f : Int)) = false := by simpa using hpf1
                  have e3 : decide ((nl : Int) ≤ (p1.l : Int)) = false := by simpa using hpf2
                  have e4 : ((3 : Int) != 3) = false := by decide
                  by_cases hi1 : 0 < i
                  · have e5 : decide ((0 : Int) < (i : Int)) = true := by simpa using hi1
                    have hq : P[i - 1]? = some (P[i - 1]'(by omega)) := List.getElem?_eq_getElem _
                    generalize P[i - 1]'(by omega) = q1 at hq
                    obtain ⟨gB, gy, cy, eB, d0, d1, d2, d3, hgB, hgy⟩ := HPZ.out.rowAt hq HB.out
                    obtain rfl : gA = gB := by injection eB with eB; injection eB
                    have hnx := (HPI.out.next (i - 1) q1 p1 hq (by rw [show i - 1 + 1 = i by omega]; exact hp)).2
                    have e6 : (q1.z == p1.z) = false := by rw [beq_eq_false_iff_ne]; exact fun e => hnx e.symm
                    obtain ⟨im, him⟩ : ∃ im, i - 1 = im := ⟨_, rfl⟩
                    rw [him] at d0
                    have hiw : IntKind.i64.wrap ((i : Int) - 1) = (im : Int) := by rw [show (i : Int) - 1 = (im : Int) by omega]; exact IntWalk.i64_in _ (by omega)
                    have him1 : (im : Int) < (P.length : Int) := by omega
                    clear hq eB him hnx HMB HALL HS2
                    refine wp_region_quiet_lit (by kernel_rfl) (by kernel_rfl) ?_
                    repeat (first | go_big_quiet_step (fail) | quiet_step (fail))
                    refine wpQuiet_nil ?_
                    intro _ hw'
                    obtain ⟨nq, hw''⟩ := hw'
                    subst hw''
                    go_wp2_with fail
                    go_meet
                    exact ⟨rfl, _, rfl⟩
                  · have e5 : decide ((0 : Int) < (i : Int)) = false := by simp; omega
                    have hi1' : ¬ (0 : Int) < (i : Int) := by omega
                    clear HMB HALL HS2
                    refine wp_region_quiet_lit (by kernel_rfl) (by kernel_rfl) ?_
                    repeat (first | go_big_quiet_step (fail) | quiet_step (fail))
                    refine wpQuiet_nil ?_
                    intro _ hw'
                    obtain ⟨nq, hw''⟩ := hw'
                    subst hw''
                    go_wp2_with fail
                    go_meet
                    exact ⟨rfl, _, rfl⟩
                case rest =>
                  as_aux_lemma =>
                  obtain ⟨rfl, q0, hwc⟩ := hcut
                  subst hwc
                  obtain ⟨gA, gx, cx, rfl, c0, c1, c2, c3, hgA, hgx⟩ := HPZ.out.rowAt hp HB.out
                  have HLr := Lib.hid (HL5.out.below HB.out hs5)
                  generalize wr = wo at *
                  have hP64 : P.length ≤ 64 := by omega
                  clear hp HA HD HM HPI HZK HOK hlc hlm h64 hP8 hx hy2
                  go_wp2
                  go_loopw [25] (fun jv wy => ∃ j q : Nat, p1.f ≤ j ∧ j ≤ p1.l + 1 ∧ jv = .int .i64 j ∧ wy = wo.drewN q) (fun jv _ => (p1.l + 1) - (intOf jv).toNat)
                  case atStart => exact ⟨p1.f, q0, Nat.le_refl _, by omega, rfl, rfl⟩
                  case round =>
                    obtain ⟨j, q, hj1, hj2, rfl, rfl⟩ := hrel
                    by_cases hj : j ≤ p1.l
                    · obtain ⟨ad, yj, rfl, _, hyj, cyj⟩ := HLr.out.reads.int (k := j) (by omega)
                      have hyz : yj = p1.z := by rw [← iA_some hyj]; exact HALL.out j hj1 hj
                      subst hyz
                      have hjn : (j : Int) ≤ (p1.l : Int) := by omega
                      have hj0 : (0 : Int) ≤ (j : Int) := by omega
                      have hjl : (j : Int) < (nl : Int) := by omega
                      have hne : (p1.z != p1.z) = false := by simp
                      clear hyj HMB HALL HS2
                      go_wp2
                      go_quiet (fail)
                      go_wp2
                      go_roundw
                      case rel => exact ⟨j + 1, _, by omega, by omega, by go_num, rfl⟩
                      case measure => simp [intOf] <;> omega
                    · have hjn : ¬ (j : Int) ≤ (p1.l : Int) := by omega
                      have TB := Lib.hid (below_drewN HB.out q)
                      have e0 : (wo.drewN q).cell? ⟨gA, i, none⟩ = some (.slice (some ⟨gx, 0, none⟩) 3 cx) := c0
                      have e1 : (wo.drewN q).cell? ⟨gx, 0, none⟩ = some (.int .i64 p1.z) := c1
                      have e2 : (wo.drewN q).cell? ⟨gx, 2, none⟩ = some (.int .i64 p1.l) := c3
                      have hszq : (wo.drewN q).heap.size = wo.heap.size := rfl
                      generalize wo.drewN q = wy at *
                      clear c0 c1 c2 c3 HALL HLr
                      go_upto_region 37 with (fail)
                      go_cut [285] (fun b wx => b = .bool false ∧ Hid (Below w5.heap.size w5 wx))
                      case first =>
                        as_aux_lemma =>
                        have iz1 : inB p1.z 0 3 = true := inB_t hz03.1 hz03.2
                        have dz1 : decide (p1.z ≤ p1.z) = true := decide_eq_true (Int.le_refl _)
                        have hff := Nat.le_refl p1.f
                        have hll := Nat.le_refl p1.l
                        by_cases hz0 : 0 < p1.z
                        · obtain ⟨zm, hzm⟩ : ∃ zm, p1.z - 1 = zm := ⟨_, rfl⟩
                          have iz2 : inB zm 0 3 = true := inB_t (by omega) (by omega)
                          have dz2 : decide (p1.z ≤ zm) = false := decide_eq_false (by omega)
                          have ez : decide (0 < p1.z) = true := by simpa using hz0
                          have hwz : IntKind.i64.wrap (p1.z - 1) = zm := by rw [hzm]; exact IntWalk.i64_in _ (by omega)
                          clear hzm
                          have qe0 := cell_regrown e0
                          have qe1 := cell_regrown e1
                          have qe2 := cell_regrown e2
                          refine wp_region_quiet_below (by kernel_rfl) (by kernel_rfl) ?_
                          repeat (first | go_big_quiet_step (((go_at_call 14; exact Calls.regrown_of (HMB.out _ _ _ (TB.out.trans ((below_regrown _ _ _).mono TB.out.size)) (by assumption) (by assumption) (by assumption))))) | quiet_step (((go_at_call 14; exact Calls.regrown_of (HMB.out _ _ _ (TB.out.trans ((below_regrown _ _ _).mono TB.out.size)) (by assumption) (by assumption) (by assumption))))))
                          refine wpQuiet_nil ?_
                          intro W2 B2
                          replace B2 := Lib.hid (show Below (wy).heap.size (wy) W2 from by obtain ⟨pq, rfl⟩ := B2; exact below_regrown _ _ _)
                          clear qe0 qe1 qe2
                          go_wp2_with fail
                          go_meet
                          exact ⟨rfl, Lib.hid (TB.out.trans (B2.out.mono TB.out.size))⟩
                        · have ez : decide (0 < p1.z) = false := by simpa using hz0
                          have qe0 := cell_regrown e0
                          have qe1 := cell_regrown e1
                          have qe2 := cell_regrown e2
                          refine wp_region_quiet_below (by kernel_rfl) (by kernel_rfl) ?_
                          repeat (first | go_big_quiet_step (((go_at_call 14; exact Calls.regrown_of (HMB.out _ _ _ (TB.out.trans ((below_regrown _ _ _).mono TB.out.size)) (by assumption) (by assumption) (by assumption))))) | quiet_step (((go_at_call 14; exact Calls.regrown_of (HMB.out _ _ _ (TB.out.trans ((below_regrown _ _ _).mono TB.out.size)) (by assumption) (by assumption) (by assumption))))))
                          refine wpQuiet_nil ?_
                          intro W2 B2
                          replace B2 := Lib.hid (show Below (wy).heap.size (wy) W2 from by obtain ⟨pq, rfl⟩ := B2; exact below_regrown _ _ _)
                          clear qe0 qe1 qe2
                          go_wp2_with fail
                          go_meet
                          exact ⟨rfl, Lib.hid (TB.out.trans (B2.out.mono TB.out.size))⟩
                      case rest =>
                        obtain ⟨rfl, hBc⟩ := hcut
                        obtain ⟨gA', gx', cx', eA, d0, d1, d2, d3, _, _⟩ := HPZ.out.rowAt HPP.out hBc.out
                        obtain rfl : gA = gA' := by injection eA with eA; injection eA
                        have hwl : IntKind.i64.wrap ((p1.l : Int) + 1) = ((p1.l + 1 : Nat) : Int) := IntWalk.i64_in _ (by omega)
                        clear eA e0 e1 e2 HMB
                        go_wp2
                        go_roundw
                        case rel => exact ⟨i + 1, by omega, by go_num, by rw [HS2.out]; go_num, hBc⟩
                        case measure => simp [intOf] <;> omega
              · obtain rfl : i = P.length := by omega
                have he : startP P P.length = nl := by rw [startP_end HPI.out, lz]
                rw [he]
                go_wp2
                go_ret
                exact ⟨rfl, T5.out.trans (HB.out.mono T5.out.size)⟩
end Go.Proofs.YtjmnhmghpikknaaDoor
