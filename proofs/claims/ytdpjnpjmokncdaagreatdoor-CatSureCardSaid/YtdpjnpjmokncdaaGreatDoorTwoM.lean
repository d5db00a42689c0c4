/- sawyerlaw11.CatTwo: the walk. -/
import Derived.Test.YtdpjnpjmokncdaaGreatDoorB41
import Derived.Deep.RegionHeld3
namespace Go.Proofs.YtdpjnpjmokncdaaGreatDoor
open Go.RowKit

theorem Rd.vw {w : World} {A : Option Addr} {n : Nat} {xs : List Vw} (hl : xs.length = n) (h : Rd w A (n * 5) (xs.flatMap Vw.cells)) {i : Nat} (hi : i < n) :
    ∃ b o x, A = some ⟨b, o, none⟩ ∧ xs[i]? = some x ∧ w.cell? ⟨b, o + i * 5, none⟩ = some (.int .i64 x.gen) ∧ w.cell? ⟨b, o + i * 5 + 1, none⟩ = some (.int .i64 x.next) ∧ w.cell? ⟨b, o + i * 5 + 2, none⟩ = some (.int .i64 x.log) ∧
      w.cell? ⟨b, o + i * 5 + 3, none⟩ = some (.int .i64 x.seq) ∧ w.cell? ⟨b, o + i * 5 + 4, none⟩ = some (.slice x.A x.ms.length x.c) := by
  have hk : ∀ x, (Vw.cells x).length = 5 := fun _ => rfl
  obtain ⟨b, o, rfl, hc⟩ := h.2 (by omega)
  have hx : xs[i]? = some xs[i] := List.getElem?_eq_getElem (by omega)
  refine ⟨b, o, xs[i], rfl, hx, ?_, ?_, ?_, ?_, ?_⟩
  · exact hc (i * 5) _ (by rw [show i * 5 = i * 5 + 0 from rfl, fget 5 _ hk hx 0 (by omega)]; rfl)
  · rw [Nat.add_assoc]; exact hc (i * 5 + 1) _ (by rw [fget 5 _ hk hx 1 (by omega)]; rfl)
  · rw [Nat.add_assoc]; exact hc (i * 5 + 2) _ (by rw [fget 5 _ hk hx 2 (by omega)]; rfl)
  · rw [Nat.add_assoc]; exact hc (i * 5 + 3) _ (by rw [fget 5 _ hk hx 3 (by omega)]; rfl)
  · rw [Nat.add_assoc]; exact hc (i * 5 + 4) _ (by rw [fget 5 _ hk hx 4 (by omega)]; rfl)

/-- only files of package cat. -/
def CatNames (fs : List Fl) : Prop := ∀ k, (findF fs k).isSome = true → k = curN ∨ k = shadN ∨ (numF manP k).isSome = true
theorem catNames_new (n : Int) : CatNames (newD n).files := fun k h => by simp [newD, findF] at h
theorem saveD_bad {D : Dk} {v : Vs} (h : checkV v ≠ true) : saveD D v = (D, 1) := by unfold saveD; rw [if_neg (fun e => h e.1)]
theorem CatNames.save {D : Dk} (ok : DkOk D) (h : CatNames D.files) (v : Vs) : CatNames (saveD D v).1.files := by
  by_cases hc : checkV v = true
  · have hg := checkV_gen hc
    intro k hk
    by_cases k1 : k = curN
    · exact .inl k1
    by_cases k2 : k = shadN
    · exact .inr (.inl k2)
    by_cases k3 : k = foldN manP v.gen
    · exact .inr (.inr (by rw [k3, numF_name hg]; rfl))
    rcases saveD_went ok v with ⟨_, hb⟩ | ⟨_, hm, _, _⟩
    · rw [hb k k2 k3] at hk; exact h k hk
    · rcases hm k k1 k3 with e | e
      · rw [e] at hk; cases hk
      · rw [e] at hk; exact h k hk
  · rw [saveD_bad hc]; exact h
theorem saved_two {D : Dk} (ok : DkOk D) (h : CatNames D.files) {v : Vs} (h0 : (saveD D v).2 = 0) : loadV (saveD D v).1 = some v ∧ (saveD D v).1.files.length = 2 := by
  rcases saveD_went ok v with ⟨hb, _⟩ | ⟨c, hm, s, z⟩
  · exact absurd h0 hb
  · refine ⟨c.load, two_files (saveD_ok ok v) (fun e => man_ne_cur (checkV_gen c.ok) e.symm) (by rw [c.cur]; rfl) (by rw [c.man]; rfl) fun k k1 k2 => ?_⟩
    rcases hm k k1 k2 with e | e
    · exact e
    · cases hf : findF (saveD D v).1.files k with
      | none => rfl
      | some f =>
        rw [hf] at e
        rcases h k (by rw [← e]; rfl) with h1 | h1 | h1
        · exact absurd h1 k1
        · rw [h1, s] at hf; cases hf
        · rw [z h0 k k2 h1] at hf; cases hf

set_option maxRecDepth 100000 in
set_option maxHeartbeats 4000000 in
theorem two_walk (A : Option Addr) (n c : Nat) (xs : List Vw) (w : World) (hL : Lay w) (hE : Errs w) (hx : Rd w A (n * 5) (xs.flatMap Vw.cells)) (hxl : xs.length = n) (hxo : ∀ x ∈ xs, VwOk w x) (hn : n ≤ 9223372036854775807) :
    Calls Tryz.prog 3 #[.slice A n c] w fun e w' => e = .returned (.bool true) ∧ Mod Non w w' := by
  have HX := Lib.hid hx
  have HXL := Lib.hid hxl
  have HXO := Lib.hid hxo
  have HL := Lib.hid hL
  have HE := Lib.hid hE
  clear hx hxl hxo hL hE
  go_enter Tryz.func3, Tryz.ntmps3
  go_wp2_with fail
  refine (awakeC_any w HL.out HE.out).mono ?_
  rintro e w1 ⟨rfl, hm1⟩
  have HM1 := Lib.hid hm1
  clear hm1
  go_wp2_with fail
  refine (new_yes 1099511627776 _ (HL.out.mod0 HM1.out) (by omega) (by omega)).mono ?_
  rintro e w2 ⟨d, F, rfl, hd2, hb2, hF2⟩
  have LW2 : Hid (Lw w d F (newD 1099511627776) w2) := ⟨hd2, newD_ok (by omega) (by omega), HM1.out.trans0 (Mod.of_below hb2), fun k hk => Nat.le_trans HM1.out.size (hF2 k hk)⟩
  clear hd2 hb2 hF2
  go_wp2_with fail
  go_loopw [6] (fun i wr => ∃ (k : Nat) (F' : Nat → Prop) (D : Dk), k ≤ n ∧ k ≤ 10 ∧ i = .int .i64 k ∧ Hid (Lw w d F' D wr) ∧ Hid (CatNames D.files)) (fun i _ => n - (intOf i).toNat)
  case atStart => exact ⟨0, F, newD 1099511627776, Nat.zero_le _, by omega, rfl, LW2.out, catNames_new _⟩
  case round =>
    obtain ⟨k, F', D, hk, hk10, rfl, LW, HC⟩ := hrel
    by_cases hlt : k < n ∧ k < 10
    · obtain ⟨hlt, hlt10⟩ := hlt
      obtain ⟨b, o, y, rfl, hy, k0, k1, k2, k3, k4⟩ := HX.out.vw HXL.out hlt
      have i1 : (0 : Int) ≤ (k : Int) := by omega
      have i2 : (k : Int) < (n : Int) := by omega
      have i3 : decide ((k : Int) < 10) = true := decide_eq_true (by omega)
      have hyo := HXO.out y (List.mem_of_getElem? hy)
      obtain ⟨V, hV⟩ : ∃ V, y.v = V := ⟨_, rfl⟩
      obtain ⟨Y, hY⟩ : ∃ Y, y = Y := ⟨_, rfl⟩
      rw [hY] at hyo hV
      have HYO := Lib.hid hyo
      have HYV := Lib.hid hV
      obtain ⟨gen, next, log, seq, YA, yc, ms⟩ := y
      obtain ⟨q, hq⟩ : ∃ q, ms.length = q := ⟨_, rfl⟩
      have hYval : Y.val = .agg #[.int .i64 gen, .int .i64 next, .int .i64 log, .int .i64 seq, .slice YA q yc] := by rw [← hY]; unfold Vw.val; simp only; rw [hq]
      have hYq : Y.ms.length = q := by rw [← hY]; exact hq
      have HYE := Lib.hid hYval
      have HYQ := Lib.hid hYq
      simp only at k0 k1 k2 k3 k4
      rw [hq] at k4
      have hA : ∀ W, Mod Non w W → W.cell? ⟨b, o + k * 5, none⟩ = some (.int .i64 gen) ∧ W.cell? ⟨b, o + k * 5 + 1, none⟩ = some (.int .i64 next) ∧ W.cell? ⟨b, o + k * 5 + 2, none⟩ = some (.int .i64 log) ∧ W.cell? ⟨b, o + k * 5 + 3, none⟩ = some (.int .i64 seq) ∧ W.cell? ⟨b, o + k * 5 + 4, none⟩ = some (.slice YA q yc) := fun W hW =>
        ⟨hW.cell k0 fun h => h, hW.cell k1 fun h => h, hW.cell k2 fun h => h, hW.cell k3 fun h => h, hW.cell k4 fun h => h⟩
      have HA := Lib.hid hA
      obtain ⟨g0, g1, g2, g3, g4⟩ := hA _ LW.out.mod
      have hbw : b < w.heap.size := World.block_lt_of_cell? w _ k0
      clear k0 k1 k2 k3 k4 hA
      clear hyo hV hY hYval hYq hq hy
      by_cases h100 : 100 < q
      · have hd : decide (100 < (q : Int)) = true := decide_eq_true (by omega)
        go_wp2_with fail
        go_roundw
        case rel => exact ⟨k + 1, F', D, by omega, by omega, by go_num, LW.out, HC.out⟩
        case measure => simp [intOf]; omega
      · have hd : decide (100 < (q : Int)) = false := decide_eq_false (by omega)
        have hmine := mine_any Y wr (HYO.out.mod0 LW.out.mod) (by rw [HYQ.out]; omega)
        rw [HYE.out] at hmine
        have HMINE := Lib.hid hmine
        clear hmine
        go_wp2_with fail
        refine HMINE.out.mono ?_
        rintro e w3 ⟨A3, c3, rfl, hok3, hA3, hm3⟩
        have LW3 := Lib.hid (LW.out.mod0 hm3)
        have hsv := save_any F' d D ⟨Y.gen, Y.next, Y.log, Y.seq, A3, c3, Y.ms⟩ w3 LW3.out.disk LW3.out.ok hok3 (LW3.out.errs HE.out)
        have hv3 : Vw.v ⟨Y.gen, Y.next, Y.log, Y.seq, A3, c3, Y.ms⟩ = V := HYV.out
        rw [hv3] at hsv
        obtain ⟨⟨D4, E4⟩, hP⟩ : ∃ P, saveD D V = P := ⟨_, rfl⟩
        rw [hP] at hsv
        have HP := Lib.hid hP
        have HSV := Lib.hid hsv
        have hcn : CatNames D4.files := by have := HC.out.save LW.out.ok V; rw [hP] at this; exact this
        have hok4 : DkOk D4 := by have := saveD_ok LW.out.ok V; rw [hP] at this; exact this
        have HCN := Lib.hid hcn
        clear hm3 hok3 hA3 hsv hv3 hP hcn g0 g1 g2 g3 g4
        go_wp2_with fail
        refine HSV.out.mono ?_
        intro e w4 hp4
        obtain ⟨rfl, F4, hl4, _, _⟩ := LW3.out.step hp4 hok4
        have LW4 := Lib.hid hl4
        simp only
        clear hp4 hl4 hok4
        by_cases hE0 : E4 = 0
        · subst hE0
          have h2 := saved_two LW.out.ok HC.out (v := V) (by rw [HP.out])
          rw [HP.out] at h2
          have HLD := Lib.hid h2.1
          have HTW := Lib.hid h2.2
          clear h2
          go_wp2_with fail
          refine (loadC_any F4 d D4 w4 LW4.out.disk LW4.out.ok).mono ?_
          intro e w5 hp5
          unfold LoPost at hp5
          rw [HLD.out] at hp5
          obtain ⟨x, hxv, rfl, hxk, _, hm5⟩ := hp5
          obtain ⟨X, hX⟩ : ∃ X, x = X := ⟨_, rfl⟩
          rw [hX] at hxk hxv
          have LW5 := Lib.hid (LW4.out.mod0 hm5)
          obtain ⟨xg, xn, xl, xs', xA, xc, xms⟩ := x
          obtain ⟨xk, hxkk⟩ : ∃ xk, xms.length = xk := ⟨_, rfl⟩
          have hXval : X.val = .agg #[.int .i64 xg, .int .i64 xn, .int .i64 xl, .int .i64 xs', .slice xA xk xc] := by rw [← hX]; unfold Vw.val; simp only; rw [hxkk]
          have HXE := Lib.hid hXval
          have hth : ∀ W, Mod Non w5 W → Calls Tryz.prog 15 #[.agg #[.int .i64 xg, .int .i64 xn, .int .i64 xl, .int .i64 xs', .slice xA xk xc]] W fun e w' => ∃ Z : Vw, Z.v = V ∧ e = .returned Z.val ∧ VwOk w' Z ∧ Mod Non W w' := fun W hW => by
            have hlen : X.ms.length ≤ 100000000 := by
              have h1 := congrArg Vs.tables hxv
              have h2 := congrArg Vs.tables HYV.out
              have h3 : X.ms.length = q := by
                have := congrArg List.length (h1.trans h2.symm)
                simp only [Vw.v, List.length_map] at this
                rw [this, HYQ.out]
              omega
            have := theirs_any X W (hxk.mod0 hW) hlen
            rw [HXE.out] at this
            exact this.mono fun e w' ⟨A', c', he, hk', _, hm'⟩ => ⟨⟨X.gen, X.next, X.log, X.seq, A', c', X.ms⟩, hxv, he, hk', hm'⟩
          have HTH := Lib.hid hth
          unfold Vw.val
          simp only
          rw [hxkk]
          obtain ⟨w6, hw6⟩ : ∃ w6, w5.alloc (.cells #[.int .i64 xg, .int .i64 xn, .int .i64 xl, .int .i64 xs', .slice xA xk xc] 34) = w6 := ⟨_, rfl⟩
          have hm6 : Mod Non w5 w6 := by rw [← hw6]; exact (Mod.refl _ _).alloc _
          have HB6 : Hid (Blk w6 w5.heap.size 34 #[.int .i64 xg, .int .i64 xn, .int .i64 xl, .int .i64 xs', .slice xA xk xc]) := by { show Blk _ _ _ _; rw [← hw6]; exact Blk.new _ _ _ }
          have HM6 := Lib.hid hm6
          have LW6 := Lib.hid (LW5.out.mod0 hm6)
          have HW6 := Lib.hid hw6
          have hszw : w.heap.size ≤ w5.heap.size := LW5.out.mod.size
          have hB : ∀ W, Mod Non w6 W → W.cell? ⟨w5.heap.size, 0, none⟩ = some (.int .i64 xg) ∧ W.cell? ⟨w5.heap.size, 1, none⟩ = some (.int .i64 xn) ∧ W.cell? ⟨w5.heap.size, 2, none⟩ = some (.int .i64 xl) ∧ W.cell? ⟨w5.heap.size, 3, none⟩ = some (.int .i64 xs') ∧ W.cell? ⟨w5.heap.size, 4, none⟩ = some (.slice xA xk xc) := fun W hW =>
            ⟨(HB6.out.mod hW fun h => h).cell 0, (HB6.out.mod hW fun h => h).cell 1, (HB6.out.mod hW fun h => h).cell 2, (HB6.out.mod hW fun h => h).cell 3, (HB6.out.mod hW fun h => h).cell 4⟩
          have HBB := Lib.hid hB
          have hyc : ∀ W Z, Mod Non w W → VwOk W Z → Calls Tryz.prog 14 #[Z.val, .agg #[.int .i64 gen, .int .i64 next, .int .i64 log, .int .i64 seq, .slice YA q yc]] W fun e w' => e = .returned (.bool (decide (Z.v = V))) ∧ Mod Non W w' := fun W Z hW hZ => by
            have := sameVs_any Z Y W hZ (HYO.out.mod0 hW)
            rw [HYE.out, HYV.out] at this
            exact this
          have HYC := Lib.hid hyc
          obtain ⟨g0, g1, g2, g3, g4⟩ := HA.out w6 LW6.out.mod
          obtain ⟨z0, z1, z2, z3, z4⟩ := hB w6 (Mod.refl _ _)
          clear hm5 hxv hxk hX hXval hth hxkk hm6 hw6 hB hyc
          go_wp2_with fail
          rw [HW6.out]
          go_region_held3 (fun w' => w'.cell? ⟨w5.heap.size, 0, none⟩ = some (.int .i64 xg) ∧ w'.cell? ⟨w5.heap.size, 1, none⟩ = some (.int .i64 xn) ∧ w'.cell? ⟨w5.heap.size, 2, none⟩ = some (.int .i64 xl) ∧ w'.cell? ⟨w5.heap.size, 3, none⟩ = some (.int .i64 xs') ∧ w'.cell? ⟨w5.heap.size, 4, none⟩ = some (.slice xA xk xc) ∧ w'.cell? ⟨b, o + k * 5, none⟩ = some (.int .i64 gen) ∧ w'.cell? ⟨b, o + k * 5 + 1, none⟩ = some (.int .i64 next) ∧ w'.cell? ⟨b, o + k * 5 + 2, none⟩ = some (.int .i64 log) ∧ w'.cell? ⟨b, o + k * 5 + 3, none⟩ = some (.int .i64 seq) ∧ w'.cell? ⟨b, o + k * 5 + 4, none⟩ = some (.slice YA q yc))
            (first | go_keep)
            (first
              | (go_at_call 15
                 refine (HTH.out _ (HM6.out.drew)).mono ?_
                 rintro e w7 ⟨Z, hZV, rfl, hZk, hm7⟩
                 have HZV := Lib.hid hZV
                 have HZK := Lib.hid hZk
                 have HM7 := Lib.hid (((Mod.refl Non w6).drew).trans0 hm7)
                 have LW7 := Lib.hid (LW6.out.mod0 HM7.out)
                 obtain ⟨g07, g17, g27, g37, g47⟩ := HA.out w7 LW7.out.mod
                 obtain ⟨z07, z17, z27, z37, z47⟩ := HBB.out w7 HM7.out
                 clear hZV hZk hm7)
              | (go_at_call 14
                 refine (HYC.out w7 Z LW7.out.mod HZK.out).mono ?_
                 rw [HZV.out, decide_eq_true rfl]
                 rintro e w8 ⟨rfl, hm8⟩
                 have HM8 := Lib.hid (HM7.out.trans0 hm8)
                 have LW8 := Lib.hid (LW7.out.mod0 hm8)
                 obtain ⟨g08, g18, g28, g38, g48⟩ := HA.out w8 LW8.out.mod
                 obtain ⟨z08, z18, z28, z38, z48⟩ := HBB.out w8 HM8.out
                 clear hm8)
              | (go_at_call 16
                 refine (names_any F4 d D4 _ LW8.out.disk LW8.out.ok).mono ?_
                 rintro e w9 ⟨An, nn, cn, Ln, rfl, hLn, hr9, hnn, hcn, _, hb9⟩
                 have hn2 : nn = 2 := by
                   have h1 : Ln.length = nn := by simpa using hr9.1
                   rw [← h1, namesD_of hLn, namesD_len D4 LW8.out.ok.nd]
                   exact HTW.out
                 subst hn2
                 have HM9 := Lib.hid (HM8.out.trans0 (Mod.of_below hb9))
                 have LW9 := Lib.hid (LW8.out.mod0 (Mod.of_below hb9))
                 obtain ⟨g09, g19, g29, g39, g49⟩ := HA.out w9 LW9.out.mod
                 obtain ⟨z09, z19, z29, z39, z49⟩ := HBB.out w9 HM9.out
                 clear hLn hr9 hb9)
              | fail)
          all_goals
            go_wp2_with fail
            go_roundw
            case rel => exact ⟨k + 1, F4, D4, by omega, by omega, by go_num, LW9.out, HCN.out⟩
            case measure => simp [intOf]; omega
        · have hEb : (E4 == 0) = false := by simp [hE0]
          have hEc : (E4 != 0) = true := by simp [hE0]
          clear hE0
          go_wp2_with fail
          go_roundw
          case rel => exact ⟨k + 1, F4, D4, by omega, by omega, by go_num, LW4.out, HCN.out⟩
          case measure => simp [intOf]; omega
    · have hor : (k < n ∧ k = 10) ∨ k = n := by omega
      clear hlt
      rcases hor with ⟨h1, rfl⟩ | rfl
      all_goals
        go_wp2_with fail
        go_ret
        exact ⟨rfl, LW.out.mod⟩

end Go.Proofs.YtdpjnpjmokncdaaGreatDoor
