/- sawyerlaw11.CatSure: the walk. -/
import Derived.Test.YtdpjnpjmokncdaaGreatDoorTwoM
import Derived.Test.YtdpjnpjmokncdaaGreatDoorB39
import Derived.BigQuiet
namespace Go.Proofs.YtdpjnpjmokncdaaGreatDoor
open Go.RowKit

theorem Lw.row {w wr : World} {d : Nat} {F : Nat → Prop} {D : Dk} (h : Lw w d F D wr) {A : Option Addr} {n : Nat} {vs : List Value} (hr : Rd w A n vs) : RdO wr F A n vs :=
  ⟨hr.mod0 h.mod, fun hn b hb hf => by
    obtain ⟨b', hb', hl⟩ := hr.lt hn
    rw [hb] at hb'
    cases hb'
    have := h.far b hf
    omega⟩

/-- memory between two rounds. -/
structure SuM (w : World) (d bL : Nat) (F : Nat → Prop) (D : Dk) (Y : Vw) (wr : World) : Prop where
  lw : Lw w d F D wr
  calm : Calm D
  hold : Holds D Y.v
  box : Blk wr bL 30 #[.int .i64 Y.gen, .int .i64 Y.next, .int .i64 Y.log, .int .i64 Y.seq, .slice Y.A Y.ms.length Y.c]
  nb : ¬ F bL
  ok : VwOk w Y
  few : Y.ms.length ≤ 100

set_option maxRecDepth 100000 in
set_option maxHeartbeats 8000000 in
theorem sure_walk (A : Option Addr) (n c : Nat) (xs : List Vw) (PA : Option Addr) (pn pc : Nat) (picks : List Int) (MA : Option Addr) (mn mc : Nat) (mb : List UInt8) (w : World) (hL : Lay w) (hE : Errs w) (hx : Rd w A (n * 5) (xs.flatMap Vw.cells)) (hxl : xs.length = n) (hxo : ∀ x ∈ xs, VwOk w x) (hn : n ≤ 9223372036854775807)
    (hp : Rd w PA pn (picks.map (Value.int .i64))) (hpn : pn ≤ 9223372036854775807) (hm : Rd w MA mn (by8 mb)) (hmn : mn ≤ 9223372036854775807) :
    Calls Tryz.prog 4 #[.slice A n c, .slice PA pn pc, .slice MA mn mc] w fun e w' => e = .returned (.bool true) ∧ Mod Non w w' := by
  have HX := Lib.hid hx
  have HXL := Lib.hid hxl
  have HXO := Lib.hid hxo
  have HL := Lib.hid hL
  have HE := Lib.hid hE
  have HPK := Lib.hid hp
  have HMB := Lib.hid hm
  clear hx hxl hxo hL hE hp hm
  go_enter Tryz.func4, Tryz.ntmps4
  go_wp2_with fail
  refine (awakeC_any w HL.out HE.out).mono ?_
  rintro e w1 ⟨rfl, hm1⟩
  have HM1 := Lib.hid hm1
  clear hm1
  go_wp2_with fail
  refine (new_yes 1099511627776 _ (HL.out.mod0 HM1.out) (by omega) (by omega)).mono ?_
  rintro e w2 ⟨d, F, rfl, hd2, hb2, hF2⟩
  have LW2 : Hid (Lw w d F (newD 1099511627776) w2) := ⟨hd2, newD_ok (by omega) (by omega), HM1.out.trans0 (Mod.of_below hb2), fun k hk => Nat.le_trans HM1.out.size (hF2 k hk)⟩
  have hst : SuM w d w2.heap.size F (newD 1099511627776) ⟨0, 0, 0, 0, none, 0, []⟩ (w2.alloc (.cells #[.int .i64 0, .int .i64 0, .int .i64 0, .int .i64 0, .slice none 0 0] 30)) :=
    ⟨LW2.out.mod0 ((Mod.refl _ _).alloc _), newD_calm _, .inl ⟨rfl, rfl⟩, Blk.new _ _ _, fun h => by have := LW2.out.lt _ h; omega, ⟨Rd.nil _ _, Nat.le_refl _, by show (0 : Nat) ≤ 9223372036854775807; omega, fun m hm => by cases hm⟩, by show (0 : Nat) ≤ 100; omega⟩
  have HST := Lib.hid hst
  have hbL : w.heap.size ≤ w2.heap.size := LW2.out.mod.size
  clear hd2 hb2 hF2 hst
  go_wp2_with fail
  go_loopw [11] (fun i wr => ∃ (k : Nat) (F' : Nat → Prop) (D : Dk) (Y : Vw), k ≤ n ∧ k ≤ 10 ∧ i = .int .i64 k ∧ Hid (SuM w d w2.heap.size F' D Y wr)) (fun i _ => n - (intOf i).toNat)
  case atStart => exact ⟨0, F, newD 1099511627776, _, Nat.zero_le _, by omega, rfl, HST.out⟩
  case round =>
    obtain ⟨k, F', D, L0, hk, hk10, rfl, HS⟩ := hrel
    have LW := Lib.hid HS.out.lw
    have HB := Lib.hid HS.out.box
    have hnb := HS.out.nb
    have hbl2 : w2.heap.size < wr.heap.size := HB.out.lt
    obtain ⟨lg, hlg⟩ : ∃ q, L0.gen = q := ⟨_, rfl⟩
    obtain ⟨ln, hln⟩ : ∃ q, L0.next = q := ⟨_, rfl⟩
    obtain ⟨ll, hll⟩ : ∃ q, L0.log = q := ⟨_, rfl⟩
    obtain ⟨ls, hls⟩ : ∃ q, L0.seq = q := ⟨_, rfl⟩
    obtain ⟨LA, hLA⟩ : ∃ q, L0.A = q := ⟨_, rfl⟩
    obtain ⟨lq, hlq⟩ : ∃ q, L0.ms.length = q := ⟨_, rfl⟩
    obtain ⟨lc, hlc⟩ : ∃ q, L0.c = q := ⟨_, rfl⟩
    have HLV : Hid (L0.val = .agg #[.int .i64 lg, .int .i64 ln, .int .i64 ll, .int .i64 ls, .slice LA lq lc]) := by { show _ = _; rw [← hlg, ← hln, ← hll, ← hls, ← hLA, ← hlq, ← hlc]; rfl }
    rw [hlg, hln, hll, hls, hLA, hlq, hlc] at HB
    clear hlg hln hll hls hLA hlq hlc
    by_cases hlt : k < n ∧ k < 10
    · obtain ⟨hlt, hlt10⟩ := hlt
      obtain ⟨b, o, y, rfl, hy, k0, k1, k2, k3, k4⟩ := HX.out.vw HXL.out hlt
      have i1 : (0 : Int) ≤ (k : Int) := by omega
      have i2 : (k : Int) < (n : Int) := by omega
      have i3 : decide ((k : Int) < 10) = true := decide_eq_true (by omega)
      have hyo := HXO.out y (List.mem_of_getElem? hy)
      obtain ⟨Y, hY⟩ : ∃ Y, y = Y := ⟨_, rfl⟩
      rw [hY] at hyo
      have HYO := Lib.hid hyo
      obtain ⟨gen, next, log, seq, YA, yc, ms⟩ := y
      obtain ⟨q, hq⟩ : ∃ q, ms.length = q := ⟨_, rfl⟩
      have hYval : Y.val = .agg #[.int .i64 gen, .int .i64 next, .int .i64 log, .int .i64 seq, .slice YA q yc] := by rw [← hY]; unfold Vw.val; simp only; rw [hq]
      have hYq : Y.ms.length = q := by rw [← hY]; exact hq
      have hYB : (#[.int .i64 gen, .int .i64 next, .int .i64 log, .int .i64 seq, .slice YA q yc] : Array Value) = #[.int .i64 Y.gen, .int .i64 Y.next, .int .i64 Y.log, .int .i64 Y.seq, .slice Y.A Y.ms.length Y.c] := by rw [← hY]; simp only; rw [hq]
      have HYE := Lib.hid hYval
      have HYQ := Lib.hid hYq
      have HYB := Lib.hid hYB
      simp only at k0 k1 k2 k3 k4
      rw [hq] at k4
      have hA : ∀ W, Mod Non w W → W.cell? ⟨b, o + k * 5, none⟩ = some (.int .i64 gen) ∧ W.cell? ⟨b, o + k * 5 + 1, none⟩ = some (.int .i64 next) ∧ W.cell? ⟨b, o + k * 5 + 2, none⟩ = some (.int .i64 log) ∧ W.cell? ⟨b, o + k * 5 + 3, none⟩ = some (.int .i64 seq) ∧ W.cell? ⟨b, o + k * 5 + 4, none⟩ = some (.slice YA q yc) := fun W hW =>
        ⟨hW.cell k0 fun h => h, hW.cell k1 fun h => h, hW.cell k2 fun h => h, hW.cell k3 fun h => h, hW.cell k4 fun h => h⟩
      have HA := Lib.hid hA
      obtain ⟨g0, g1, g2, g3, g4⟩ := hA _ LW.out.mod
      have hbw : b < w.heap.size := World.block_lt_of_cell? w _ k0
      have z0 : wr.cell? ⟨w2.heap.size, 0, none⟩ = some (.int .i64 lg) := HB.out.cell 0
      clear k0 k1 k2 k3 k4 hA hyo hY hYval hYq hq hy hYB
      by_cases h100 : 100 < q
      · have hd : decide (100 < (q : Int)) = true := decide_eq_true (by omega)
        go_wp2_with fail
        go_quiet (fail)
        go_wp2_with fail
        go_roundw
        case rel => exact ⟨k + 1, F', D, L0, by omega, by omega, by go_num, ⟨LW.out.mod0 ((Mod.refl _ _).drewN nq), HS.out.calm, HS.out.hold, HS.out.box.drewN nq, HS.out.nb, HS.out.ok, HS.out.few⟩⟩
        case measure => simp [intOf]; omega
      · have hd : decide (100 < (q : Int)) = false := decide_eq_false (by omega)
        by_cases hgl : gen = lg
        · have hgd : (gen == lg) = true := by simpa using hgl
          have hge : decide (gen = lg) = true := decide_eq_true hgl
          clear hgl
          go_wp2_with fail
          go_quiet (fail)
          go_wp2_with fail
          go_roundw
          case rel => exact ⟨k + 1, F', D, L0, by omega, by omega, by go_num, ⟨LW.out.mod0 ((Mod.refl _ _).drewN nq), HS.out.calm, HS.out.hold, HS.out.box.drewN nq, HS.out.nb, HS.out.ok, HS.out.few⟩⟩
          case measure => simp [intOf]; omega
        · have hgd : (gen == lg) = false := by simpa using hgl
          have hge : decide (gen = lg) = false := decide_eq_false hgl
          clear hgl
          go_wp2_with fail
          go_quiet (fail)
          have LWq := Lib.hid (LW.out.mod0 ((Mod.refl _ _).drewN nq))
          have HBq := Lib.hid (HB.out.drewN nq)
          obtain ⟨g0, g1, g2, g3, g4⟩ := HA.out _ LWq.out.mod
          have hszq : wr.heap.size = (wr.drewN nq).heap.size := by simp
          have HSZQ := Lib.hid hszq
          clear z0 hgd hge hszq
          generalize wr.drewN nq = wq at *
          have hmine := mine_any Y wq (HYO.out.mod0 LWq.out.mod) (by rw [HYQ.out]; omega)
          rw [HYE.out] at hmine
          have HMINE := Lib.hid hmine
          clear hmine
          go_wp2_with fail
          refine HMINE.out.mono ?_
          rintro e w3 ⟨A3, c3, rfl, hok3, hA3, hm3⟩
          have LW3 := Lib.hid (LWq.out.mod0 hm3)
          have HB3 := Lib.hid (HBq.out.mod hm3 fun h => h)
          have hsv := save_any F' d D ⟨Y.gen, Y.next, Y.log, Y.seq, A3, c3, Y.ms⟩ w3 LW3.out.disk LW3.out.ok hok3 (LW3.out.errs HE.out)
          have hv3 : Vw.v ⟨Y.gen, Y.next, Y.log, Y.seq, A3, c3, Y.ms⟩ = Y.v := rfl
          rw [hv3] at hsv
          obtain ⟨⟨D4, E4⟩, hP⟩ : ∃ P, saveD D Y.v = P := ⟨_, rfl⟩
          have hcal := (saveD_calm HS.out.calm LW.out.ok Y.v).1
          have hhol := Holds.save (u := Y.v) HS.out.calm LW.out.ok HS.out.hold
          have hok4 := saveD_ok LW.out.ok Y.v
          rw [hP] at hsv hcal hhol hok4
          have HSV := Lib.hid hsv
          have HCAL := Lib.hid hcal
          have HHOL := Lib.hid hhol
          have HOK4 := Lib.hid hok4
          clear hm3 hok3 hA3 hsv hv3 hP hcal hhol hok4 g0 g1 g2 g3 g4
          go_wp2_with fail
          refine HSV.out.mono ?_
          intro e w4 hp4
          obtain ⟨rfl, F4, hl4, hm4, hf4⟩ := LW3.out.step hp4 HOK4.out
          have LW4 := Lib.hid hl4
          have hb4 := HB3.out.mod hm4 hnb
          have HB4 := Lib.hid hb4
          have hnb4 : ¬ F4 w2.heap.size := fun h => (hf4 _ h).elim hnb fun h => by have := HB3.out.lt; omega
          simp only
          clear hp4 hl4 hm4 hf4 hb4
          by_cases hE0 : E4 = 0
          · subst hE0
            have HHO5 : Hid (Holds D4 Y.v) := by { show Holds D4 Y.v; have := HHOL.out; rwa [if_pos rfl] at this }
            obtain ⟨g0, g1, g2, g3, g4⟩ := HA.out w4 LW4.out.mod
            have r0 : w4.cell? ⟨w2.heap.size, 0, none⟩ = some (.int .i64 lg) := HB4.out.cell 0
            have r1 : w4.cell? ⟨w2.heap.size, 1, none⟩ = some (.int .i64 ln) := HB4.out.cell 1
            have r2 : w4.cell? ⟨w2.heap.size, 2, none⟩ = some (.int .i64 ll) := HB4.out.cell 2
            have r3 : w4.cell? ⟨w2.heap.size, 3, none⟩ = some (.int .i64 ls) := HB4.out.cell 3
            have r4 : w4.cell? ⟨w2.heap.size, 4, none⟩ = some (.slice LA lq lc) := HB4.out.cell 4
            have f0 := HB4.out.frozen 0
            have f1 := HB4.out.frozen 1
            have f2 := HB4.out.frozen 2
            have f3 := HB4.out.frozen 3
            have f4 := HB4.out.frozen 4
            obtain ⟨w5, hw5⟩ : ∃ w5, (((((w4.setCell ⟨w2.heap.size, 0, none⟩ (.int .i64 gen)).setCell ⟨w2.heap.size, 1, none⟩ (.int .i64 next)).setCell ⟨w2.heap.size, 2, none⟩ (.int .i64 log)).setCell ⟨w2.heap.size, 3, none⟩ (.int .i64 seq)).setCell ⟨w2.heap.size, 4, none⟩ (.slice YA q yc)) = w5 := ⟨_, rfl⟩
            have HB5 : Hid (Blk w5 w2.heap.size 30 #[.int .i64 gen, .int .i64 next, .int .i64 log, .int .i64 seq, .slice YA q yc]) := by { show Blk _ _ _ _; rw [← hw5]; exact HB4.out.five _ _ _ _ _ }
            have hm5 : Mod (fun g => g = w2.heap.size) w4 w5 := by rw [← hw5]; exact (((((Mod.refl _ _).set1 0 _).set1 1 _).set1 2 _).set1 3 _).set1 4 _
            have LW5 : Hid (Lw w d F4 D4 w5) := ⟨LW4.out.disk.mod hm5 (fun k hk e => hnb4 (e ▸ hk)) (by have := HL.out.lt; omega), LW4.out.ok, LW4.out.mod.trans hm5 fun k hk => .inr (by omega), LW4.out.far⟩
            have HW5 := Lib.hid hw5
            have HYF : Hid (Y.ms.length ≤ 100) := by { show _ ≤ _; rw [HYQ.out]; omega }
            clear hw5 hm5
            by_cases h4k : mn ≤ 4096
            · have hdk : decide ((mn : Int) ≤ 4096) = true := decide_eq_true (by omega)
              go_wp2_with fail
              rw [HW5.out]
              refine (append_any F4 d D4 shadN MA mn mc mb w5 LW5.out.disk LW5.out.ok (LW5.out.row HMB.out) (by decide)).mono ?_
              intro e w6 hp6
              obtain ⟨rfl, F6, hl6, hm6, hf6⟩ := LW5.out.step hp6 (appendD_ok LW5.out.ok _ _)
              have LW6 := Lib.hid hl6
              have HB6 := Lib.hid (HB5.out.mod hm6 hnb4)
              have hnb6 : ¬ F6 w2.heap.size := fun h => (hf6 _ h).elim hnb4 fun h => by have := HB5.out.lt; omega
              have HCAL6 := Lib.hid (appendD_calm HCAL.out shadN mb)
              have HHO6 := Lib.hid (HHO5.out.append mb)
              obtain ⟨D6, hD6⟩ : ∃ D6, appendD D4 shadN mb = D6 := ⟨_, rfl⟩
              obtain ⟨E6, hE6⟩ : ∃ E6, appendE D4 shadN mb = E6 := ⟨_, rfl⟩
              rw [hD6] at LW6 HCAL6 HHO6
              rw [hE6]
              clear hp6 hl6 hm6 hf6 hD6 hE6
              go_wp2_with fail
              refine (crash_any F6 d D6 PA pn pc picks w6 LW6.out.disk LW6.out.ok (LW6.out.row HPK.out) hpn).mono ?_
              rintro e w7 ⟨Lc, hLc, hp7⟩
              obtain ⟨rfl, F7, hl7, hm7, hf7⟩ := LW6.out.step hp7 (crashD_ok LW6.out.ok picks Lc)
              have LW7 := Lib.hid hl7
              have HB7 := Lib.hid (HB6.out.mod hm7 hnb6)
              have hnb7 : ¬ F7 w2.heap.size := fun h => (hf7 _ h).elim hnb6 fun h => by have := HB6.out.lt; omega
              have HCAL7 := Lib.hid (crashD_calm D6 picks Lc)
              have HHO7 := Lib.hid (HHO6.out.crash picks Lc)
              obtain ⟨D7, hD7⟩ : ∃ D7, crashD D6 picks Lc = D7 := ⟨_, rfl⟩
              rw [hD7] at LW7 HCAL7 HHO7
              have HLD := Lib.hid HHO7.out.load
              clear hp7 hl7 hm7 hf7 hD7 hLc
              go_wp2_with fail
              refine (loadC_any F7 d D7 w7 LW7.out.disk LW7.out.ok).mono ?_
              intro e w8 hp8
              unfold LoPost at hp8
              rw [HLD.out] at hp8
              obtain ⟨x, hxv, rfl, hxk, _, hm8⟩ := hp8
              obtain ⟨X, hX⟩ : ∃ X, x = X := ⟨_, rfl⟩
              rw [hX] at hxk hxv
              have LW8 := Lib.hid (LW7.out.mod0 hm8)
              obtain ⟨xg, xn, xl, xs', xA, xc, xms⟩ := x
              obtain ⟨xk, hxkk⟩ : ∃ xk, xms.length = xk := ⟨_, rfl⟩
              have hXval : X.val = .agg #[.int .i64 xg, .int .i64 xn, .int .i64 xl, .int .i64 xs', .slice xA xk xc] := by rw [← hX]; unfold Vw.val; simp only; rw [hxkk]
              have HXE := Lib.hid hXval
              have hth : ∀ W, Mod Non w8 W → Calls Tryz.prog 15 #[.agg #[.int .i64 xg, .int .i64 xn, .int .i64 xl, .int .i64 xs', .slice xA xk xc]] W fun e w' => ∃ Z : Vw, Z.v = Y.v ∧ e = .returned Z.val ∧ VwOk w' Z ∧ Mod Non W w' := fun W hW => by
                have hlen : X.ms.length ≤ 100000000 := by
                  have h3 := congrArg (fun v => v.tables.length) hxv
                  simp only [Vw.v, List.length_map] at h3
                  have h4 := HYF.out
                  omega
                have := theirs_any X W (hxk.mod0 hW) hlen
                rw [HXE.out] at this
                exact this.mono fun e w' ⟨A', c', he, hk', _, hm'⟩ => ⟨⟨X.gen, X.next, X.log, X.seq, A', c', X.ms⟩, hxv, he, hk', hm'⟩
              have HTH := Lib.hid hth
              unfold Vw.val
              simp only
              rw [hxkk]
              obtain ⟨w9, hw9⟩ : ∃ w9, w8.alloc (.cells #[.int .i64 xg, .int .i64 xn, .int .i64 xl, .int .i64 xs', .slice xA xk xc] 34) = w9 := ⟨_, rfl⟩
              have hm9 : Mod Non w8 w9 := by rw [← hw9]; exact (Mod.refl _ _).alloc _
              have HBV : Hid (Blk w9 w8.heap.size 34 #[.int .i64 xg, .int .i64 xn, .int .i64 xl, .int .i64 xs', .slice xA xk xc]) := by { show Blk _ _ _ _; rw [← hw9]; exact Blk.new _ _ _ }
              have HM9 := Lib.hid hm9
              have LW9 := Lib.hid (LW8.out.mod0 hm9)
              have HB9 := Lib.hid ((HB7.out.mod hm8 fun h => h).mod hm9 fun h => h)
              have HW9 := Lib.hid hw9
              have hszw : w2.heap.size < w8.heap.size := (HB7.out.mod hm8 fun h => h).lt
              have hB : ∀ W, Mod Non w9 W → W.cell? ⟨w8.heap.size, 0, none⟩ = some (.int .i64 xg) ∧ W.cell? ⟨w8.heap.size, 1, none⟩ = some (.int .i64 xn) ∧ W.cell? ⟨w8.heap.size, 2, none⟩ = some (.int .i64 xl) ∧ W.cell? ⟨w8.heap.size, 3, none⟩ = some (.int .i64 xs') ∧ W.cell? ⟨w8.heap.size, 4, none⟩ = some (.slice xA xk xc) ∧ W.cell? ⟨w2.heap.size, 0, none⟩ = some (.int .i64 gen) ∧ W.cell? ⟨w2.heap.size, 1, none⟩ = some (.int .i64 next) ∧ W.cell? ⟨w2.heap.size, 2, none⟩ = some (.int .i64 log) ∧ W.cell? ⟨w2.heap.size, 3, none⟩ = some (.int .i64 seq) ∧ W.cell? ⟨w2.heap.size, 4, none⟩ = some (.slice YA q yc) := fun W hW =>
                ⟨(HBV.out.mod hW fun h => h).cell 0, (HBV.out.mod hW fun h => h).cell 1, (HBV.out.mod hW fun h => h).cell 2, (HBV.out.mod hW fun h => h).cell 3, (HBV.out.mod hW fun h => h).cell 4, (HB9.out.mod hW fun h => h).cell 0, (HB9.out.mod hW fun h => h).cell 1, (HB9.out.mod hW fun h => h).cell 2, (HB9.out.mod hW fun h => h).cell 3, (HB9.out.mod hW fun h => h).cell 4⟩
              have HBB := Lib.hid hB
              have hyc : ∀ W Z, Mod Non w W → VwOk W Z → Calls Tryz.prog 14 #[Z.val, .agg #[.int .i64 gen, .int .i64 next, .int .i64 log, .int .i64 seq, .slice YA q yc]] W fun e w' => e = .returned (.bool (decide (Z.v = Y.v))) ∧ Mod Non W w' := fun W Z hW hZ => by
                have := sameVs_any Z Y W hZ (HYO.out.mod0 hW)
                rw [HYE.out] at this
                exact this
              have HYC := Lib.hid hyc
              obtain ⟨z0, z1, z2, z3, z4, z5, z6, z7, z8, z9⟩ := hB w9 (Mod.refl _ _)
              clear hm8 hxv hxk hX hXval hth hxkk hm9 hw9 hB hyc
              go_wp2_with fail
              rw [HW9.out]
              go_region_held3 (fun w' => w'.cell? ⟨w8.heap.size, 0, none⟩ = some (.int .i64 xg) ∧ w'.cell? ⟨w8.heap.size, 1, none⟩ = some (.int .i64 xn) ∧ w'.cell? ⟨w8.heap.size, 2, none⟩ = some (.int .i64 xl) ∧ w'.cell? ⟨w8.heap.size, 3, none⟩ = some (.int .i64 xs') ∧ w'.cell? ⟨w8.heap.size, 4, none⟩ = some (.slice xA xk xc) ∧ w'.cell? ⟨w2.heap.size, 0, none⟩ = some (.int .i64 gen) ∧ w'.cell? ⟨w2.heap.size, 1, none⟩ = some (.int .i64 next) ∧ w'.cell? ⟨w2.heap.size, 2, none⟩ = some (.int .i64 log) ∧ w'.cell? ⟨w2.heap.size, 3, none⟩ = some (.int .i64 seq) ∧ w'.cell? ⟨w2.heap.size, 4, none⟩ = some (.slice YA q yc))
                (first | go_keep)
                (first
                  | (go_at_call 15
                     refine (HTH.out _ (HM9.out.drew)).mono ?_
                     rintro e w10 ⟨Z, hZV, rfl, hZk, hm10⟩
                     have HZV := Lib.hid hZV
                     have HZK := Lib.hid hZk
                     have HM10 := Lib.hid (((Mod.refl Non w9).drew).trans0 hm10)
                     have LW10 := Lib.hid (LW9.out.mod0 HM10.out)
                     obtain ⟨z01, z11, z21, z31, z41, z51, z61, z71, z81, z91⟩ := HBB.out w10 HM10.out
                     clear hZV hZk hm10)
                  | (go_at_call 14
                     refine (HYC.out w10 Z LW10.out.mod HZK.out).mono ?_
                     rw [HZV.out, decide_eq_true rfl]
                     rintro e w11 ⟨rfl, hm11⟩
                     have HM11 := Lib.hid (HM10.out.trans0 hm11)
                     have LW11 := Lib.hid (LW10.out.mod0 hm11)
                     obtain ⟨z02, z12, z22, z32, z42, z52, z62, z72, z82, z92⟩ := HBB.out w11 HM11.out
                     clear hm11)
                  | fail)
              all_goals
                go_wp2_with fail
                go_roundw
                case rel => exact ⟨k + 1, F7, D7, Y, by omega, by omega, by go_num, ⟨LW11.out, HCAL7.out, HHO7.out, by { have := HB9.out.mod HM11.out fun h => h; rw [HYB.out] at this; exact this }, hnb7, HYO.out, HYF.out⟩⟩
                case measure => simp [intOf]; omega
            · have hdk : decide ((mn : Int) ≤ 4096) = false := decide_eq_false (by omega)
              have LW6 := LW5
              have HB6 := HB5
              have hnb6 := hnb4
              have HHO6 := HHO5
              obtain ⟨w6, hw6⟩ : ∃ w6, w5 = w6 := ⟨_, rfl⟩
              obtain ⟨D6, hD6⟩ : ∃ D6, D4 = D6 := ⟨_, rfl⟩
              obtain ⟨F6, hF6⟩ : ∃ F6, F4 = F6 := ⟨_, rfl⟩
              have HCAL6 := HCAL
              have HW6 := Lib.hid hw6
              rw [hF6] at LW6 hnb6
              rw [hw6] at LW6 HB6
              rw [hD6] at LW6 HHO6 HCAL6
              clear hw6 hD6 hF6
              go_wp2_with fail
              rw [HW5.out]
              rw [HW6.out]
              refine (crash_any F6 d D6 PA pn pc picks w6 LW6.out.disk LW6.out.ok (LW6.out.row HPK.out) hpn).mono ?_
              rintro e w7 ⟨Lc, hLc, hp7⟩
              obtain ⟨rfl, F7, hl7, hm7, hf7⟩ := LW6.out.step hp7 (crashD_ok LW6.out.ok picks Lc)
              have LW7 := Lib.hid hl7
              have HB7 := Lib.hid (HB6.out.mod hm7 hnb6)
              have hnb7 : ¬ F7 w2.heap.size := fun h => (hf7 _ h).elim hnb6 fun h => by have := HB6.out.lt; omega
              have HCAL7 := Lib.hid (crashD_calm D6 picks Lc)
              have HHO7 := Lib.hid (HHO6.out.crash picks Lc)
              obtain ⟨D7, hD7⟩ : ∃ D7, crashD D6 picks Lc = D7 := ⟨_, rfl⟩
              rw [hD7] at LW7 HCAL7 HHO7
              have HLD := Lib.hid HHO7.out.load
              clear hp7 hl7 hm7 hf7 hD7 hLc
              go_wp2_with fail
              refine (loadC_any F7 d D7 w7 LW7.out.disk LW7.out.ok).mono ?_
              intro e w8 hp8
              unfold LoPost at hp8
              rw [HLD.out] at hp8
              obtain ⟨x, hxv, rfl, hxk, _, hm8⟩ := hp8
              obtain ⟨X, hX⟩ : ∃ X, x = X := ⟨_, rfl⟩
              rw [hX] at hxk hxv
              have LW8 := Lib.hid (LW7.out.mod0 hm8)
              obtain ⟨xg, xn, xl, xs', xA, xc, xms⟩ := x
              obtain ⟨xk, hxkk⟩ : ∃ xk, xms.length = xk := ⟨_, rfl⟩
              have hXval : X.val = .agg #[.int .i64 xg, .int .i64 xn, .int .i64 xl, .int .i64 xs', .slice xA xk xc] := by rw [← hX]; unfold Vw.val; simp only; rw [hxkk]
              have HXE := Lib.hid hXval
              have hth : ∀ W, Mod Non w8 W → Calls Tryz.prog 15 #[.agg #[.int .i64 xg, .int .i64 xn, .int .i64 xl, .int .i64 xs', .slice xA xk xc]] W fun e w' => ∃ Z : Vw, Z.v = Y.v ∧ e = .returned Z.val ∧ VwOk w' Z ∧ Mod Non W w' := fun W hW => by
                have hlen : X.ms.length ≤ 100000000 := by
                  have h3 := congrArg (fun v => v.tables.length) hxv
                  simp only [Vw.v, List.length_map] at h3
                  have h4 := HYF.out
                  omega
                have := theirs_any X W (hxk.mod0 hW) hlen
                rw [HXE.out] at this
                exact this.mono fun e w' ⟨A', c', he, hk', _, hm'⟩ => ⟨⟨X.gen, X.next, X.log, X.seq, A', c', X.ms⟩, hxv, he, hk', hm'⟩
              have HTH := Lib.hid hth
              unfold Vw.val
              simp only
              rw [hxkk]
              obtain ⟨w9, hw9⟩ : ∃ w9, w8.alloc (.cells #[.int .i64 xg, .int .i64 xn, .int .i64 xl, .int .i64 xs', .slice xA xk xc] 34) = w9 := ⟨_, rfl⟩
              have hm9 : Mod Non w8 w9 := by rw [← hw9]; exact (Mod.refl _ _).alloc _
              have HBV : Hid (Blk w9 w8.heap.size 34 #[.int .i64 xg, .int .i64 xn, .int .i64 xl, .int .i64 xs', .slice xA xk xc]) := by { show Blk _ _ _ _; rw [← hw9]; exact Blk.new _ _ _ }
              have HM9 := Lib.hid hm9
              have LW9 := Lib.hid (LW8.out.mod0 hm9)
              have HB9 := Lib.hid ((HB7.out.mod hm8 fun h => h).mod hm9 fun h => h)
              have HW9 := Lib.hid hw9
              have hszw : w2.heap.size < w8.heap.size := (HB7.out.mod hm8 fun h => h).lt
              have hB : ∀ W, Mod Non w9 W → W.cell? ⟨w8.heap.size, 0, none⟩ = some (.int .i64 xg) ∧ W.cell? ⟨w8.heap.size, 1, none⟩ = some (.int .i64 xn) ∧ W.cell? ⟨w8.heap.size, 2, none⟩ = some (.int .i64 xl) ∧ W.cell? ⟨w8.heap.size, 3, none⟩ = some (.int .i64 xs') ∧ W.cell? ⟨w8.heap.size, 4, none⟩ = some (.slice xA xk xc) ∧ W.cell? ⟨w2.heap.size, 0, none⟩ = some (.int .i64 gen) ∧ W.cell? ⟨w2.heap.size, 1, none⟩ = some (.int .i64 next) ∧ W.cell? ⟨w2.heap.size, 2, none⟩ = some (.int .i64 log) ∧ W.cell? ⟨w2.heap.size, 3, none⟩ = some (.int .i64 seq) ∧ W.cell? ⟨w2.heap.size, 4, none⟩ = some (.slice YA q yc) := fun W hW =>
                ⟨(HBV.out.mod hW fun h => h).cell 0, (HBV.out.mod hW fun h => h).cell 1, (HBV.out.mod hW fun h => h).cell 2, (HBV.out.mod hW fun h => h).cell 3, (HBV.out.mod hW fun h => h).cell 4, (HB9.out.mod hW fun h => h).cell 0, (HB9.out.mod hW fun h => h).cell 1, (HB9.out.mod hW fun h => h).cell 2, (HB9.out.mod hW fun h => h).cell 3, (HB9.out.mod hW fun h => h).cell 4⟩
              have HBB := Lib.hid hB
              have hyc : ∀ W Z, Mod Non w W → VwOk W Z → Calls Tryz.prog 14 #[Z.val, .agg #[.int .i64 gen, .int .i64 next, .int .i64 log, .int .i64 seq, .slice YA q yc]] W fun e w' => e = .returned (.bool (decide (Z.v = Y.v))) ∧ Mod Non W w' := fun W Z hW hZ => by
                have := sameVs_any Z Y W hZ (HYO.out.mod0 hW)
                rw [HYE.out] at this
                exact this
              have HYC := Lib.hid hyc
              obtain ⟨z0, z1, z2, z3, z4, z5, z6, z7, z8, z9⟩ := hB w9 (Mod.refl _ _)
              clear hm8 hxv hxk hX hXval hth hxkk hm9 hw9 hB hyc
              go_wp2_with fail
              rw [HW9.out]
              go_region_held3 (fun w' => w'.cell? ⟨w8.heap.size, 0, none⟩ = some (.int .i64 xg) ∧ w'.cell? ⟨w8.heap.size, 1, none⟩ = some (.int .i64 xn) ∧ w'.cell? ⟨w8.heap.size, 2, none⟩ = some (.int .i64 xl) ∧ w'.cell? ⟨w8.heap.size, 3, none⟩ = some (.int .i64 xs') ∧ w'.cell? ⟨w8.heap.size, 4, none⟩ = some (.slice xA xk xc) ∧ w'.cell? ⟨w2.heap.size, 0, none⟩ = some (.int .i64 gen) ∧ w'.cell? ⟨w2.heap.size, 1, none⟩ = some (.int .i64 next) ∧ w'.cell? ⟨w2.heap.size, 2, none⟩ = some (.int .i64 log) ∧ w'.cell? ⟨w2.heap.size, 3, none⟩ = some (.int .i64 seq) ∧ w'.cell? ⟨w2.heap.size, 4, none⟩ = some (.slice YA q yc))
                (first | go_keep)
                (first
                  | (go_at_call 15
                     refine (HTH.out _ (HM9.out.drew)).mono ?_
                     rintro e w10 ⟨Z, hZV, rfl, hZk, hm10⟩
                     have HZV := Lib.hid hZV
                     have HZK := Lib.hid hZk
                     have HM10 := Lib.hid (((Mod.refl Non w9).drew).trans0 hm10)
                     have LW10 := Lib.hid (LW9.out.mod0 HM10.out)
                     obtain ⟨z01, z11, z21, z31, z41, z51, z61, z71, z81, z91⟩ := HBB.out w10 HM10.out
                     clear hZV hZk hm10)
                  | (go_at_call 14
                     refine (HYC.out w10 Z LW10.out.mod HZK.out).mono ?_
                     rw [HZV.out, decide_eq_true rfl]
                     rintro e w11 ⟨rfl, hm11⟩
                     have HM11 := Lib.hid (HM10.out.trans0 hm11)
                     have LW11 := Lib.hid (LW10.out.mod0 hm11)
                     obtain ⟨z02, z12, z22, z32, z42, z52, z62, z72, z82, z92⟩ := HBB.out w11 HM11.out
                     clear hm11)
                  | fail)
              all_goals
                go_wp2_with fail
                go_roundw
                case rel => exact ⟨k + 1, F7, D7, Y, by omega, by omega, by go_num, ⟨LW11.out, HCAL7.out, HHO7.out, by { have := HB9.out.mod HM11.out fun h => h; rw [HYB.out] at this; exact this }, hnb7, HYO.out, HYF.out⟩⟩
                case measure => simp [intOf]; omega
          · have hEb : (E4 == 0) = false := by simp [hE0]
            have hEc : (E4 != 0) = true := by simp [hE0]
            have HHO5 : Hid (Holds D4 L0.v) := by { have := HHOL.out; rwa [if_neg hE0] at this }
            have LW5 := LW4
            have HB5 := HB4
            have HLO := Lib.hid HS.out.ok
            have HLF := Lib.hid HS.out.few
            have HLB : Hid ((#[.int .i64 lg, .int .i64 ln, .int .i64 ll, .int .i64 ls, .slice LA lq lc] : Array Value) = #[.int .i64 L0.gen, .int .i64 L0.next, .int .i64 L0.log, .int .i64 L0.seq, .slice L0.A L0.ms.length L0.c]) := by
              show _ = _
              have h1 := HLV.out
              unfold Vw.val at h1
              injection h1 with h1
              exact h1.symm
            obtain ⟨w5, hw5⟩ : ∃ w5, w4 = w5 := ⟨_, rfl⟩
            rw [hw5] at LW5 HB5 ⊢
            clear hw5 hE0
            by_cases h4k : mn ≤ 4096
            · have hdk : decide ((mn : Int) ≤ 4096) = true := decide_eq_true (by omega)
              go_wp2_with fail
              skip
              refine (append_any F4 d D4 shadN MA mn mc mb w5 LW5.out.disk LW5.out.ok (LW5.out.row HMB.out) (by decide)).mono ?_
              intro e w6 hp6
              obtain ⟨rfl, F6, hl6, hm6, hf6⟩ := LW5.out.step hp6 (appendD_ok LW5.out.ok _ _)
              have LW6 := Lib.hid hl6
              have HB6 := Lib.hid (HB5.out.mod hm6 hnb4)
              have hnb6 : ¬ F6 w2.heap.size := fun h => (hf6 _ h).elim hnb4 fun h => by have := HB5.out.lt; omega
              have HCAL6 := Lib.hid (appendD_calm HCAL.out shadN mb)
              have HHO6 := Lib.hid (HHO5.out.append mb)
              obtain ⟨D6, hD6⟩ : ∃ D6, appendD D4 shadN mb = D6 := ⟨_, rfl⟩
              obtain ⟨E6, hE6⟩ : ∃ E6, appendE D4 shadN mb = E6 := ⟨_, rfl⟩
              rw [hD6] at LW6 HCAL6 HHO6
              rw [hE6]
              clear hp6 hl6 hm6 hf6 hD6 hE6
              go_wp2_with fail
              refine (crash_any F6 d D6 PA pn pc picks w6 LW6.out.disk LW6.out.ok (LW6.out.row HPK.out) hpn).mono ?_
              rintro e w7 ⟨Lc, hLc, hp7⟩
              obtain ⟨rfl, F7, hl7, hm7, hf7⟩ := LW6.out.step hp7 (crashD_ok LW6.out.ok picks Lc)
              have LW7 := Lib.hid hl7
              have HB7 := Lib.hid (HB6.out.mod hm7 hnb6)
              have hnb7 : ¬ F7 w2.heap.size := fun h => (hf7 _ h).elim hnb6 fun h => by have := HB6.out.lt; omega
              have HCAL7 := Lib.hid (crashD_calm D6 picks Lc)
              have HHO7 := Lib.hid (HHO6.out.crash picks Lc)
              obtain ⟨D7, hD7⟩ : ∃ D7, crashD D6 picks Lc = D7 := ⟨_, rfl⟩
              rw [hD7] at LW7 HCAL7 HHO7
              have HLD := Lib.hid HHO7.out.load
              clear hp7 hl7 hm7 hf7 hD7 hLc
              go_wp2_with fail
              refine (loadC_any F7 d D7 w7 LW7.out.disk LW7.out.ok).mono ?_
              intro e w8 hp8
              unfold LoPost at hp8
              rw [HLD.out] at hp8
              obtain ⟨x, hxv, rfl, hxk, _, hm8⟩ := hp8
              obtain ⟨X, hX⟩ : ∃ X, x = X := ⟨_, rfl⟩
              rw [hX] at hxk hxv
              have LW8 := Lib.hid (LW7.out.mod0 hm8)
              obtain ⟨xg, xn, xl, xs', xA, xc, xms⟩ := x
              obtain ⟨xk, hxkk⟩ : ∃ xk, xms.length = xk := ⟨_, rfl⟩
              have hXval : X.val = .agg #[.int .i64 xg, .int .i64 xn, .int .i64 xl, .int .i64 xs', .slice xA xk xc] := by rw [← hX]; unfold Vw.val; simp only; rw [hxkk]
              have HXE := Lib.hid hXval
              have hth : ∀ W, Mod Non w8 W → Calls Tryz.prog 15 #[.agg #[.int .i64 xg, .int .i64 xn, .int .i64 xl, .int .i64 xs', .slice xA xk xc]] W fun e w' => ∃ Z : Vw, Z.v = L0.v ∧ e = .returned Z.val ∧ VwOk w' Z ∧ Mod Non W w' := fun W hW => by
                have hlen : X.ms.length ≤ 100000000 := by
                  have h3 := congrArg (fun v => v.tables.length) hxv
                  simp only [Vw.v, List.length_map] at h3
                  have h4 := HLF.out
                  omega
                have := theirs_any X W (hxk.mod0 hW) hlen
                rw [HXE.out] at this
                exact this.mono fun e w' ⟨A', c', he, hk', _, hm'⟩ => ⟨⟨X.gen, X.next, X.log, X.seq, A', c', X.ms⟩, hxv, he, hk', hm'⟩
              have HTH := Lib.hid hth
              unfold Vw.val
              simp only
              rw [hxkk]
              obtain ⟨w9, hw9⟩ : ∃ w9, w8.alloc (.cells #[.int .i64 xg, .int .i64 xn, .int .i64 xl, .int .i64 xs', .slice xA xk xc] 34) = w9 := ⟨_, rfl⟩
              have hm9 : Mod Non w8 w9 := by rw [← hw9]; exact (Mod.refl _ _).alloc _
              have HBV : Hid (Blk w9 w8.heap.size 34 #[.int .i64 xg, .int .i64 xn, .int .i64 xl, .int .i64 xs', .slice xA xk xc]) := by { show Blk _ _ _ _; rw [← hw9]; exact Blk.new _ _ _ }
              have HM9 := Lib.hid hm9
              have LW9 := Lib.hid (LW8.out.mod0 hm9)
              have HB9 := Lib.hid ((HB7.out.mod hm8 fun h => h).mod hm9 fun h => h)
              have HW9 := Lib.hid hw9
              have hszw : w2.heap.size < w8.heap.size := (HB7.out.mod hm8 fun h => h).lt
              have hB : ∀ W, Mod Non w9 W → W.cell? ⟨w8.heap.size, 0, none⟩ = some (.int .i64 xg) ∧ W.cell? ⟨w8.heap.size, 1, none⟩ = some (.int .i64 xn) ∧ W.cell? ⟨w8.heap.size, 2, none⟩ = some (.int .i64 xl) ∧ W.cell? ⟨w8.heap.size, 3, none⟩ = some (.int .i64 xs') ∧ W.cell? ⟨w8.heap.size, 4, none⟩ = some (.slice xA xk xc) ∧ W.cell? ⟨w2.heap.size, 0, none⟩ = some (.int .i64 lg) ∧ W.cell? ⟨w2.heap.size, 1, none⟩ = some (.int .i64 ln) ∧ W.cell? ⟨w2.heap.size, 2, none⟩ = some (.int .i64 ll) ∧ W.cell? ⟨w2.heap.size, 3, none⟩ = some (.int .i64 ls) ∧ W.cell? ⟨w2.heap.size, 4, none⟩ = some (.slice LA lq lc) := fun W hW =>
                ⟨(HBV.out.mod hW fun h => h).cell 0, (HBV.out.mod hW fun h => h).cell 1, (HBV.out.mod hW fun h => h).cell 2, (HBV.out.mod hW fun h => h).cell 3, (HBV.out.mod hW fun h => h).cell 4, (HB9.out.mod hW fun h => h).cell 0, (HB9.out.mod hW fun h => h).cell 1, (HB9.out.mod hW fun h => h).cell 2, (HB9.out.mod hW fun h => h).cell 3, (HB9.out.mod hW fun h => h).cell 4⟩
              have HBB := Lib.hid hB
              have hyc : ∀ W Z, Mod Non w W → VwOk W Z → Calls Tryz.prog 14 #[Z.val, .agg #[.int .i64 lg, .int .i64 ln, .int .i64 ll, .int .i64 ls, .slice LA lq lc]] W fun e w' => e = .returned (.bool (decide (Z.v = L0.v))) ∧ Mod Non W w' := fun W Z hW hZ => by
                have := sameVs_any Z L0 W hZ (HLO.out.mod0 hW)
                rw [HLV.out] at this
                exact this
              have HYC := Lib.hid hyc
              obtain ⟨z0, z1, z2, z3, z4, z5, z6, z7, z8, z9⟩ := hB w9 (Mod.refl _ _)
              clear hm8 hxv hxk hX hXval hth hxkk hm9 hw9 hB hyc
              go_wp2_with fail
              rw [HW9.out]
              go_region_held3 (fun w' => w'.cell? ⟨w8.heap.size, 0, none⟩ = some (.int .i64 xg) ∧ w'.cell? ⟨w8.heap.size, 1, none⟩ = some (.int .i64 xn) ∧ w'.cell? ⟨w8.heap.size, 2, none⟩ = some (.int .i64 xl) ∧ w'.cell? ⟨w8.heap.size, 3, none⟩ = some (.int .i64 xs') ∧ w'.cell? ⟨w8.heap.size, 4, none⟩ = some (.slice xA xk xc) ∧ w'.cell? ⟨w2.heap.size, 0, none⟩ = some (.int .i64 lg) ∧ w'.cell? ⟨w2.heap.size, 1, none⟩ = some (.int .i64 ln) ∧ w'.cell? ⟨w2.heap.size, 2, none⟩ = some (.int .i64 ll) ∧ w'.cell? ⟨w2.heap.size, 3, none⟩ = some (.int .i64 ls) ∧ w'.cell? ⟨w2.heap.size, 4, none⟩ = some (.slice LA lq lc))
                (first | go_keep)
                (first
                  | (go_at_call 15
                     refine (HTH.out _ (HM9.out.drew)).mono ?_
                     rintro e w10 ⟨Z, hZV, rfl, hZk, hm10⟩
                     have HZV := Lib.hid hZV
                     have HZK := Lib.hid hZk
                     have HM10 := Lib.hid (((Mod.refl Non w9).drew).trans0 hm10)
                     have LW10 := Lib.hid (LW9.out.mod0 HM10.out)
                     obtain ⟨z01, z11, z21, z31, z41, z51, z61, z71, z81, z91⟩ := HBB.out w10 HM10.out
                     clear hZV hZk hm10)
                  | (go_at_call 14
                     refine (HYC.out w10 Z LW10.out.mod HZK.out).mono ?_
                     rw [HZV.out, decide_eq_true rfl]
                     rintro e w11 ⟨rfl, hm11⟩
                     have HM11 := Lib.hid (HM10.out.trans0 hm11)
                     have LW11 := Lib.hid (LW10.out.mod0 hm11)
                     obtain ⟨z02, z12, z22, z32, z42, z52, z62, z72, z82, z92⟩ := HBB.out w11 HM11.out
                     clear hm11)
                  | fail)
              all_goals
                go_wp2_with fail
                go_roundw
                case rel => exact ⟨k + 1, F7, D7, L0, by omega, by omega, by go_num, ⟨LW11.out, HCAL7.out, HHO7.out, by { have := HB9.out.mod HM11.out fun h => h; rw [HLB.out] at this; exact this }, hnb7, HLO.out, HLF.out⟩⟩
                case measure => simp [intOf]; omega
            · have hdk : decide ((mn : Int) ≤ 4096) = false := decide_eq_false (by omega)
              have LW6 := LW5
              have HB6 := HB5
              have hnb6 := hnb4
              have HHO6 := HHO5
              obtain ⟨w6, hw6⟩ : ∃ w6, w5 = w6 := ⟨_, rfl⟩
              obtain ⟨D6, hD6⟩ : ∃ D6, D4 = D6 := ⟨_, rfl⟩
              obtain ⟨F6, hF6⟩ : ∃ F6, F4 = F6 := ⟨_, rfl⟩
              have HCAL6 := HCAL
              have HW6 := Lib.hid hw6
              rw [hF6] at LW6 hnb6
              rw [hw6] at LW6 HB6
              rw [hD6] at LW6 HHO6 HCAL6
              clear hw6 hD6 hF6
              go_wp2_with fail
              skip
              rw [HW6.out]
              refine (crash_any F6 d D6 PA pn pc picks w6 LW6.out.disk LW6.out.ok (LW6.out.row HPK.out) hpn).mono ?_
              rintro e w7 ⟨Lc, hLc, hp7⟩
              obtain ⟨rfl, F7, hl7, hm7, hf7⟩ := LW6.out.step hp7 (crashD_ok LW6.out.ok picks Lc)
              have LW7 := Lib.hid hl7
              have HB7 := Lib.hid (HB6.out.mod hm7 hnb6)
              have hnb7 : ¬ F7 w2.heap.size := fun h => (hf7 _ h).elim hnb6 fun h => by have := HB6.out.lt; omega
              have HCAL7 := Lib.hid (crashD_calm D6 picks Lc)
              have HHO7 := Lib.hid (HHO6.out.crash picks Lc)
              obtain ⟨D7, hD7⟩ : ∃ D7, crashD D6 picks Lc = D7 := ⟨_, rfl⟩
              rw [hD7] at LW7 HCAL7 HHO7
              have HLD := Lib.hid HHO7.out.load
              clear hp7 hl7 hm7 hf7 hD7 hLc
              go_wp2_with fail
              refine (loadC_any F7 d D7 w7 LW7.out.disk LW7.out.ok).mono ?_
              intro e w8 hp8
              unfold LoPost at hp8
              rw [HLD.out] at hp8
              obtain ⟨x, hxv, rfl, hxk, _, hm8⟩ := hp8
              obtain ⟨X, hX⟩ : ∃ X, x = X := ⟨_, rfl⟩
              rw [hX] at hxk hxv
              have LW8 := Lib.hid (LW7.out.mod0 hm8)
              obtain ⟨xg, xn, xl, xs', xA, xc, xms⟩ := x
              obtain ⟨xk, hxkk⟩ : ∃ xk, xms.length = xk := ⟨_, rfl⟩
              have hXval : X.val = .agg #[.int .i64 xg, .int .i64 xn, .int .i64 xl, .int .i64 xs', .slice xA xk xc] := by rw [← hX]; unfold Vw.val; simp only; rw [hxkk]
              have HXE := Lib.hid hXval
              have hth : ∀ W, Mod Non w8 W → Calls Tryz.prog 15 #[.agg #[.int .i64 xg, .int .i64 xn, .int .i64 xl, .int .i64 xs', .slice xA xk xc]] W fun e w' => ∃ Z : Vw, Z.v = L0.v ∧ e = .returned Z.val ∧ VwOk w' Z ∧ Mod Non W w' := fun W hW => by
                have hlen : X.ms.length ≤ 100000000 := by
                  have h3 := congrArg (fun v => v.tables.length) hxv
                  simp only [Vw.v, List.length_map] at h3
                  have h4 := HLF.out
                  omega
                have := theirs_any X W (hxk.mod0 hW) hlen
                rw [HXE.out] at this
                exact this.mono fun e w' ⟨A', c', he, hk', _, hm'⟩ => ⟨⟨X.gen, X.next, X.log, X.seq, A', c', X.ms⟩, hxv, he, hk', hm'⟩
              have HTH := Lib.hid hth
              unfold Vw.val
              simp only
              rw [hxkk]
              obtain ⟨w9, hw9⟩ : ∃ w9, w8.alloc (.cells #[.int .i64 xg, .int .i64 xn, .int .i64 xl, .int .i64 xs', .slice xA xk xc] 34) = w9 := ⟨_, rfl⟩
              have hm9 : Mod Non w8 w9 := by rw [← hw9]; exact (Mod.refl _ _).alloc _
              have HBV : Hid (Blk w9 w8.heap.size 34 #[.int .i64 xg, .int .i64 xn, .int .i64 xl, .int .i64 xs', .slice xA xk xc]) := by { show Blk _ _ _ _; rw [← hw9]; exact Blk.new _ _ _ }
              have HM9 := Lib.hid hm9
              have LW9 := Lib.hid (LW8.out.mod0 hm9)
              have HB9 := Lib.hid ((HB7.out.mod hm8 fun h => h).mod hm9 fun h => h)
              have HW9 := Lib.hid hw9
              have hszw : w2.heap.size < w8.heap.size := (HB7.out.mod hm8 fun h => h).lt
              have hB : ∀ W, Mod Non w9 W → W.cell? ⟨w8.heap.size, 0, none⟩ = some (.int .i64 xg) ∧ W.cell? ⟨w8.heap.size, 1, none⟩ = some (.int .i64 xn) ∧ W.cell? ⟨w8.heap.size, 2, none⟩ = some (.int .i64 xl) ∧ W.cell? ⟨w8.heap.size, 3, none⟩ = some (.int .i64 xs') ∧ W.cell? ⟨w8.heap.size, 4, none⟩ = some (.slice xA xk xc) ∧ W.cell? ⟨w2.heap.size, 0, none⟩ = some (.int .i64 lg) ∧ W.cell? ⟨w2.heap.size, 1, none⟩ = some (.int .i64 ln) ∧ W.cell? ⟨w2.heap.size, 2, none⟩ = some (.int .i64 ll) ∧ W.cell? ⟨w2.heap.size, 3, none⟩ = some (.int .i64 ls) ∧ W.cell? ⟨w2.heap.size, 4, none⟩ = some (.slice LA lq lc) := fun W hW =>
                ⟨(HBV.out.mod hW fun h => h).cell 0, (HBV.out.mod hW fun h => h).cell 1, (HBV.out.mod hW fun h => h).cell 2, (HBV.out.mod hW fun h => h).cell 3, (HBV.out.mod hW fun h => h).cell 4, (HB9.out.mod hW fun h => h).cell 0, (HB9.out.mod hW fun h => h).cell 1, (HB9.out.mod hW fun h => h).cell 2, (HB9.out.mod hW fun h => h).cell 3, (HB9.out.mod hW fun h => h).cell 4⟩
              have HBB := Lib.hid hB
              have hyc : ∀ W Z, Mod Non w W → VwOk W Z → Calls Tryz.prog 14 #[Z.val, .agg #[.int .i64 lg, .int .i64 ln, .int .i64 ll, .int .i64 ls, .slice LA lq lc]] W fun e w' => e = .returned (.bool (decide (Z.v = L0.v))) ∧ Mod Non W w' := fun W Z hW hZ => by
                have := sameVs_any Z L0 W hZ (HLO.out.mod0 hW)
                rw [HLV.out] at this
                exact this
              have HYC := Lib.hid hyc
              obtain ⟨z0, z1, z2, z3, z4, z5, z6, z7, z8, z9⟩ := hB w9 (Mod.refl _ _)
              clear hm8 hxv hxk hX hXval hth hxkk hm9 hw9 hB hyc
              go_wp2_with fail
              rw [HW9.out]
              go_region_held3 (fun w' => w'.cell? ⟨w8.heap.size, 0, none⟩ = some (.int .i64 xg) ∧ w'.cell? ⟨w8.heap.size, 1, none⟩ = some (.int .i64 xn) ∧ w'.cell? ⟨w8.heap.size, 2, none⟩ = some (.int .i64 xl) ∧ w'.cell? ⟨w8.heap.size, 3, none⟩ = some (.int .i64 xs') ∧ w'.cell? ⟨w8.heap.size, 4, none⟩ = some (.slice xA xk xc) ∧ w'.cell? ⟨w2.heap.size, 0, none⟩ = some (.int .i64 lg) ∧ w'.cell? ⟨w2.heap.size, 1, none⟩ = some (.int .i64 ln) ∧ w'.cell? ⟨w2.heap.size, 2, none⟩ = some (.int .i64 ll) ∧ w'.cell? ⟨w2.heap.size, 3, none⟩ = some (.int .i64 ls) ∧ w'.cell? ⟨w2.heap.size, 4, none⟩ = some (.slice LA lq lc))
                (first | go_keep)
                (first
                  | (go_at_call 15
                     refine (HTH.out _ (HM9.out.drew)).mono ?_
                     rintro e w10 ⟨Z, hZV, rfl, hZk, hm10⟩
                     have HZV := Lib.hid hZV
                     have HZK := Lib.hid hZk
                     have HM10 := Lib.hid (((Mod.refl Non w9).drew).trans0 hm10)
                     have LW10 := Lib.hid (LW9.out.mod0 HM10.out)
                     obtain ⟨z01, z11, z21, z31, z41, z51, z61, z71, z81, z91⟩ := HBB.out w10 HM10.out
                     clear hZV hZk hm10)
                  | (go_at_call 14
                     refine (HYC.out w10 Z LW10.out.mod HZK.out).mono ?_
                     rw [HZV.out, decide_eq_true rfl]
                     rintro e w11 ⟨rfl, hm11⟩
                     have HM11 := Lib.hid (HM10.out.trans0 hm11)
                     have LW11 := Lib.hid (LW10.out.mod0 hm11)
                     obtain ⟨z02, z12, z22, z32, z42, z52, z62, z72, z82, z92⟩ := HBB.out w11 HM11.out
                     clear hm11)
                  | fail)
              all_goals
                go_wp2_with fail
                go_roundw
                case rel => exact ⟨k + 1, F7, D7, L0, by omega, by omega, by go_num, ⟨LW11.out, HCAL7.out, HHO7.out, by { have := HB9.out.mod HM11.out fun h => h; rw [HLB.out] at this; exact this }, hnb7, HLO.out, HLF.out⟩⟩
                case measure => simp [intOf]; omega
    · have hor : (k < n ∧ k = 10) ∨ k = n := by omega
      clear hlt
      rcases hor with ⟨h1, rfl⟩ | rfl
      all_goals
        go_wp2_with fail
        go_ret
        exact ⟨rfl, LW.out.mod⟩

end Go.Proofs.YtdpjnpjmokncdaaGreatDoor
