/- sawyerlaw05.WalApart: the walk. -/
import Derived.Test.YtgdamcimpgapgaaGreatDoorApart
namespace Go.Proofs.YtgdamcimpgapgaaGreatDoor
open Go.RowKit

theorem nameW_ne {X Y : Int} (h0 : 0 ≤ X) (h1 : X ≤ 1099511627776) (k0 : 0 ≤ Y) (k1 : Y ≤ 1099511627776) (h : X ≠ Y) : nameW X ≠ nameW Y := by
  rw [nameW_yes h0 h1, nameW_yes k0 k1]
  intro e
  have := walName_inj (by omega) (by omega) e
  omega

/-- memory between two rounds. -/
structure ApM (w : World) (xs : List Bs) (F' : Nat → Prop) (d : Nat) (D' : Dk) (ys : List Bs) (v : Value) (wr : World) : Prop where
  disk : DiskIs wr F' d D'
  mod : Mod Non w wr
  ys : ∀ x ∈ ys, x ∈ xs
  far : ∀ g, F' g → w.heap.size ≤ g ∧ v.ownBlock ≠ some g

set_option maxRecDepth 100000 in
set_option maxHeartbeats 2000000 in
theorem apart_walk (aa bb : Int) (A B : Option Addr) (n c m k : Nat) (xs zs : List Bs) (w : World) (hL : Lay w) (hx : RdS w A n xs) (hy : RdS w B m zs) (hm : m ≤ 9223372036854775807) (hn : n ≤ 9223372036854775807) (hl : ∀ x ∈ xs, x.n ≤ 9223372036854775807) (hl2 : ∀ x ∈ zs, x.n ≤ 9223372036854775807) :
    Calls Tryz.prog 4 #[.int .i64 aa, .int .i64 bb, .slice A n c, .slice B m k] w fun e w' => e = .returned (.bool true) ∧ Mod Non w w' := by
  obtain ⟨X, hX⟩ : ∃ X, aa % 65536 = X := ⟨_, rfl⟩
  obtain ⟨Y, hY⟩ : ∃ Y, bb % 65536 = Y := ⟨_, rfl⟩
  have hX0 : 0 ≤ X := by omega
  have hX1 : X < 65536 := by omega
  have hY0 : 0 ≤ Y := by omega
  have hY1 : Y < 65536 := by omega
  have hax : bits .and .i64 aa 65535 = X := by rw [and65535, hX]
  have hay : bits .and .i64 bb 65535 = Y := by rw [and65535, hY]
  have HL := Lib.hid hL
  have HX := Lib.hid hx
  have HZ := Lib.hid hy
  clear hL hx hy hX hY
  by_cases hXY : X = Y
  · subst hXY
    go_enter Tryz.func4, Tryz.ntmps4
    go_wp2_with (first
      | (go_at_call 6; refine (awake_any _ HL.out).mono ?_; rintro e w1 ⟨rfl, hm1⟩; have HM1 := Lib.hid hm1)
      | (go_at_call 7; refine (new_yes 1099511627776 _ (HL.out.mod0 HM1.out) (by omega) (by omega)).mono ?_; rintro e w2 ⟨d, F, rfl, hd2, hb2, hF2⟩; have HM2 := Lib.hid (HM1.out.trans0 (Mod.of_below hb2)); clear hd2 hb2 hF2))
    go_ret
    exact ⟨rfl, HM2.out⟩
  · have hXYb : (X == Y) = false := beq_eq_false_iff_ne.2 hXY
    have HNE := Lib.hid (nameW_ne hX0 (by omega) hY0 (by omega) hXY)
    go_enter Tryz.func4, Tryz.ntmps4
    go_wp2_with (first
      | (go_at_call 6; refine (awake_any _ HL.out).mono ?_; rintro e w1 ⟨rfl, hm1⟩; have HM1 := Lib.hid hm1)
      | (go_at_call 7; refine (new_yes 1099511627776 _ (HL.out.mod0 HM1.out) (by omega) (by omega)).mono ?_; rintro e w2 ⟨d, F, rfl, hd2, hb2, hF2⟩; have HM2 := Lib.hid (HM1.out.trans0 (Mod.of_below hb2)); have HD2 := Lib.hid hd2; have HF2 : Hid (∀ g, F g → w.heap.size ≤ g) := (fun g hg => Nat.le_trans HM1.out.size (hF2 g hg)); clear hd2 hb2 hF2))
    go_loopw [14, 15] (fun v i wr => ∃ (q : Nat) (F' : Nat → Prop) (D' : Dk) (ys : List Bs), q ≤ n ∧ q ≤ 20 ∧ i = .int .i64 q ∧ Hid (ApM w xs F' d D' ys v wr ∧ ApP X Y D' (ys.map (·.l)) q) ∧ wr.ownsRow w.heap.size 31 1 v ys.length (ys.map Bs.val) ∧ ys.length ≤ q) (fun _ i _ => n - (intOf i).toNat)
    case atStart =>
      exact ⟨0, F, newD 1099511627776, [], Nat.zero_le _, by omega, rfl, ⟨⟨HD2.out, HM2.out, by simp, fun g hg => ⟨HF2.out g hg, by simp [Value.ownBlock]⟩⟩, ApP.start X Y⟩, World.ownsRow_nil _ _ _ _, by simp⟩
    case round =>
      obtain ⟨q, F', D', ys, hqn, hq20, rfl, HINV, hown, hyl⟩ := hrel
      obtain ⟨Av, cv, rfl, hcv, hcv2⟩ := own_slice hown
      by_cases hlt : q < n ∧ q < 20
      · obtain ⟨hlt, hlt20⟩ := hlt
        obtain ⟨b, o, p, rfl, hp, hc, hr⟩ := (HX.out.mod0 HINV.out.1.mod).at_ hlt
        have HD := Lib.hid HINV.out.1.disk
        have HMOD := Lib.hid HINV.out.1.mod
        have HFF := Lib.hid HINV.out.1.far
        have HP := Lib.hid HINV.out.2
        have hpx : p ∈ xs := List.mem_of_getElem? hp
        have HPX := Lib.hid hpx
        have hpn := hl p hpx
        obtain ⟨pA, pn, pc, pl⟩ := p
        simp only [Bs.val] at hc hr hpn
        have hpl : pl.length = pn := by simpa using hr.1
        have HPL := Lib.hid hpl
        have hrow := hown.lt
        have HOWN := Lib.hid hown
        have hrw : wr.heap.size ≥ w.heap.size := HMOD.out.size
        obtain ⟨b0, o0, hbo, u0, hu0, hcw⟩ := HX.out.1.at_ hlt
        cases hbo
        have hb0 : b < w.heap.size := World.block_lt_of_cell? w ⟨b, o + q, none⟩ hcw
        have HR := Lib.hid hr
        clear hcw hu0 hpx hp hpl hown hr
        by_cases hsm : pn ≤ 4096
        · obtain ⟨a1, a2⟩ := HP.out.addX hX0 (by omega) (by omega) (b := pl) (by rw [HPL.out]; omega)
          obtain ⟨D2, hD2⟩ : ∃ D2, (addB D' X pl).1 = D2 := ⟨_, rfl⟩
          rw [hD2] at a2
          have HA1 : Hid ((addB D' X pl).1 = D2) := hD2
          have HA2 : Hid ((addB D' X pl).2 = 0) := a1
          have HP2 := Lib.hid a2
          clear a1 a2 hD2
          go_wp2_with (first
            | (go_at_call 10
               refine (add_wal F' d D' X pA pn pc pl _ HD.out HP.out.ok HR.out hpn).mono ?_
               rw [HA1.out, HA2.out]
               rintro e w5 ⟨rfl, F5, hd5, hm5, hF5⟩
               have HD5 := Lib.hid hd5
               have HM5 := Lib.hid hm5
               have HF5 := Lib.hid hF5
               have hsz5 := hm5.size
               clear hd5 hm5 hF5
               have hc5 : w5.cell? ⟨b, o + q, none⟩ = some (.slice pA pn pc) := HM5.out.cell hc (fun h => by have := (HFF.out _ h).1; simp only at this; omega)
               have hown5 := own_mod (S := F') HOWN.out HM5.out (fun g hg h => (HFF.out g h).2 hg)
               have HONE := Lib.hid (one_row w5 31 ⟨pA, pn, pc, pl⟩))
            | (at_builtin
               refine wpList_appS Tryz.underlying34 rowT _ rfl (.tmp 72) (.tmp 77) rfl w.heap.size (.slice Av ys.length cv) ys.length ys rfl (hown5.alloc _) _ 1 1 [⟨pA, pn, pc, pl⟩] rfl HONE.out (by omega) (by simp; omega) ?_
               intro A' c' w' hc' hcm' hown' hg' hat'))
          have hM5a : Mod F' wr (w5.alloc (.cells #[.slice pA pn pc] 31)) := HM5.out.alloc _
          have hmg : Mod (fun g => (Value.slice Av ys.length cv).ownBlock = some g) (w5.alloc (.cells #[.slice pA pn pc] 31)) w' := Mod.of_grown hg' fun _ h => h
          have hnF : ∀ g, F5 g → (Value.slice Av ys.length cv).ownBlock ≠ some g := fun g hg h => by
            rcases HF5.out g hg with h2 | h2
            · exact (HFF.out g h2).2 h
            · have := (hrow g h).2; omega
          have hlt5 := HD5.out.flt
          have hD6 : DiskIs w' F5 d D2 := (HD5.out.mod0 ((Mod.refl Non w5).alloc (.cells #[.slice pA pn pc] 31))).mod hmg (fun g hg h => hnF g hg h) (fun h => by have := (hrow _ h).1; have := HL.out.lt; omega)
          go_roundw
          case rel =>
            refine ⟨q + 1, F5, D2, ys ++ [⟨pA, pn, pc, pl⟩], by omega, by omega, by go_num, ⟨⟨hD6, ?_, ?_, ?_⟩, by rw [List.map_append]; exact HP2.out⟩, by simpa using hown', by simp; omega⟩
            · exact ((HMOD.out.trans hM5a fun g hg => .inr (HFF.out g hg).1).trans hmg fun g hg => .inr (hrow g hg).1)
            · intro x hx
              rcases List.mem_append.1 hx with hx | hx
              · exact HINV.out.1.ys x hx
              · simp only [List.mem_singleton] at hx
                subst hx
                exact HPX.out
            · intro g hg
              refine ⟨?_, fun h => ?_⟩
              · rcases HF5.out g hg with h2 | h2
                · exact (HFF.out g h2).1
                · omega
              · have h3 : blkOf A' = some g := by cases A' <;> exact h
                rcases hat' with h4 | h4
                · rw [h4] at h3; exact hnF g hg h3
                · rw [h4] at h3
                  cases h3
                  have := hlt5 _ hg
                  simp at this
                  omega
          case measure => simp [intOf]; omega
        · go_wp2_with fail
          go_roundw
          case rel => exact ⟨q + 1, F', D', ys, by omega, by omega, by go_num, ⟨HINV.out.1, HP.out.later (by omega)⟩, HOWN.out, by omega⟩
          case measure => simp [intOf]; omega
      · by_cases hlt1 : q < n
        · have hq : q = 20 := by omega
          subst hq
          go_wp2_with fail
          go_loopw [16] (fun i wr2 => ∃ (q2 : Nat) (F2 : Nat → Prop) (D2 : Dk), q2 ≤ m ∧ q2 ≤ 20 ∧ i = .int .i64 q2 ∧ Hid (ApM w xs F2 d D2 ys (.slice Av ys.length cv) wr2 ∧ ApP X Y D2 (ys.map (·.l)) (20 + q2)) ∧ wr2.ownsRow w.heap.size 31 1 (.slice Av ys.length cv) ys.length (ys.map Bs.val)) (fun i _ => m - (intOf i).toNat)
          case atStart => exact ⟨0, F', D', Nat.zero_le _, by omega, rfl, ⟨HINV.out.1, HINV.out.2.later (by omega)⟩, hown⟩
          case round =>
            obtain ⟨q2, F2, D2, hqm, hq220, rfl, HJ, hown2⟩ := hrel
            by_cases hlt2 : q2 < m ∧ q2 < 20
            · obtain ⟨hlt2, hlt22⟩ := hlt2
              obtain ⟨b, o, p, hBB, hp, hc, hr⟩ := (HZ.out.mod0 HJ.out.1.mod).at_ hlt2
              subst hBB
              have hpx : p ∈ zs := List.mem_of_getElem? hp
              have hpn := hl2 p hpx
              obtain ⟨pA, pn, pc, pl⟩ := p
              simp only [Bs.val] at hc hr hpn
              have hrow := hown2.lt
              have HOWN := Lib.hid hown2
              have hrw := HJ.out.1.mod.size
              have HR := Lib.hid hr
              have HP2 := Lib.hid (HJ.out.2.addAny HNE.out hY0 (by omega) (by omega) pl)
              obtain ⟨D3, hD3⟩ : ∃ D3, (addB D2 Y pl).1 = D3 := ⟨_, rfl⟩
              obtain ⟨E3, hE3⟩ : ∃ E3, (addB D2 Y pl).2 = E3 := ⟨_, rfl⟩
              rw [hD3] at HP2
              have HA1 := Lib.hid hD3
              have HA2 := Lib.hid hE3
              clear hpx hp hr hD3 hE3 hown2
              go_wp2_with (first
                | (go_at_call 10
                   refine (add_wal F2 d D2 Y pA pn pc pl _ HJ.out.1.disk HJ.out.2.ok HR.out hpn).mono ?_
                   rw [HA1.out, HA2.out]
                   rintro e w5 ⟨rfl, F5, hd5, hm5, hF5⟩
                   have HD5 := Lib.hid hd5
                   have HM5 := Lib.hid hm5
                   have HF5 := Lib.hid hF5
                   have hsz5 := hm5.size
                   clear hd5 hm5 hF5))
              have hown5 := own_mod (S := F2) HOWN.out HM5.out (fun g hg h => (HJ.out.1.far g h).2 hg)
              go_roundw
              case rel =>
                refine ⟨q2 + 1, F5, D3, by omega, by omega, by go_num, ⟨⟨HD5.out, HJ.out.1.mod.trans HM5.out fun g hg => .inr (HJ.out.1.far g hg).1, HJ.out.1.ys, fun g hg => ?_⟩, HP2.out⟩, hown5⟩
                rcases HF5.out g hg with h2 | h2
                · exact HJ.out.1.far g h2
                · exact ⟨by omega, fun h => by have := (hrow g h).2; omega⟩
              case measure => simp [intOf]; omega
            · by_cases hlt3 : q2 < m
              · have hq2 : q2 = 20 := by omega
                subst hq2
                go_wp2_with fail
                refine (replay_any F2 d D2 X _ HJ.out.1.disk HJ.out.2.ok).mono ?_
                rintro e w5 hp5
                unfold RpPost at hp5
                rw [if_pos (by omega)] at hp5
                obtain ⟨hdo, hdf, hdn⟩ := HJ.out.2.drop HNE.out hY0 (by omega)
                obtain ⟨D3, hD3⟩ : ∃ D3, dropD D2 Y = D3 := ⟨_, rfl⟩
                obtain ⟨E3, hE3⟩ : ∃ E3, dropE D2 Y = E3 := ⟨_, rfl⟩
                rw [hD3] at hdo hdf hdn
                have HA1 := Lib.hid hD3
                have HA2 := Lib.hid hE3
                have HDO := Lib.hid hdo
                have HDF := Lib.hid hdf
                have HDN := Lib.hid hdn
                have HOWN2 := Lib.hid hown2
                clear hD3 hE3 hdo hdf hdn hown2
                rcases HJ.out.2.replay with ⟨hnil, hnone⟩ | ⟨hne, f, hf, hrep⟩
                · rw [hnone] at hp5
                  dsimp only at hp5
                  obtain ⟨rfl, hm5⟩ := hp5
                  have hz : ys.length = 0 := by simpa using congrArg List.length hnil
                  have hzb : ((ys.length : Int) == 0) = true := by rw [hz]; rfl
                  have HM5 := Lib.hid hm5
                  have HN := Lib.hid hnone
                  clear hm5 hnone hnil hz
                  go_wp2_with fail
                  refine (drop_any F2 d D2 Y _ (HJ.out.1.disk.mod0 HM5.out) HJ.out.2.ok).mono ?_
                  rw [HA1.out, HA2.out]
                  rintro e w6 ⟨rfl, F6, hd6, hm6, hF6⟩
                  have HD6 := Lib.hid hd6
                  have HM6 := Lib.hid ((HJ.out.1.mod.trans0 HM5.out).trans hm6 fun g hg => .inr (HJ.out.1.far g hg).1)
                  clear hd6 hm6 hF6
                  go_wp2_with fail
                  refine (replay_any F6 d D3 X _ HD6.out HDO.out).mono ?_
                  rintro e w7 hp7
                  unfold RpPost at hp7
                  rw [if_pos (by omega), HDF.out, HN.out] at hp7
                  dsimp only at hp7
                  obtain ⟨rfl, hm7⟩ := hp7
                  have HM7 := Lib.hid (HM6.out.trans0 hm7)
                  clear hm7
                  go_wp2_with fail
                  go_ret
                  exact ⟨rfl, HM7.out⟩
                · rw [hf] at hp5
                  dsimp only at hp5
                  obtain ⟨A5, k5, c5, gs, rfl, hrow5, hgl, hm5⟩ := hp5
                  rw [hrep] at hgl
                  have HM5 := Lib.hid hm5
                  have HROW5 := Lib.hid hrow5
                  have HGL := Lib.hid hgl
                  have HF := Lib.hid hf
                  have HREP := Lib.hid hrep
                  have hyn : ys.length ≠ 0 := fun e => hne (by simpa using e)
                  have hzb : ((ys.length : Int) == 0) = false := beq_eq_false_iff_ne.2 (by omega)
                  clear hm5 hrow5 hgl hf hrep hne hyn
                  go_wp2_with fail
                  refine (drop_any F2 d D2 Y _ (HJ.out.1.disk.mod0 HM5.out) HJ.out.2.ok).mono ?_
                  rw [HA1.out, HA2.out]
                  rintro e w6 ⟨rfl, F6, hd6, hm6, hF6⟩
                  have HD6 := Lib.hid hd6
                  have HM56 := Lib.hid hm6
                  have HM6 := Lib.hid ((HJ.out.1.mod.trans0 HM5.out).trans hm6 fun g hg => .inr (HJ.out.1.far g hg).1)
                  clear hd6 hm6 hF6
                  go_wp2_with fail
                  refine (replay_any F6 d D3 X _ HD6.out HDO.out).mono ?_
                  rintro e w7 hp7
                  unfold RpPost at hp7
                  rw [if_pos (by omega), HDF.out, HF.out] at hp7
                  dsimp only at hp7
                  obtain ⟨A7, k7, c7, hs, rfl, hrow7, hhl, hm7⟩ := hp7
                  rw [HREP.out] at hhl
                  have HM7 := Lib.hid hm7
                  have HM07 := Lib.hid (HM6.out.trans0 hm7)
                  have HROW7 := Lib.hid hrow7
                  have HHL := Lib.hid hhl
                  clear hm7 hrow7 hhl
                  go_wp2_with fail
                  have hfl2 := HJ.out.1.disk.flt
                  have HS1 : Hid (RdS w7 A5 k5 gs) := by
                    refine ⟨(HROW5.out.rd.mod HM56.out fun _ g hg h => by have := HROW5.out.own g hg; have := hfl2 g h; omega).mod0 HM7.out, fun x hx => ((HROW5.out.rows x hx).1.mod HM56.out fun _ g hg h => by have := (HROW5.out.rows x hx).2.1 g hg; have := hfl2 g h; omega).mod0 HM7.out⟩
                  have hown7 := own_mod (S := Non) (own_mod (S := F2) (own_mod (S := Non) HOWN2.out HM5.out (fun _ _ h => h)) HM56.out (fun g hg h => (HJ.out.1.far g h).2 hg)) HM7.out (fun _ _ h => h)
                  have HS2 : Hid (RdS w7 Av ys.length ys) := ⟨Rd.of_own hown7, fun x hx => (HX.out.2 x (HJ.out.1.ys x hx)).mod0 HM07.out⟩
                  have hk5 := HROW5.out.nc
                  have hk5m := HROW5.out.cm
                  have hk7 := HROW7.out.nc
                  have hk7m := HROW7.out.cm
                  refine (same_any A5 Av k5 ys.length c5 cv gs ys _ HS1.out HS2.out (by omega) (by omega)).mono ?_
                  rw [decide_eq_true HGL.out]
                  rintro e w8 ⟨rfl, hm8⟩
                  have HM8 := Lib.hid hm8
                  have HM08 := Lib.hid (HM07.out.trans0 hm8)
                  clear hm8 hown7
                  go_wp2_with fail
                  refine (same_any A7 Av k7 ys.length c7 cv hs ys _ (HROW7.out.rds.mod0 HM8.out) (HS2.out.mod0 HM8.out) (by omega) (by omega)).mono ?_
                  rw [decide_eq_true HHL.out]
                  rintro e w9 ⟨rfl, hm9⟩
                  have HM9 := Lib.hid (HM08.out.trans0 hm9)
                  have HD9 := Lib.hid (((HD6.out.mod0 HM7.out).mod0 HM8.out).mod0 hm9)
                  clear hm9
                  go_wp2_with fail
                  refine (segs_any F6 d D3 _ HD9.out HDO.out (fun f hf => ⟨X.toNat, by omega, by rw [HDN.out f hf, nameW_yes hX0 (by omega)]⟩)).mono ?_
                  rintro e w10 ⟨As, ns, cs, L, us, rfl, hL, hLu, hub, hrs, hns, hcs, hbs, hm10⟩
                  have hLs := names_single HDO.out HDN.out (HDF.out.trans HF.out) hL
                  have hus : us = [X.toNat] := by
                    rw [hLs, nameW_yes hX0 (by omega)] at hLu
                    cases us with
                    | nil => cases hLu
                    | cons u r =>
                      simp only [List.map_cons, List.cons.injEq] at hLu
                      have h1 := walName_inj (by omega) (hub u (.head _)) hLu.1
                      have h2 : r = [] := by simpa using hLu.2.symm
                      rw [h1, h2]
                  have hrs' : Rd w10 As ns ([X].map i64c) := by
                    rw [hus] at hrs
                    simpa [Int.toNat_of_nonneg hX0] using hrs
                  have HRS := Lib.hid hrs'
                  have HM10 := Lib.hid (HM9.out.trans0 hm10)
                  clear hL hLu hub hrs hm10 hLs hus hrs'
                  go_wp2_with fail
                  refine (sameInts_any As (some ⟨w10.heap.size, 0, none⟩) ns 1 cs 1 [X] [X] _ (HRS.out.alloc _) (one_int w10 3 X) (by omega) (by omega)).mono ?_
                  rw [decide_eq_true rfl]
                  rintro e w11 ⟨rfl, hm11⟩
                  have HM11 := Lib.hid ((HM10.out.alloc (.cells #[.int .i64 X] 3)).trans0 hm11)
                  clear hm11
                  go_wp2_with fail
                  go_ret
                  exact ⟨rfl, HM11.out⟩
              · obtain rfl : q2 = m := by omega
                go_wp2_with fail
                refine (replay_any F2 d D2 X _ HJ.out.1.disk HJ.out.2.ok).mono ?_
                rintro e w5 hp5
                unfold RpPost at hp5
                rw [if_pos (by omega)] at hp5
                obtain ⟨hdo, hdf, hdn⟩ := HJ.out.2.drop HNE.out hY0 (by omega)
                obtain ⟨D3, hD3⟩ : ∃ D3, dropD D2 Y = D3 := ⟨_, rfl⟩
                obtain ⟨E3, hE3⟩ : ∃ E3, dropE D2 Y = E3 := ⟨_, rfl⟩
                rw [hD3] at hdo hdf hdn
                have HA1 := Lib.hid hD3
                have HA2 := Lib.hid hE3
                have HDO := Lib.hid hdo
                have HDF := Lib.hid hdf
                have HDN := Lib.hid hdn
                have HOWN2 := Lib.hid hown2
                clear hD3 hE3 hdo hdf hdn hown2
                rcases HJ.out.2.replay with ⟨hnil, hnone⟩ | ⟨hne, f, hf, hrep⟩
                · rw [hnone] at hp5
                  dsimp only at hp5
                  obtain ⟨rfl, hm5⟩ := hp5
                  have hz : ys.length = 0 := by simpa using congrArg List.length hnil
                  have hzb : ((ys.length : Int) == 0) = true := by rw [hz]; rfl
                  have HM5 := Lib.hid hm5
                  have HN := Lib.hid hnone
                  clear hm5 hnone hnil hz
                  go_wp2_with fail
                  refine (drop_any F2 d D2 Y _ (HJ.out.1.disk.mod0 HM5.out) HJ.out.2.ok).mono ?_
                  rw [HA1.out, HA2.out]
                  rintro e w6 ⟨rfl, F6, hd6, hm6, hF6⟩
                  have HD6 := Lib.hid hd6
                  have HM6 := Lib.hid ((HJ.out.1.mod.trans0 HM5.out).trans hm6 fun g hg => .inr (HJ.out.1.far g hg).1)
                  clear hd6 hm6 hF6
                  go_wp2_with fail
                  refine (replay_any F6 d D3 X _ HD6.out HDO.out).mono ?_
                  rintro e w7 hp7
                  unfold RpPost at hp7
                  rw [if_pos (by omega), HDF.out, HN.out] at hp7
                  dsimp only at hp7
                  obtain ⟨rfl, hm7⟩ := hp7
                  have HM7 := Lib.hid (HM6.out.trans0 hm7)
                  clear hm7
                  go_wp2_with fail
                  go_ret
                  exact ⟨rfl, HM7.out⟩
                · rw [hf] at hp5
                  dsimp only at hp5
                  obtain ⟨A5, k5, c5, gs, rfl, hrow5, hgl, hm5⟩ := hp5
                  rw [hrep] at hgl
                  have HM5 := Lib.hid hm5
                  have HROW5 := Lib.hid hrow5
                  have HGL := Lib.hid hgl
                  have HF := Lib.hid hf
                  have HREP := Lib.hid hrep
                  have hyn : ys.length ≠ 0 := fun e => hne (by simpa using e)
                  have hzb : ((ys.length : Int) == 0) = false := beq_eq_false_iff_ne.2 (by omega)
                  clear hm5 hrow5 hgl hf hrep hne hyn
                  go_wp2_with fail
                  refine (drop_any F2 d D2 Y _ (HJ.out.1.disk.mod0 HM5.out) HJ.out.2.ok).mono ?_
                  rw [HA1.out, HA2.out]
                  rintro e w6 ⟨rfl, F6, hd6, hm6, hF6⟩
                  have HD6 := Lib.hid hd6
                  have HM56 := Lib.hid hm6
                  have HM6 := Lib.hid ((HJ.out.1.mod.trans0 HM5.out).trans hm6 fun g hg => .inr (HJ.out.1.far g hg).1)
                  clear hd6 hm6 hF6
                  go_wp2_with fail
                  refine (replay_any F6 d D3 X _ HD6.out HDO.out).mono ?_
                  rintro e w7 hp7
                  unfold RpPost at hp7
                  rw [if_pos (by omega), HDF.out, HF.out] at hp7
                  dsimp only at hp7
                  obtain ⟨A7, k7, c7, hs, rfl, hrow7, hhl, hm7⟩ := hp7
                  rw [HREP.out] at hhl
                  have HM7 := Lib.hid hm7
                  have HM07 := Lib.hid (HM6.out.trans0 hm7)
                  have HROW7 := Lib.hid hrow7
                  have HHL := Lib.hid hhl
                  clear hm7 hrow7 hhl
                  go_wp2_with fail
                  have hfl2 := HJ.out.1.disk.flt
                  have HS1 : Hid (RdS w7 A5 k5 gs) := by
                    refine ⟨(HROW5.out.rd.mod HM56.out fun _ g hg h => by have := HROW5.out.own g hg; have := hfl2 g h; omega).mod0 HM7.out, fun x hx => ((HROW5.out.rows x hx).1.mod HM56.out fun _ g hg h => by have := (HROW5.out.rows x hx).2.1 g hg; have := hfl2 g h; omega).mod0 HM7.out⟩
                  have hown7 := own_mod (S := Non) (own_mod (S := F2) (own_mod (S := Non) HOWN2.out HM5.out (fun _ _ h => h)) HM56.out (fun g hg h => (HJ.out.1.far g h).2 hg)) HM7.out (fun _ _ h => h)
                  have HS2 : Hid (RdS w7 Av ys.length ys) := ⟨Rd.of_own hown7, fun x hx => (HX.out.2 x (HJ.out.1.ys x hx)).mod0 HM07.out⟩
                  have hk5 := HROW5.out.nc
                  have hk5m := HROW5.out.cm
                  have hk7 := HROW7.out.nc
                  have hk7m := HROW7.out.cm
                  refine (same_any A5 Av k5 ys.length c5 cv gs ys _ HS1.out HS2.out (by omega) (by omega)).mono ?_
                  rw [decide_eq_true HGL.out]
                  rintro e w8 ⟨rfl, hm8⟩
                  have HM8 := Lib.hid hm8
                  have HM08 := Lib.hid (HM07.out.trans0 hm8)
                  clear hm8 hown7
                  go_wp2_with fail
                  refine (same_any A7 Av k7 ys.length c7 cv hs ys _ (HROW7.out.rds.mod0 HM8.out) (HS2.out.mod0 HM8.out) (by omega) (by omega)).mono ?_
                  rw [decide_eq_true HHL.out]
                  rintro e w9 ⟨rfl, hm9⟩
                  have HM9 := Lib.hid (HM08.out.trans0 hm9)
                  have HD9 := Lib.hid (((HD6.out.mod0 HM7.out).mod0 HM8.out).mod0 hm9)
                  clear hm9
                  go_wp2_with fail
                  refine (segs_any F6 d D3 _ HD9.out HDO.out (fun f hf => ⟨X.toNat, by omega, by rw [HDN.out f hf, nameW_yes hX0 (by omega)]⟩)).mono ?_
                  rintro e w10 ⟨As, ns, cs, L, us, rfl, hL, hLu, hub, hrs, hns, hcs, hbs, hm10⟩
                  have hLs := names_single HDO.out HDN.out (HDF.out.trans HF.out) hL
                  have hus : us = [X.toNat] := by
                    rw [hLs, nameW_yes hX0 (by omega)] at hLu
                    cases us with
                    | nil => cases hLu
                    | cons u r =>
                      simp only [List.map_cons, List.cons.injEq] at hLu
                      have h1 := walName_inj (by omega) (hub u (.head _)) hLu.1
                      have h2 : r = [] := by simpa using hLu.2.symm
                      rw [h1, h2]
                  have hrs' : Rd w10 As ns ([X].map i64c) := by
                    rw [hus] at hrs
                    simpa [Int.toNat_of_nonneg hX0] using hrs
                  have HRS := Lib.hid hrs'
                  have HM10 := Lib.hid (HM9.out.trans0 hm10)
                  clear hL hLu hub hrs hm10 hLs hus hrs'
                  go_wp2_with fail
                  refine (sameInts_any As (some ⟨w10.heap.size, 0, none⟩) ns 1 cs 1 [X] [X] _ (HRS.out.alloc _) (one_int w10 3 X) (by omega) (by omega)).mono ?_
                  rw [decide_eq_true rfl]
                  rintro e w11 ⟨rfl, hm11⟩
                  have HM11 := Lib.hid ((HM10.out.alloc (.cells #[.int .i64 X] 3)).trans0 hm11)
                  clear hm11
                  go_wp2_with fail
                  go_ret
                  exact ⟨rfl, HM11.out⟩
        · obtain rfl : q = n := by omega
          go_wp2_with fail
          go_loopw [16] (fun i wr2 => ∃ (q2 : Nat) (F2 : Nat → Prop) (D2 : Dk), q2 ≤ m ∧ q2 ≤ 20 ∧ i = .int .i64 q2 ∧ Hid (ApM w xs F2 d D2 ys (.slice Av ys.length cv) wr2 ∧ ApP X Y D2 (ys.map (·.l)) (20 + q2)) ∧ wr2.ownsRow w.heap.size 31 1 (.slice Av ys.length cv) ys.length (ys.map Bs.val)) (fun i _ => m - (intOf i).toNat)
          case atStart => exact ⟨0, F', D', Nat.zero_le _, by omega, rfl, ⟨HINV.out.1, HINV.out.2.later (by omega)⟩, hown⟩
          case round =>
            obtain ⟨q2, F2, D2, hqm, hq220, rfl, HJ, hown2⟩ := hrel
            by_cases hlt2 : q2 < m ∧ q2 < 20
            · obtain ⟨hlt2, hlt22⟩ := hlt2
              obtain ⟨b, o, p, hBB, hp, hc, hr⟩ := (HZ.out.mod0 HJ.out.1.mod).at_ hlt2
              subst hBB
              have hpx : p ∈ zs := List.mem_of_getElem? hp
              have hpn := hl2 p hpx
              obtain ⟨pA, pn, pc, pl⟩ := p
              simp only [Bs.val] at hc hr hpn
              have hrow := hown2.lt
              have HOWN := Lib.hid hown2
              have hrw := HJ.out.1.mod.size
              have HR := Lib.hid hr
              have HP2 := Lib.hid (HJ.out.2.addAny HNE.out hY0 (by omega) (by omega) pl)
              obtain ⟨D3, hD3⟩ : ∃ D3, (addB D2 Y pl).1 = D3 := ⟨_, rfl⟩
              obtain ⟨E3, hE3⟩ : ∃ E3, (addB D2 Y pl).2 = E3 := ⟨_, rfl⟩
              rw [hD3] at HP2
              have HA1 := Lib.hid hD3
              have HA2 := Lib.hid hE3
              clear hpx hp hr hD3 hE3 hown2
              go_wp2_with (first
                | (go_at_call 10
                   refine (add_wal F2 d D2 Y pA pn pc pl _ HJ.out.1.disk HJ.out.2.ok HR.out hpn).mono ?_
                   rw [HA1.out, HA2.out]
                   rintro e w5 ⟨rfl, F5, hd5, hm5, hF5⟩
                   have HD5 := Lib.hid hd5
                   have HM5 := Lib.hid hm5
                   have HF5 := Lib.hid hF5
                   have hsz5 := hm5.size
                   clear hd5 hm5 hF5))
              have hown5 := own_mod (S := F2) HOWN.out HM5.out (fun g hg h => (HJ.out.1.far g h).2 hg)
              go_roundw
              case rel =>
                refine ⟨q2 + 1, F5, D3, by omega, by omega, by go_num, ⟨⟨HD5.out, HJ.out.1.mod.trans HM5.out fun g hg => .inr (HJ.out.1.far g hg).1, HJ.out.1.ys, fun g hg => ?_⟩, HP2.out⟩, hown5⟩
                rcases HF5.out g hg with h2 | h2
                · exact HJ.out.1.far g h2
                · exact ⟨by omega, fun h => by have := (hrow g h).2; omega⟩
              case measure => simp [intOf]; omega
            · by_cases hlt3 : q2 < m
              · have hq2 : q2 = 20 := by omega
                subst hq2
                go_wp2_with fail
                refine (replay_any F2 d D2 X _ HJ.out.1.disk HJ.out.2.ok).mono ?_
                rintro e w5 hp5
                unfold RpPost at hp5
                rw [if_pos (by omega)] at hp5
                obtain ⟨hdo, hdf, hdn⟩ := HJ.out.2.drop HNE.out hY0 (by omega)
                obtain ⟨D3, hD3⟩ : ∃ D3, dropD D2 Y = D3 := ⟨_, rfl⟩
                obtain ⟨E3, hE3⟩ : ∃ E3, dropE D2 Y = E3 := ⟨_, rfl⟩
                rw [hD3] at hdo hdf hdn
                have HA1 := Lib.hid hD3
                have HA2 := Lib.hid hE3
                have HDO := Lib.hid hdo
                have HDF := Lib.hid hdf
                have HDN := Lib.hid hdn
                have HOWN2 := Lib.hid hown2
                clear hD3 hE3 hdo hdf hdn hown2
                rcases HJ.out.2.replay with ⟨hnil, hnone⟩ | ⟨hne, f, hf, hrep⟩
                · rw [hnone] at hp5
                  dsimp only at hp5
                  obtain ⟨rfl, hm5⟩ := hp5
                  have hz : ys.length = 0 := by simpa using congrArg List.length hnil
                  have hzb : ((ys.length : Int) == 0) = true := by rw [hz]; rfl
                  have HM5 := Lib.hid hm5
                  have HN := Lib.hid hnone
                  clear hm5 hnone hnil hz
                  go_wp2_with fail
                  refine (drop_any F2 d D2 Y _ (HJ.out.1.disk.mod0 HM5.out) HJ.out.2.ok).mono ?_
                  rw [HA1.out, HA2.out]
                  rintro e w6 ⟨rfl, F6, hd6, hm6, hF6⟩
                  have HD6 := Lib.hid hd6
                  have HM6 := Lib.hid ((HJ.out.1.mod.trans0 HM5.out).trans hm6 fun g hg => .inr (HJ.out.1.far g hg).1)
                  clear hd6 hm6 hF6
                  go_wp2_with fail
                  refine (replay_any F6 d D3 X _ HD6.out HDO.out).mono ?_
                  rintro e w7 hp7
                  unfold RpPost at hp7
                  rw [if_pos (by omega), HDF.out, HN.out] at hp7
                  dsimp only at hp7
                  obtain ⟨rfl, hm7⟩ := hp7
                  have HM7 := Lib.hid (HM6.out.trans0 hm7)
                  clear hm7
                  go_wp2_with fail
                  go_ret
                  exact ⟨rfl, HM7.out⟩
                · rw [hf] at hp5
                  dsimp only at hp5
                  obtain ⟨A5, k5, c5, gs, rfl, hrow5, hgl, hm5⟩ := hp5
                  rw [hrep] at hgl
                  have HM5 := Lib.hid hm5
                  have HROW5 := Lib.hid hrow5
                  have HGL := Lib.hid hgl
                  have HF := Lib.hid hf
                  have HREP := Lib.hid hrep
                  have hyn : ys.length ≠ 0 := fun e => hne (by simpa using e)
                  have hzb : ((ys.length : Int) == 0) = false := beq_eq_false_iff_ne.2 (by omega)
                  clear hm5 hrow5 hgl hf hrep hne hyn
                  go_wp2_with fail
                  refine (drop_any F2 d D2 Y _ (HJ.out.1.disk.mod0 HM5.out) HJ.out.2.ok).mono ?_
                  rw [HA1.out, HA2.out]
                  rintro e w6 ⟨rfl, F6, hd6, hm6, hF6⟩
                  have HD6 := Lib.hid hd6
                  have HM56 := Lib.hid hm6
                  have HM6 := Lib.hid ((HJ.out.1.mod.trans0 HM5.out).trans hm6 fun g hg => .inr (HJ.out.1.far g hg).1)
                  clear hd6 hm6 hF6
                  go_wp2_with fail
                  refine (replay_any F6 d D3 X _ HD6.out HDO.out).mono ?_
                  rintro e w7 hp7
                  unfold RpPost at hp7
                  rw [if_pos (by omega), HDF.out, HF.out] at hp7
                  dsimp only at hp7
                  obtain ⟨A7, k7, c7, hs, rfl, hrow7, hhl, hm7⟩ := hp7
                  rw [HREP.out] at hhl
                  have HM7 := Lib.hid hm7
                  have HM07 := Lib.hid (HM6.out.trans0 hm7)
                  have HROW7 := Lib.hid hrow7
                  have HHL := Lib.hid hhl
                  clear hm7 hrow7 hhl
                  go_wp2_with fail
                  have hfl2 := HJ.out.1.disk.flt
                  have HS1 : Hid (RdS w7 A5 k5 gs) := by
                    refine ⟨(HROW5.out.rd.mod HM56.out fun _ g hg h => by have := HROW5.out.own g hg; have := hfl2 g h; omega).mod0 HM7.out, fun x hx => ((HROW5.out.rows x hx).1.mod HM56.out fun _ g hg h => by have := (HROW5.out.rows x hx).2.1 g hg; have := hfl2 g h; omega).mod0 HM7.out⟩
                  have hown7 := own_mod (S := Non) (own_mod (S := F2) (own_mod (S := Non) HOWN2.out HM5.out (fun _ _ h => h)) HM56.out (fun g hg h => (HJ.out.1.far g h).2 hg)) HM7.out (fun _ _ h => h)
                  have HS2 : Hid (RdS w7 Av ys.length ys) := ⟨Rd.of_own hown7, fun x hx => (HX.out.2 x (HJ.out.1.ys x hx)).mod0 HM07.out⟩
                  have hk5 := HROW5.out.nc
                  have hk5m := HROW5.out.cm
                  have hk7 := HROW7.out.nc
                  have hk7m := HROW7.out.cm
                  refine (same_any A5 Av k5 ys.length c5 cv gs ys _ HS1.out HS2.out (by omega) (by omega)).mono ?_
                  rw [decide_eq_true HGL.out]
                  rintro e w8 ⟨rfl, hm8⟩
                  have HM8 := Lib.hid hm8
                  have HM08 := Lib.hid (HM07.out.trans0 hm8)
                  clear hm8 hown7
                  go_wp2_with fail
                  refine (same_any A7 Av k7 ys.length c7 cv hs ys _ (HROW7.out.rds.mod0 HM8.out) (HS2.out.mod0 HM8.out) (by omega) (by omega)).mono ?_
                  rw [decide_eq_true HHL.out]
                  rintro e w9 ⟨rfl, hm9⟩
                  have HM9 := Lib.hid (HM08.out.trans0 hm9)
                  have HD9 := Lib.hid (((HD6.out.mod0 HM7.out).mod0 HM8.out).mod0 hm9)
                  clear hm9
                  go_wp2_with fail
                  refine (segs_any F6 d D3 _ HD9.out HDO.out (fun f hf => ⟨X.toNat, by omega, by rw [HDN.out f hf, nameW_yes hX0 (by omega)]⟩)).mono ?_
                  rintro e w10 ⟨As, ns, cs, L, us, rfl, hL, hLu, hub, hrs, hns, hcs, hbs, hm10⟩
                  have hLs := names_single HDO.out HDN.out (HDF.out.trans HF.out) hL
                  have hus : us = [X.toNat] := by
                    rw [hLs, nameW_yes hX0 (by omega)] at hLu
                    cases us with
                    | nil => cases hLu
                    | cons u r =>
                      simp only [List.map_cons, List.cons.injEq] at hLu
                      have h1 := walName_inj (by omega) (hub u (.head _)) hLu.1
                      have h2 : r = [] := by simpa using hLu.2.symm
                      rw [h1, h2]
                  have hrs' : Rd w10 As ns ([X].map i64c) := by
                    rw [hus] at hrs
                    simpa [Int.toNat_of_nonneg hX0] using hrs
                  have HRS := Lib.hid hrs'
                  have HM10 := Lib.hid (HM9.out.trans0 hm10)
                  clear hL hLu hub hrs hm10 hLs hus hrs'
                  go_wp2_with fail
                  refine (sameInts_any As (some ⟨w10.heap.size, 0, none⟩) ns 1 cs 1 [X] [X] _ (HRS.out.alloc _) (one_int w10 3 X) (by omega) (by omega)).mono ?_
                  rw [decide_eq_true rfl]
                  rintro e w11 ⟨rfl, hm11⟩
                  have HM11 := Lib.hid ((HM10.out.alloc (.cells #[.int .i64 X] 3)).trans0 hm11)
                  clear hm11
                  go_wp2_with fail
                  go_ret
                  exact ⟨rfl, HM11.out⟩
              · obtain rfl : q2 = m := by omega
                go_wp2_with fail
                refine (replay_any F2 d D2 X _ HJ.out.1.disk HJ.out.2.ok).mono ?_
                rintro e w5 hp5
                unfold RpPost at hp5
                rw [if_pos (by omega)] at hp5
                obtain ⟨hdo, hdf, hdn⟩ := HJ.out.2.drop HNE.out hY0 (by omega)
                obtain ⟨D3, hD3⟩ : ∃ D3, dropD D2 Y = D3 := ⟨_, rfl⟩
                obtain ⟨E3, hE3⟩ : ∃ E3, dropE D2 Y = E3 := ⟨_, rfl⟩
                rw [hD3] at hdo hdf hdn
                have HA1 := Lib.hid hD3
                have HA2 := Lib.hid hE3
                have HDO := Lib.hid hdo
                have HDF := Lib.hid hdf
                have HDN := Lib.hid hdn
                have HOWN2 := Lib.hid hown2
                clear hD3 hE3 hdo hdf hdn hown2
                rcases HJ.out.2.replay with ⟨hnil, hnone⟩ | ⟨hne, f, hf, hrep⟩
                · rw [hnone] at hp5
                  dsimp only at hp5
                  obtain ⟨rfl, hm5⟩ := hp5
                  have hz : ys.length = 0 := by simpa using congrArg List.length hnil
                  have hzb : ((ys.length : Int) == 0) = true := by rw [hz]; rfl
                  have HM5 := Lib.hid hm5
                  have HN := Lib.hid hnone
                  clear hm5 hnone hnil hz
                  go_wp2_with fail
                  refine (drop_any F2 d D2 Y _ (HJ.out.1.disk.mod0 HM5.out) HJ.out.2.ok).mono ?_
                  rw [HA1.out, HA2.out]
                  rintro e w6 ⟨rfl, F6, hd6, hm6, hF6⟩
                  have HD6 := Lib.hid hd6
                  have HM6 := Lib.hid ((HJ.out.1.mod.trans0 HM5.out).trans hm6 fun g hg => .inr (HJ.out.1.far g hg).1)
                  clear hd6 hm6 hF6
                  go_wp2_with fail
                  refine (replay_any F6 d D3 X _ HD6.out HDO.out).mono ?_
                  rintro e w7 hp7
                  unfold RpPost at hp7
                  rw [if_pos (by omega), HDF.out, HN.out] at hp7
                  dsimp only at hp7
                  obtain ⟨rfl, hm7⟩ := hp7
                  have HM7 := Lib.hid (HM6.out.trans0 hm7)
                  clear hm7
                  go_wp2_with fail
                  go_ret
                  exact ⟨rfl, HM7.out⟩
                · rw [hf] at hp5
                  dsimp only at hp5
                  obtain ⟨A5, k5, c5, gs, rfl, hrow5, hgl, hm5⟩ := hp5
                  rw [hrep] at hgl
                  have HM5 := Lib.hid hm5
                  have HROW5 := Lib.hid hrow5
                  have HGL := Lib.hid hgl
                  have HF := Lib.hid hf
                  have HREP := Lib.hid hrep
                  have hyn : ys.length ≠ 0 := fun e => hne (by simpa using e)
                  have hzb : ((ys.length : Int) == 0) = false := beq_eq_false_iff_ne.2 (by omega)
                  clear hm5 hrow5 hgl hf hrep hne hyn
                  go_wp2_with fail
                  refine (drop_any F2 d D2 Y _ (HJ.out.1.disk.mod0 HM5.out) HJ.out.2.ok).mono ?_
                  rw [HA1.out, HA2.out]
                  rintro e w6 ⟨rfl, F6, hd6, hm6, hF6⟩
                  have HD6 := Lib.hid hd6
                  have HM56 := Lib.hid hm6
                  have HM6 := Lib.hid ((HJ.out.1.mod.trans0 HM5.out).trans hm6 fun g hg => .inr (HJ.out.1.far g hg).1)
                  clear hd6 hm6 hF6
                  go_wp2_with fail
                  refine (replay_any F6 d D3 X _ HD6.out HDO.out).mono ?_
                  rintro e w7 hp7
                  unfold RpPost at hp7
                  rw [if_pos (by omega), HDF.out, HF.out] at hp7
                  dsimp only at hp7
                  obtain ⟨A7, k7, c7, hs, rfl, hrow7, hhl, hm7⟩ := hp7
                  rw [HREP.out] at hhl
                  have HM7 := Lib.hid hm7
                  have HM07 := Lib.hid (HM6.out.trans0 hm7)
                  have HROW7 := Lib.hid hrow7
                  have HHL := Lib.hid hhl
                  clear hm7 hrow7 hhl
                  go_wp2_with fail
                  have hfl2 := HJ.out.1.disk.flt
                  have HS1 : Hid (RdS w7 A5 k5 gs) := by
                    refine ⟨(HROW5.out.rd.mod HM56.out fun _ g hg h => by have := HROW5.out.own g hg; have := hfl2 g h; omega).mod0 HM7.out, fun x hx => ((HROW5.out.rows x hx).1.mod HM56.out fun _ g hg h => by have := (HROW5.out.rows x hx).2.1 g hg; have := hfl2 g h; omega).mod0 HM7.out⟩
                  have hown7 := own_mod (S := Non) (own_mod (S := F2) (own_mod (S := Non) HOWN2.out HM5.out (fun _ _ h => h)) HM56.out (fun g hg h => (HJ.out.1.far g h).2 hg)) HM7.out (fun _ _ h => h)
                  have HS2 : Hid (RdS w7 Av ys.length ys) := ⟨Rd.of_own hown7, fun x hx => (HX.out.2 x (HJ.out.1.ys x hx)).mod0 HM07.out⟩
                  have hk5 := HROW5.out.nc
                  have hk5m := HROW5.out.cm
                  have hk7 := HROW7.out.nc
                  have hk7m := HROW7.out.cm
                  refine (same_any A5 Av k5 ys.length c5 cv gs ys _ HS1.out HS2.out (by omega) (by omega)).mono ?_
                  rw [decide_eq_true HGL.out]
                  rintro e w8 ⟨rfl, hm8⟩
                  have HM8 := Lib.hid hm8
                  have HM08 := Lib.hid (HM07.out.trans0 hm8)
                  clear hm8 hown7
                  go_wp2_with fail
                  refine (same_any A7 Av k7 ys.length c7 cv hs ys _ (HROW7.out.rds.mod0 HM8.out) (HS2.out.mod0 HM8.out) (by omega) (by omega)).mono ?_
                  rw [decide_eq_true HHL.out]
                  rintro e w9 ⟨rfl, hm9⟩
                  have HM9 := Lib.hid (HM08.out.trans0 hm9)
                  have HD9 := Lib.hid (((HD6.out.mod0 HM7.out).mod0 HM8.out).mod0 hm9)
                  clear hm9
                  go_wp2_with fail
                  refine (segs_any F6 d D3 _ HD9.out HDO.out (fun f hf => ⟨X.toNat, by omega, by rw [HDN.out f hf, nameW_yes hX0 (by omega)]⟩)).mono ?_
                  rintro e w10 ⟨As, ns, cs, L, us, rfl, hL, hLu, hub, hrs, hns, hcs, hbs, hm10⟩
                  have hLs := names_single HDO.out HDN.out (HDF.out.trans HF.out) hL
                  have hus : us = [X.toNat] := by
                    rw [hLs, nameW_yes hX0 (by omega)] at hLu
                    cases us with
                    | nil => cases hLu
                    | cons u r =>
                      simp only [List.map_cons, List.cons.injEq] at hLu
                      have h1 := walName_inj (by omega) (hub u (.head _)) hLu.1
                      have h2 : r = [] := by simpa using hLu.2.symm
                      rw [h1, h2]
                  have hrs' : Rd w10 As ns ([X].map i64c) := by
                    rw [hus] at hrs
                    simpa [Int.toNat_of_nonneg hX0] using hrs
                  have HRS := Lib.hid hrs'
                  have HM10 := Lib.hid (HM9.out.trans0 hm10)
                  clear hL hLu hub hrs hm10 hLs hus hrs'
                  go_wp2_with fail
                  refine (sameInts_any As (some ⟨w10.heap.size, 0, none⟩) ns 1 cs 1 [X] [X] _ (HRS.out.alloc _) (one_int w10 3 X) (by omega) (by omega)).mono ?_
                  rw [decide_eq_true rfl]
                  rintro e w11 ⟨rfl, hm11⟩
                  have HM11 := Lib.hid ((HM10.out.alloc (.cells #[.int .i64 X] 3)).trans0 hm11)
                  clear hm11
                  go_wp2_with fail
                  go_ret
                  exact ⟨rfl, HM11.out⟩

end Go.Proofs.YtgdamcimpgapgaaGreatDoor
