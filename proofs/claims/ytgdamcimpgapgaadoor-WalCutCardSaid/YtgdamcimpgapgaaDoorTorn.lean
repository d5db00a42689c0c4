/- sawyerlaw05.WalTorn: the walk. -/
import Derived.Test.YtgdamcimpgapgaaDoorAwake
namespace Go.Proofs.YtgdamcimpgapgaaDoor
open Go.RowKit

theorem DiskIs.flt {w : World} {F : Nat → Prop} {d : Nat} {D : Dk} (h : DiskIs w F d D) : ∀ k, F k → k < w.heap.size := by
  obtain ⟨_, _, _, _, _, _, _, _, h⟩ := h; exact h
theorem RowS.rds {w : World} {base : Nat} {A : Option Addr} {n c : Nat} {xs : List Bs} (h : RowS w base A n c xs) : RdS w A n xs := ⟨h.rd, fun x hx => (h.rows x hx).1⟩
theorem RdS.take {w : World} {A : Option Addr} {n : Nat} {xs : List Bs} (h : RdS w A n xs) {k : Nat} (hk : k ≤ n) : RdS w A k (xs.take k) :=
  ⟨by rw [List.map_take]; exact h.1.take hk, fun x hx => h.2 x (List.mem_of_mem_take hx)⟩

set_option maxRecDepth 100000 in
set_option maxHeartbeats 1000000 in
theorem torn_big (A B : Option Addr) (n c m k : Nat) (w : World) (hL : Lay w) (hm : 4096 < m) (hm2 : m ≤ 9223372036854775807) :
    Calls Tryd.prog 3 #[.slice A n c, .slice B m k] w fun e w' => e = .returned (.bool true) ∧ Mod Non w w' := by
  have HL := Lib.hid hL
  clear hL
  go_enter Tryd.func3, Tryd.ntmps3
  go_wp2_with (first
    | (go_at_call 6; refine (awake_any _ HL.out).mono ?_; rintro e w1 ⟨rfl, hm1⟩; have HM1 := Lib.hid hm1)
    | (go_at_call 7; refine (new_yes 1099511627776 _ (HL.out.mod0 HM1.out) (by omega) (by omega)).mono ?_; rintro e w2 ⟨d, F, rfl, hd2, hb2, hF2⟩; have HM2 := Lib.hid (HM1.out.trans0 (Mod.of_below hb2)); clear hd2 hb2 hF2))
  go_ret
  exact ⟨rfl, HM2.out⟩

set_option maxRecDepth 100000 in
set_option maxHeartbeats 1000000 in
theorem torn_any (A B : Option Addr) (n c m k : Nat) (xs : List Bs) (tail : List UInt8) (w : World) (hL : Lay w) (hx : RdS w A n xs) (hy : Rd w B m (by8 tail)) (hm : m ≤ 4096) (hn : n ≤ 9223372036854775807) (hl : ∀ x ∈ xs, x.n ≤ 9223372036854775807) :
    Calls Tryd.prog 3 #[.slice A n c, .slice B m k] w fun e w' => e = .returned (.bool true) ∧ Mod Non w w' := by
  have hty : tail.length = m := by simpa using hy.1
  have HTY := Lib.hid hty
  have HL := Lib.hid hL
  have HX := Lib.hid hx
  have HY := Lib.hid hy
  have hlx : xs.length = n := by simpa using hx.1.1
  have HLX := Lib.hid hlx
  clear hL hx hy hlx hty
  go_enter Tryd.func3, Tryd.ntmps3
  go_wp2_with (first
    | (go_at_call 6; refine (awake_any _ HL.out).mono ?_; rintro e w1 ⟨rfl, hm1⟩; have HM1 := Lib.hid hm1)
    | (go_at_call 7; refine (new_yes 1099511627776 _ (HL.out.mod0 HM1.out) (by omega) (by omega)).mono ?_; rintro e w2 ⟨d, F, rfl, hd2, hb2, hF2⟩; have HM2 := Lib.hid (HM1.out.trans0 (Mod.of_below hb2)); have HD2 := Lib.hid hd2; have HF2 := Lib.hid hF2; clear hd2 hb2 hF2))
  have hs1 := HM1.out.size
  have HF2' : Hid (∀ g, F g → w.heap.size ≤ g) := fun g hg => by have := HF2.out g hg; omega
  clear hs1 hm1 HF2
  go_loopw [8, 9] (fun v i wr => ∃ (q : Nat) (F' : Nat → Prop) (D' : Dk) (ys : List Bs), q ≤ n ∧ q ≤ 20 ∧ i = .int .i64 q ∧ Hid (DiskIs wr F' d D' ∧ DkOk D' ∧ Calm D' ∧ D'.n = 1099511627776 ∧ D'.used ≤ 2000000 * (q : Int) ∧ fileB D' (nameW 3) = framesB (ys.map (·.l)) ∧ Mod Non w wr ∧
      (∀ x ∈ ys, x ∈ xs ∧ x.l.length ≤ 1048576) ∧ (∀ g, F' g → w.heap.size ≤ g ∧ v.ownBlock ≠ some g)) ∧ wr.ownsRow w.heap.size 23 1 v ys.length (ys.map Bs.val) ∧ ys.length ≤ q) (fun _ i _ => n - (intOf i).toNat)
  case atStart =>
    exact ⟨0, F, newD 1099511627776, [], Nat.zero_le _, by omega, rfl, ⟨HD2.out, newD_ok (by omega) (by omega), newD_calm _, rfl, by simp [newD], rfl, HM2.out, by simp, fun g hg => ⟨HF2'.out g hg, by simp [Value.ownBlock]⟩⟩, World.ownsRow_nil _ _ _ _, by simp⟩
  case round =>
    obtain ⟨q, F', D', ys, hqn, hq20, rfl, HINV, hown, hyl⟩ := hrel
    obtain ⟨Av, cv, rfl, hcv, hcv2⟩ := own_slice hown
    by_cases hlt : q < n ∧ q < 20
    · obtain ⟨hlt, hlt20⟩ := hlt
      obtain ⟨b, o, p, rfl, hp, hc, hr⟩ := (HX.out.mod0 HINV.out.2.2.2.2.2.2.1).at_ hlt
      obtain ⟨hD, hok, hcal, hn40, hused, hfile, hmod, hys, hF'⟩ := HINV.out
      have HMOD := Lib.hid hmod
      have HYS := Lib.hid hys
      have HFF := Lib.hid hF'
      have HD := Lib.hid hD
      have hpx : p ∈ xs := List.mem_of_getElem? hp
      have HPX := Lib.hid hpx
      have hpn := hl p hpx
      obtain ⟨pA, pn, pc, pl⟩ := p
      simp only [Bs.val] at hc hr hpn
      have hpl : pl.length = pn := by simpa using hr.1
      have HPL := Lib.hid hpl
      have hrow := hown.lt
      have HOWN := Lib.hid hown
      have hrw : wr.heap.size ≥ w.heap.size := hmod.size
      have HXr := Lib.hid (HX.out.1.mod0 hmod)
      have hc0 := HX.out.1.at_ hlt
      obtain ⟨b0, o0, hbo, u0, hu0, hcw⟩ := hc0
      cases hbo
      have hb0 : b < w.heap.size := World.block_lt_of_cell? w ⟨b, o + q, none⟩ hcw
      clear hcw hu0 hD hmod hys hF' hpx hp hpl hown HINV
      by_cases hsm : pn ≤ 1048576
      · have hneed : needW D' 3 pl ≤ 1200000 := by
          have h1 := frameB_len (b := pl) (by rw [HPL.out]; exact hsm)
          have h2 := nameW_size 3
          rw [HPL.out] at h1
          unfold needW
          split <;> omega
        obtain ⟨a0, a1⟩ := add_grew hcal hok (n := 3) (by omega) (by omega) (b := pl) (by rw [HPL.out]; exact hsm) (by omega)
        have a2 := add_ok hok 3 pl
        obtain ⟨D2, hD2⟩ : ∃ D2, (addB D' 3 pl).1 = D2 := ⟨_, rfl⟩
        rw [hD2] at a1 a2
        have HA1 : Hid ((addB D' 3 pl).1 = D2) := hD2
        have HA2 : Hid ((addB D' 3 pl).2 = 0) := a0
        have HG := Lib.hid a1
        have HO2 := Lib.hid a2
        have HFI := Lib.hid hfile
        have HO := Lib.hid hok
        have HR := Lib.hid hr
        have h40 := a1.n
        have hus2 := a1.used
        clear a0 a1 a2 hD2 hfile hok hcal hr
        go_wp2_with (first
          | (go_at_call 8
             refine (add_wal F' d D' 3 pA pn pc pl _ HD.out HO.out HR.out hpn).mono ?_
             rw [HA1.out, HA2.out]
             rintro e w5 ⟨rfl, F5, hd5, hm5, hF5⟩
             have HD5 := Lib.hid hd5
             have HM5 := Lib.hid hm5
             have HF5 := Lib.hid hF5
             have hsz5 := hm5.size
             clear hd5 hm5 hF5
             have hc5 : w5.cell? ⟨b, o + q, none⟩ = some (.slice pA pn pc) := HM5.out.cell hc (fun h => by have := (HFF.out _ h).1; simp only at this; omega)
             have hown5 := own_mod (S := F') HOWN.out HM5.out (fun g hg h => (HFF.out g h).2 hg)
             have HONE := Lib.hid (one_row w5 23 ⟨pA, pn, pc, pl⟩))
          | (at_builtin
             refine wpList_appS Tryd.underlying22 rowT _ rfl (.tmp 51) (.tmp 56) rfl w.heap.size (.slice Av ys.length cv) ys.length ys rfl (hown5.alloc _) _ 1 1 [⟨pA, pn, pc, pl⟩] rfl HONE.out (by omega) (by simp; omega) ?_
             intro A' c' w' hc' hcm' hown' hg' hat'))
        have hM5a : Mod F' wr (w5.alloc (.cells #[.slice pA pn pc] 23)) := HM5.out.alloc _
        have hmg : Mod (fun g => (Value.slice Av ys.length cv).ownBlock = some g) (w5.alloc (.cells #[.slice pA pn pc] 23)) w' := Mod.of_grown hg' fun _ h => h
        have hnF : ∀ g, F5 g → (Value.slice Av ys.length cv).ownBlock ≠ some g := fun g hg h => by
          rcases HF5.out g hg with h2 | h2
          · exact (HFF.out g h2).2 h
          · have := (hrow g h).2; omega
        have hlt5 := HD5.out.flt
        have hD6 : DiskIs w' F5 d D2 := (HD5.out.mod0 ((Mod.refl Non w5).alloc (.cells #[.slice pA pn pc] 23))).mod hmg (fun g hg h => hnF g hg h) (fun h => by have := (hrow _ h).1; have := HL.out.lt; omega)
        go_roundw
        case rel =>
          refine ⟨q + 1, F5, D2, ys ++ [⟨pA, pn, pc, pl⟩], by omega, by omega, by go_num, ⟨hD6, HO2.out, HG.out.calm, by omega, by push_cast; omega, ?_, ?_, ?_, ?_⟩, by simpa using hown', by simp; omega⟩
          · obtain ⟨st, hst⟩ := HG.out.file
            rw [fileB_of hst, List.map_append, framesB_append, HFI.out]
            simp [framesB]
          · exact ((HMOD.out.trans hM5a fun g hg => .inr (HFF.out g hg).1).trans hmg fun g hg => .inr (hrow g hg).1)
          · intro x hx
            rcases List.mem_append.1 hx with hx | hx
            · exact HYS.out x hx
            · simp only [List.mem_singleton] at hx
              subst hx
              exact ⟨HPX.out, by simp only; rw [HPL.out]; exact hsm⟩
          · intro g hg
            refine ⟨?_, fun h => ?_⟩
            · rcases HF5.out g hg with h2 | h2
              · exact (HFF.out g h2).1
              · omega
            · have h3 : blkOf A' = some g := by cases A' <;> exact h
              rcases hat' with h4 | h4
              · rw [h4] at h3; exact hnF g hg h3
              · rw [h4] at h3
                cases h3
                have := hlt5 _ hg
                simp at this
                omega
        case measure => simp [intOf]; omega
      · have HA1 : Hid ((addB D' 3 pl).1 = D') := by show _ = _; rw [add_big (by rw [HPL.out]; omega)]
        have HA2 : Hid ((addB D' 3 pl).2 = 1) := by show _ = _; rw [add_big (by rw [HPL.out]; omega)]
        have HFI := Lib.hid hfile
        have HO := Lib.hid hok
        have HR := Lib.hid hr
        have HC := Lib.hid hcal
        clear hfile hok hcal hr
        go_wp2_with (first
          | (go_at_call 8
             refine (add_wal F' d D' 3 pA pn pc pl _ HD.out HO.out HR.out hpn).mono ?_
             rw [HA1.out, HA2.out]
             rintro e w5 ⟨rfl, F5, hd5, hm5, hF5⟩
             have HD5 := Lib.hid hd5
             have HM5 := Lib.hid hm5
             have HF5 := Lib.hid hF5
             have hsz5 := hm5.size
             clear hd5 hm5 hF5))
        have hown5 := own_mod (S := F') HOWN.out HM5.out (fun g hg h => (HFF.out g h).2 hg)
        go_roundw
        case rel =>
          refine ⟨q + 1, F5, D', ys, by omega, by omega, by go_num, ⟨HD5.out, HO.out, HC.out, hn40, by push_cast; omega, HFI.out, HMOD.out.trans HM5.out fun g hg => .inr (HFF.out g hg).1, HYS.out, fun g hg => ?_⟩, hown5, by omega⟩
          rcases HF5.out g hg with h2 | h2
          · exact HFF.out g h2
          · exact ⟨by omega, fun h => by have := (hrow g h).2; omega⟩
        case measure => simp [intOf]; omega
    · obtain ⟨hD, hok, hcal, hn40, hused, hfile, hmod, hys, hF'⟩ := HINV.out
      have hnm := nameW_named (n := 3) (by omega) (by omega)
      have hsz3 := nameW_size 3
      have hmore : moreA D' (nameW 3) tail.length ≤ 5000 := by
        unfold moreA
        rw [HTY.out]
        split <;> omega
      obtain ⟨e0, e1⟩ := append_grew hcal hnm (b := tail) (by rw [HTY.out]; exact hm) (by omega)
      have e2 := appendD_ok hok (nameW 3) tail
      obtain ⟨D2, hD2⟩ : ∃ D2, appendD D' (nameW 3) tail = D2 := ⟨_, rfl⟩
      rw [hD2] at e1 e2
      have HA1 := Lib.hid hD2
      have HA2 := Lib.hid e0
      have HG := Lib.hid e1
      have HO2 := Lib.hid e2
      have HO := Lib.hid hok
      have HMOD := Lib.hid hmod
      have HFF := Lib.hid hF'
      have HD := Lib.hid hD
      have hrep : Hid (replayB (fileB D' (nameW 3) ++ tail) = ys.map (·.l) ++ replayB tail) := by
        show _ = _
        rw [hfile, replayB_frames _ _ (fun b hb => by
          obtain ⟨x, hx, rfl⟩ := List.mem_map.1 hb
          exact (hys x hx).2)]
      have HYd : Hid (∀ W, Mod Non w W → ∀ x ∈ ys, Rd W x.A x.n (by8 x.l)) := fun W hW x hx => (HX.out.2 x (hys x hx).1).mod0 hW
      have HRT : Hid (∀ W, Mod Non w W → RdO W F' B m (by8 tail)) := fun W hW => ⟨HY.out.mod0 hW, fun hm0 g hg hs => by
        obtain ⟨g', hg', hlt'⟩ := HY.out.lt hm0
        rw [hg] at hg'
        cases hg'
        have := (hF' g hs).1
        omega⟩
      have HOWN := Lib.hid hown
      have hsw := hmod.size
      clear hD hok hcal hn40 hused hfile hmod hys hF' e0 e1 e2 hD2 hown HINV hmore
      have hyn : ys.length ≤ 20 := by omega
      by_cases hlt1 : q < n
      · have hq : q = 20 := by omega
        subst hq
        go_wp2_with fail
        refine (name_any 3 _ HD.out.lay).mono ?_
        rintro e w3 ⟨rfl, hm3⟩
        have HM3 := Lib.hid hm3
        clear hm3
        go_wp2_with fail
        refine (append_any F' d D' (nameW 3) B m k tail _ (HD.out.mod0 HM3.out) HO.out (HRT.out _ (HMOD.out.trans0 HM3.out)) (by omega)).mono ?_
        rw [HA1.out, HA2.out]
        rintro e w4 ⟨rfl, F4, hd4, hm4, hF4⟩
        have HD4 := Lib.hid hd4
        have HM4 := Lib.hid (HM3.out.non.trans hm4 (S := F') fun _ h => .inl h)
        clear hd4 hm4 hF4
        go_wp2_with fail
        refine (replay_any F4 d D2 3 _ HD4.out HO2.out).mono ?_
        rintro e w5 hp
        unfold RpPost at hp
        obtain ⟨st, hst⟩ := HG.out.file
        rw [if_pos (by omega), hst] at hp
        dsimp only at hp
        obtain ⟨A5, k5, c5, zs, rfl, hrow5, hzl, hm5⟩ := hp
        rw [hrep.out] at hzl
        have HM5 : Hid (Mod Non w w5) := (HMOD.out.trans HM4.out fun g hg => .inr (HFF.out g hg).1).trans0 hm5
        have hown5 := own_mod (own_mod (S := F') HOWN.out HM4.out (fun g hg h => (HFF.out g h).2 hg)) hm5 (fun _ _ h => h)
        have hzk : zs.length = k5 := by simpa using hrow5.rd.1
        have hyk : ys.length ≤ k5 := by
          have := congrArg List.length hzl
          simp at this
          omega
        have htk : (zs.take ys.length).map (·.l) = ys.map (·.l) := by
          rw [List.map_take, hzl, List.take_append_of_le_length (by simp), List.take_of_length_le (by simp)]
        have hk5 := hrow5.nc
        have hc5m := hrow5.cm
        have HT := Lib.hid htk
        have HS1 := Lib.hid (hrow5.rds.take hyk)
        have HS2 : Hid (RdS w5 Av ys.length ys) := ⟨Rd.of_own hown5, fun x hx => HYd.out _ HM5.out x hx⟩
        have i1 : (ys.length : Int) ≤ (k5 : Int) := by omega
        have i2 : (ys.length : Int) ≤ (c5 : Int) := by omega
        have i3 : (0 : Int) ≤ (ys.length : Int) := by omega
        clear hzl hzk hown5 hrow5 hst hm5 htk
        go_wp2_with fail
        refine (same_any A5 Av ys.length ys.length c5 cv _ ys _ HS1.out HS2.out (by omega) (by omega)).mono ?_
        rw [HT.out]
        rintro e w6 ⟨rfl, hm6⟩
        have HM6 := Lib.hid (HM5.out.trans0 hm6)
        clear hm6
        rw [decide_eq_true rfl]
        go_wp2_with fail
        go_ret
        exact ⟨rfl, HM6.out⟩
      · obtain rfl : q = n := by omega
        go_wp2_with fail
        refine (name_any 3 _ HD.out.lay).mono ?_
        rintro e w3 ⟨rfl, hm3⟩
        have HM3 := Lib.hid hm3
        clear hm3
        go_wp2_with fail
        refine (append_any F' d D' (nameW 3) B m k tail _ (HD.out.mod0 HM3.out) HO.out (HRT.out _ (HMOD.out.trans0 HM3.out)) (by omega)).mono ?_
        rw [HA1.out, HA2.out]
        rintro e w4 ⟨rfl, F4, hd4, hm4, hF4⟩
        have HD4 := Lib.hid hd4
        have HM4 := Lib.hid (HM3.out.non.trans hm4 (S := F') fun _ h => .inl h)
        clear hd4 hm4 hF4
        go_wp2_with fail
        refine (replay_any F4 d D2 3 _ HD4.out HO2.out).mono ?_
        rintro e w5 hp
        unfold RpPost at hp
        obtain ⟨st, hst⟩ := HG.out.file
        rw [if_pos (by omega), hst] at hp
        dsimp only at hp
        obtain ⟨A5, k5, c5, zs, rfl, hrow5, hzl, hm5⟩ := hp
        rw [hrep.out] at hzl
        have HM5 : Hid (Mod Non w w5) := (HMOD.out.trans HM4.out fun g hg => .inr (HFF.out g hg).1).trans0 hm5
        have hown5 := own_mod (own_mod (S := F') HOWN.out HM4.out (fun g hg h => (HFF.out g h).2 hg)) hm5 (fun _ _ h => h)
        have hzk : zs.length = k5 := by simpa using hrow5.rd.1
        have hyk : ys.length ≤ k5 := by
          have := congrArg List.length hzl
          simp at this
          omega
        have htk : (zs.take ys.length).map (·.l) = ys.map (·.l) := by
          rw [List.map_take, hzl, List.take_append_of_le_length (by simp), List.take_of_length_le (by simp)]
        have hk5 := hrow5.nc
        have hc5m := hrow5.cm
        have HT := Lib.hid htk
        have HS1 := Lib.hid (hrow5.rds.take hyk)
        have HS2 : Hid (RdS w5 Av ys.length ys) := ⟨Rd.of_own hown5, fun x hx => HYd.out _ HM5.out x hx⟩
        have i1 : (ys.length : Int) ≤ (k5 : Int) := by omega
        have i2 : (ys.length : Int) ≤ (c5 : Int) := by omega
        have i3 : (0 : Int) ≤ (ys.length : Int) := by omega
        clear hzl hzk hown5 hrow5 hst hm5 htk
        go_wp2_with fail
        refine (same_any A5 Av ys.length ys.length c5 cv _ ys _ HS1.out HS2.out (by omega) (by omega)).mono ?_
        rw [HT.out]
        rintro e w6 ⟨rfl, hm6⟩
        have HM6 := Lib.hid (HM5.out.trans0 hm6)
        clear hm6
        rw [decide_eq_true rfl]
        go_wp2_with fail
        go_ret
        exact ⟨rfl, HM6.out⟩

end Go.Proofs.YtgdamcimpgapgaaDoor
