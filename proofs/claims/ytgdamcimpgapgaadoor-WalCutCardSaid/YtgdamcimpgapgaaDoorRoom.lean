/- (*Disk).Ops; the law WalRoom: the walk. -/
import Derived.Test.YtgdamcimpgapgaaDoorTorn
namespace Go.Proofs.YtgdamcimpgapgaaDoor
open Go.RowKit

theorem and_mask (n : Int) (j : Nat) (hj : j ≤ 62) : bits .and .i64 n ((2 ^ j - 1 : Nat) : Int) = n % ((2 ^ j : Nat) : Int) := by
  have hp : 2 ^ j ≤ 2 ^ 62 := Nat.pow_le_pow_right (by omega) hj
  have hpos : 0 < 2 ^ j := Nat.two_pow_pos j
  have hm : (BitVec.ofInt 64 ((2 ^ j - 1 : Nat) : Int)).toNat = 2 ^ j - 1 := by
    rw [BitVec.ofInt_natCast, BitVec.toNat_ofNat, Nat.mod_eq_of_lt (by omega)]
  have key : (BitVec.ofInt 64 n &&& BitVec.ofInt 64 ((2 ^ j - 1 : Nat) : Int)).toNat = (n % ((2 ^ 64 : Nat) : Int)).toNat % 2 ^ j := by
    rw [BitVec.toNat_and, BitVec.toNat_ofInt, hm, Nat.and_two_pow_sub_one_eq_mod]
  show IntKind.i64.wrap ((BitVec.ofInt 64 n &&& BitVec.ofInt 64 ((2 ^ j - 1 : Nat) : Int)).toNat : Nat) = _
  rw [key]
  have hlt : (n % ((2 ^ 64 : Nat) : Int)).toNat % 2 ^ j < 2 ^ j := Nat.mod_lt _ hpos
  rw [IntWalk.i64_in _ (by constructor <;> omega)]
  have h0 : 0 ≤ n % ((2 ^ 64 : Nat) : Int) := Int.emod_nonneg _ (by decide)
  have hd : ((2 ^ j : Nat) : Int) ∣ ((2 ^ 64 : Nat) : Int) := Int.natCast_dvd_natCast.2 (Nat.pow_dvd_pow 2 (by omega))
  rw [Int.natCast_emod, Int.toNat_of_nonneg h0, Int.emod_emod_of_dvd _ hd]
theorem and8191 (n : Int) : bits .and .i64 n 8191 = n % 8192 := and_mask n 13 (by omega)
theorem and65535 (n : Int) : bits .and .i64 n 65535 = n % 65536 := and_mask n 16 (by omega)
theorem and63 (n : Int) : bits .and .i64 n 63 = n % 64 := and_mask n 6 (by omega)

set_option maxRecDepth 100000 in
set_option maxHeartbeats 400000 in
theorem load_any (d i : Nat) (x : Int) (w : World) (hc : w.cell? ⟨d, i, none⟩ = some (.int .i64 x)) :
    Calls Tryd.prog 35 #[.pointer (some ⟨d, i, none⟩)] w fun e w' => e = .returned (.int .i64 x) ∧ w = w' := by
  have hld := run_call_load (P := Tryd.prog) Tryd.func55 (by kernel_rfl) (by kernel_rfl) (by kernel_rfl) .i64 (by kernel_rfl) hc
  go_enter Tryd.func35, Tryd.ntmps35
  go_wp2
  go_ret
  exact ⟨rfl, rfl⟩

set_option maxRecDepth 100000 in
set_option maxHeartbeats 400000 in
theorem ops_any (F : Nat → Prop) (d : Nat) (D : Dk) (w : World) (h : DiskIs w F d D) :
    Calls Tryd.prog 14 #[.pointer (some ⟨d, 0, none⟩)] w fun e w' => e = .returned (.int .i64 D.done) ∧ w = w' := by
  obtain ⟨G, m, kvs, hA, _⟩ := h
  have c2 : w.cell? ⟨d, 2, none⟩ = some (.map (some m)) := hA.blk.cell 2
  have c3 : w.cell? ⟨d, 3, none⟩ = some (.int .i64 D.done) := hA.blk.cell 3
  generalize D.done = done at *
  clear hA
  go_enter Tryd.func14, Tryd.ntmps14
  go_wp2_with (first
    | (go_at_call 34; refine (made_yes d m _ c2).mono ?_; rintro e w' ⟨rfl, rfl⟩)
    | (go_at_call 35; refine (load_any d 3 done _ c3).mono ?_; rintro e w' ⟨rfl, rfl⟩))
  go_ret
  exact ⟨rfl, rfl⟩

set_option maxRecDepth 100000 in
set_option maxHeartbeats 1000000 in
theorem room_any (n fr : Int) (B : Option Addr) (m c : Nat) (b : List UInt8) (w : World) (hL : Lay w) (hy : Rd w B m (by8 b)) (hm : m ≤ 9223372036854775807) :
    Calls Tryd.prog 4 #[.int .i64 n, .slice B m c, .int .i64 fr] w fun e w' => e = .returned (.bool true) ∧ Mod Non w w' := by
  have hbl : b.length = m := by simpa using hy.1
  obtain ⟨x, hx⟩ : ∃ x, fr % 8192 = x := ⟨_, rfl⟩
  obtain ⟨k, hk⟩ : ∃ k, n % 65536 = k := ⟨_, rfl⟩
  have hx0 : 0 ≤ x := by omega
  have hx1 : x < 8192 := by omega
  have hk0 : 0 ≤ k := by omega
  have hk1 : k < 65536 := by omega
  have hax : bits .and .i64 fr 8191 = x := by rw [and8191, hx]
  have hak : bits .and .i64 n 65535 = k := by rw [and65535, hk]
  have HBL := Lib.hid hbl
  have HL := Lib.hid hL
  have HY := Lib.hid hy
  have hok := newD_ok (n := x) (by omega) (by omega)
  have HOK := Lib.hid hok
  clear hbl hL hy hx hk hok
  by_cases hbig : 100000 < m
  · go_enter Tryd.func4, Tryd.ntmps4
    go_wp2_with (first
      | (go_at_call 6; refine (awake_any _ HL.out).mono ?_; rintro e w1 ⟨rfl, hm1⟩; have HM1 := Lib.hid hm1)
      | (go_at_call 7; refine (new_yes x _ (HL.out.mod0 HM1.out) (by omega) (by omega)).mono ?_; rintro e w2 ⟨d, F, rfl, hd2, hb2, hF2⟩; have HM2 := Lib.hid (HM1.out.trans0 (Mod.of_below hb2)); clear hd2 hb2 hF2))
    go_ret
    exact ⟨rfl, HM2.out⟩
  · obtain ⟨nd, hnd⟩ : ∃ nd, needW (newD x) k b = nd := ⟨_, rfl⟩
    have hnd0 : 0 ≤ nd ∧ nd ≤ 100100 := by
      have h1 := frameB_len (b := b) (by rw [HBL.out]; omega)
      have h2 := nameW_size k
      rw [HBL.out] at h1
      rw [← hnd]
      unfold needW
      split <;> omega
    have HND := Lib.hid hnd
    clear hnd
    by_cases hlt : x < nd
    · have HA : Hid (addB (newD x) k b = (newD x, 4)) := by
        show _ = _
        unfold addB
        rw [if_pos ⟨by omega, by omega, by rw [HBL.out]; omega⟩, if_neg (by simp [newD]), if_pos (by rw [HND.out]; show x - 0 < nd; omega)]
      go_enter Tryd.func4, Tryd.ntmps4
      go_wp2_with (first
        | (go_at_call 6; refine (awake_any _ HL.out).mono ?_; rintro e w1 ⟨rfl, hm1⟩; have HM1 := Lib.hid hm1)
        | (go_at_call 7; refine (new_yes x _ (HL.out.mod0 HM1.out) (by omega) (by omega)).mono ?_; rintro e w2 ⟨d, F, rfl, hd2, hb2, hF2⟩; have HM2 := Lib.hid (HM1.out.trans0 (Mod.of_below hb2)); have HD2 := Lib.hid hd2; have HF2 := Lib.hid hF2; have hs1 := HM1.out.size; clear hd2 hb2 hF2)
        | (go_at_call 13; refine (need_any F d (newD x) k B m c b _ HD2.out (HY.out.mod0 HM2.out) (by omega)).mono ?_; rw [HND.out]; rintro e w3 ⟨rfl, hm3⟩; have HM3 := Lib.hid hm3; clear hm3)
        | (go_at_call 8; refine (add_wal F d (newD x) k B m c b _ (HD2.out.mod0 HM3.out) HOK.out ((HY.out.mod0 HM2.out).mod0 HM3.out) (by omega)).mono ?_; rw [HA.out]; rintro e w4 ⟨rfl, F4, hd4, hm4, hF4⟩; have HD4 := Lib.hid hd4; have HM4 := Lib.hid hm4; clear hd4 hm4 hF4)
        | (go_at_call 14; refine (ops_any F4 d (newD x) _ HD4.out).mono ?_; rintro e w5 ⟨rfl, rfl⟩))
      go_ret
      exact ⟨rfl, (HM2.out.trans0 HM3.out).trans HM4.out fun g hg => .inr (by have := HF2.out g hg; omega)⟩
    · obtain ⟨a0, a1⟩ := add_grew (newD_calm x) HOK.out (n := k) (by omega) (by omega) (b := b) (by rw [HBL.out]; omega) (by rw [HND.out]; show nd ≤ x - 0; omega)
      have a2 := add_ok HOK.out k b
      rw [HND.out] at a1
      obtain ⟨D2, hD2⟩ : ∃ D2, (addB (newD x) k b).1 = D2 := ⟨_, rfl⟩
      rw [hD2] at a1 a2
      have HA1 : Hid ((addB (newD x) k b).1 = D2) := hD2
      have HA2 : Hid ((addB (newD x) k b).2 = 0) := a0
      have HFREE : Hid (D2.n - D2.used = x - nd) := by
        show _ = _
        have h1 := a1.n
        have h2 := a1.used
        simp only [newD] at h1 h2
        omega
      have HREP : Hid (∃ s, findF D2.files (nameW k) = some ⟨nameW k, s, frameB b⟩) := a1.file
      have hrep : Hid (replayB (frameB b) = [b]) := by
        show _ = _
        have := replayB_frame (b := b) (by rw [HBL.out]; omega) []
        rwa [List.append_nil, replayB_nil] at this
      have HO2 := Lib.hid a2
      clear a0 a1 a2 hD2
      have hsub : IntKind.i64.wrap (x - nd) = x - nd := IntWalk.i64_in _ (by omega)
      have hsub2 : wrap64 (x - nd) = x - nd := by unfold wrap64; omega
      go_enter Tryd.func4, Tryd.ntmps4
      go_wp2_with (first
        | (go_at_call 6; refine (awake_any _ HL.out).mono ?_; rintro e w1 ⟨rfl, hm1⟩; have HM1 := Lib.hid hm1)
        | (go_at_call 7; refine (new_yes x _ (HL.out.mod0 HM1.out) (by omega) (by omega)).mono ?_; rintro e w2 ⟨d, F, rfl, hd2, hb2, hF2⟩; have HM2 := Lib.hid (HM1.out.trans0 (Mod.of_below hb2)); have HD2 := Lib.hid hd2; have HF2 := Lib.hid hF2; have hs1 := HM1.out.size; clear hd2 hb2 hF2)
        | (go_at_call 13; refine (need_any F d (newD x) k B m c b _ HD2.out (HY.out.mod0 HM2.out) (by omega)).mono ?_; rw [HND.out]; rintro e w3 ⟨rfl, hm3⟩; have HM3 := Lib.hid hm3; clear hm3)
        | (go_at_call 8; refine (add_wal F d (newD x) k B m c b _ (HD2.out.mod0 HM3.out) HOK.out ((HY.out.mod0 HM2.out).mod0 HM3.out) (by omega)).mono ?_; rw [HA1.out, HA2.out]; rintro e w4 ⟨rfl, F4, hd4, hm4, hF4⟩; have HD4 := Lib.hid hd4; have HM4 := Lib.hid ((HM2.out.trans0 HM3.out).trans hm4 fun g hg => .inr (by have := HF2.out g hg; omega)); clear hd4 hm4 hF4))
      refine (replay_any F4 d D2 k _ HD4.out HO2.out).mono ?_
      rintro e w5 hp
      unfold RpPost at hp
      obtain ⟨st, hst⟩ := HREP.out
      rw [if_pos (by omega), hst] at hp
      dsimp only at hp
      obtain ⟨A5, k5, c5, zs, rfl, hrow5, hzl, hm5⟩ := hp
      rw [hrep.out] at hzl
      have HM5 := Lib.hid (HM4.out.trans0 hm5)
      have HD5 := Lib.hid (HD4.out.mod0 hm5)
      have HZ := Lib.hid hzl
      have HROW := Lib.hid hrow5
      clear hst hrow5 hzl hm5
      go_wp2_with fail
      refine (free_any F4 d D2 _ HD5.out HO2.out).mono ?_
      rw [HFREE.out]
      rintro e w6 ⟨rfl, hq⟩
      have hm6 : Mod Non w5 w6 := by
        obtain ⟨q, rfl⟩ := hq
        exact (Mod.refl Non w5).drewN q
      have HM6 := Lib.hid hm6
      clear hq hm6
      go_wp2_with fail
      have hS1 : RdS (w6.alloc (.cells #[.slice B m c] 23)) A5 k5 zs := (HROW.out.rds.mod0 HM6.out).mod0 ((Mod.refl Non _).alloc _)
      have hS2 : RdS (w6.alloc (.cells #[.slice B m c] 23)) (some ⟨w6.heap.size, 0, none⟩) 1 [⟨B, m, c, b⟩] :=
        ⟨one_row w6 23 ⟨B, m, c, b⟩, fun y hy => by
          simp only [List.mem_singleton] at hy
          subst hy
          exact ((HY.out.mod0 HM5.out).mod0 HM6.out).alloc _⟩
      have hk5 := HROW.out.nc
      have hk6 := HROW.out.cm
      refine (same_any A5 (some ⟨w6.heap.size, 0, none⟩) k5 1 c5 1 zs [⟨B, m, c, b⟩] _ hS1 hS2 (by omega) (by omega)).mono ?_
      rw [show zs.map (·.l) = ([⟨B, m, c, b⟩] : List Bs).map (·.l) from HZ.out, decide_eq_true rfl]
      rintro e w7 ⟨rfl, hm7⟩
      have HM7 := Lib.hid (((HM5.out.trans0 HM6.out).alloc (.cells #[.slice B m c] 23)).trans0 hm7)
      clear hm7 hS1 hS2
      go_wp2_with fail
      go_ret
      exact ⟨rfl, HM7.out⟩

end Go.Proofs.YtgdamcimpgapgaaDoor
