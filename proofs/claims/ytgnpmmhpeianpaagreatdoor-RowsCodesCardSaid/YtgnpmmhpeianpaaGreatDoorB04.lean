/- The number of one bits, byte by byte: plain. -/
import Derived.Lib.BitFns
import Derived.WalkKit
import Derived.Laws.BitsLemmas
import Derived.IntWalk
import Derived.Test.YtgnpmmhpeianpaaGreatDoorB01
import Derived.Test.YtgnpmmhpeianpaaGreatDoorChecked
namespace Go.Proofs.YtgnpmmhpeianpaaGreatDoor
open Go.Lib

theorem and_step (q b M m : Nat) (hb : b < 256) (hm : m < 256) : (256 * q + b) &&& (256 * M + m) = 256 * (q &&& M) + (b &&& m) := by
  have hd : ((256 * q + b) &&& (256 * M + m)) / 2 ^ 8 = q &&& M := by
    rw [Nat.and_div_two_pow]
    congr 1 <;> omega
  have hr : ((256 * q + b) &&& (256 * M + m)) % 2 ^ 8 = b &&& m := by
    rw [Nat.and_mod_two_pow]
    congr 1 <;> omega
  have := Nat.div_add_mod ((256 * q + b) &&& (256 * M + m)) (2 ^ 8)
  rw [hd, hr] at this
  exact this.symm

/-- a mask of k bytes. -/
def maskR : Nat → Nat → Nat
  | 0, _ => 0
  | k + 1, m => 256 * maskR k m + m
def F1 (k x : Nat) : Nat := ((x / 2) &&& maskR k 85) + (x &&& maskR k 85)
def F2 (k x : Nat) : Nat := ((x / 4) &&& maskR k 51) + (x &&& maskR k 51)
def F4 (k x : Nat) : Nat := (x / 16 + x) &&& maskR k 15
def f1 (b : Nat) : Nat := ((b / 2) &&& 85) + (b &&& 85)
def f2 (b : Nat) : Nat := ((b / 4) &&& 51) + (b &&& 51)

theorem bit85 : ∀ (c : Fin 2) (d : Fin 128), (128 * c.val + d.val) &&& 85 = d.val &&& 85 := by decide +kernel
theorem bit51 : ∀ (c : Fin 4) (d : Fin 64), (64 * c.val + d.val) &&& 51 = d.val &&& 51 := by decide +kernel
theorem f1_lt : ∀ b : Fin 256, f1 b.val < 256 := by decide +kernel
theorem f21_ok : ∀ b : Fin 256, f2 (f1 b.val) ≤ 68 ∧ f2 (f1 b.val) % 16 ≤ 4 ∧ (f2 (f1 b.val) / 16 + f2 (f1 b.val)) % 16 = onesCount b.val := by decide +kernel

theorem F1_step (k q b : Nat) (hb : b < 256) : F1 (k + 1) (256 * q + b) = 256 * F1 k q + f1 b := by
  unfold F1 f1
  have h1 : (256 * q + b) / 2 = 256 * (q / 2) + (128 * (q % 2) + b / 2) := by omega
  have h2 := bit85 ⟨q % 2, by omega⟩ ⟨b / 2, by omega⟩
  simp only at h2
  rw [maskR, h1, and_step _ _ _ _ (by omega) (by omega), and_step _ _ _ _ hb (by omega), h2]
  omega
theorem F2_step (k q b : Nat) (hb : b < 256) : F2 (k + 1) (256 * q + b) = 256 * F2 k q + f2 b := by
  unfold F2 f2
  have h1 : (256 * q + b) / 4 = 256 * (q / 4) + (64 * (q % 4) + b / 4) := by omega
  have h2 := bit51 ⟨q % 4, by omega⟩ ⟨b / 4, by omega⟩
  simp only at h2
  rw [maskR, h1, and_step _ _ _ _ (by omega) (by omega), and_step _ _ _ _ hb (by omega), h2]
  omega
theorem F4_step (k q b : Nat) (hb : b ≤ 68) (hq : q % 16 ≤ 4) : F4 (k + 1) (256 * q + b) = 256 * F4 k q + (b / 16 + b) % 16 := by
  unfold F4
  have h1 : (256 * q + b) / 16 + (256 * q + b) = 256 * (q / 16 + q) + (16 * (q % 16) + b / 16 + b) := by omega
  rw [maskR, h1, and_step _ _ _ _ (by omega) (by omega), show (15 : Nat) = 2 ^ 4 - 1 from rfl, Nat.and_two_pow_sub_one_eq_mod]
  omega

/-- the bytes' numbers of one bits, side by side. -/
def F (k x : Nat) : Nat := F4 k (F2 k (F1 k x))
theorem F_zero (x : Nat) : F2 0 (F1 0 x) = 0 := by
  unfold F2 F1 maskR
  simp
theorem F_low (k q : Nat) : F2 k (F1 k q) % 16 ≤ 4 := by
  cases k with
  | zero => rw [F_zero]; omega
  | succ k =>
    have hb : q % 256 < 256 := by omega
    have h1 := f1_lt ⟨q % 256, hb⟩
    have h2 := f21_ok ⟨q % 256, hb⟩
    simp only at h1 h2
    rw [show q = 256 * (q / 256) + q % 256 by omega, F1_step _ _ _ hb, F2_step _ _ _ h1]
    omega
theorem F_step (k q b : Nat) (hb : b < 256) : F (k + 1) (256 * q + b) = 256 * F k q + onesCount b := by
  have h1 := f1_lt ⟨b, hb⟩
  have h2 := f21_ok ⟨b, hb⟩
  simp only at h1 h2
  unfold F
  rw [F1_step _ _ _ hb, F2_step _ _ _ h1, F4_step _ _ _ h2.1 (F_low k q), h2.2.2]

theorem pop8_step (f q b : Nat) (hb : b < 256) : popAux (f + 8) (256 * q + b) = popAux 8 b + popAux f q := by
  simp only [popAux]
  have e : (256 * q + b) / 2 / 2 / 2 / 2 / 2 / 2 / 2 / 2 = q := by omega
  rw [e]
  omega
theorem pop8_of : ∀ b : Fin 256, popAux 8 b.val = onesCount b.val := by decide +kernel

/-- eight bytes' numbers, added up. -/
theorem sum8 (a0 a1 a2 a3 a4 a5 a6 a7 y z u v : Nat) (h0 : a0 ≤ 8) (h1 : a1 ≤ 8) (h2 : a2 ≤ 8) (h3 : a3 ≤ 8) (h4 : a4 ≤ 8) (h5 : a5 ≤ 8) (h6 : a6 ≤ 8) (h7 : a7 ≤ 8)
    (hy : y = 256 * (256 * (256 * (256 * (256 * (256 * (256 * a7 + a6) + a5) + a4) + a3) + a2) + a1) + a0) (hz : z = y + y / 256) (hu : u = z + z / 65536) (hv : v = u + u / 4294967296) :
    v < 18446744073709551616 ∧ v % 128 = a0 + (a1 + (a2 + (a3 + (a4 + (a5 + (a6 + a7)))))) := by
  have hy2 : y / 256 = 256 * (256 * (256 * (256 * (256 * (256 * a7 + a6) + a5) + a4) + a3) + a2) + a1 := by omega
  rw [hy2] at hz
  have hz1 : z = 256 * (256 * (256 * (256 * (256 * (256 * (256 * a7 + (a6 + a7)) + (a5 + a6)) + (a4 + a5)) + (a3 + a4)) + (a2 + a3)) + (a1 + a2)) + (a0 + a1) := by omega
  clear hz hy hy2
  have hz2 : z / 65536 = 256 * (256 * (256 * (256 * (256 * a7 + (a6 + a7)) + (a5 + a6)) + (a4 + a5)) + (a3 + a4)) + (a2 + a3) := by omega
  rw [hz2] at hu
  have hu1 : u = 256 * (256 * (256 * (256 * (256 * (256 * (256 * a7 + (a6 + a7)) + (a5 + a6 + a7)) + (a4 + a5 + a6 + a7)) + (a3 + a4 + a5 + a6)) + (a2 + a3 + a4 + a5)) + (a1 + a2 + a3 + a4)) + (a0 + a1 + a2 + a3) := by omega
  clear hu hz2 hz1
  have hu2 : u / 4294967296 = 256 * (256 * (256 * a7 + (a6 + a7)) + (a5 + a6 + a7)) + (a4 + a5 + a6 + a7) := by omega
  rw [hu2] at hv
  have hv1 : v = 256 * (256 * (256 * (256 * (256 * (256 * (256 * a7 + (a6 + a7)) + (a5 + a6 + a7)) + (a4 + a5 + a6 + a7)) + (a3 + a4 + a5 + a6 + a7)) + (a2 + a3 + a4 + a5 + (a6 + a7))) + (a1 + a2 + a3 + a4 + (a5 + a6 + a7))) + (a0 + a1 + a2 + a3 + (a4 + a5 + a6 + a7)) := by omega
  clear hv hu2 hu1
  exact ⟨by omega, by omega⟩

/-- the whole: the sum of the bytes' numbers. -/
theorem swar (x y z u v : Nat) (hx : x < 18446744073709551616) (hy : y = F 8 x) (hz : z = y + y / 256) (hu : u = z + z / 65536) (hv : v = u + u / 4294967296) : v < 18446744073709551616 ∧ v % 128 = onesCount x := by
  obtain ⟨b0, q0, e0, h0⟩ : ∃ b q, x = 256 * q + b ∧ b < 256 := ⟨x % 256, x / 256, by omega, by omega⟩
  obtain ⟨b1, q1, e1, h1⟩ : ∃ b q, q0 = 256 * q + b ∧ b < 256 := ⟨q0 % 256, q0 / 256, by omega, by omega⟩
  obtain ⟨b2, q2, e2, h2⟩ : ∃ b q, q1 = 256 * q + b ∧ b < 256 := ⟨q1 % 256, q1 / 256, by omega, by omega⟩
  obtain ⟨b3, q3, e3, h3⟩ : ∃ b q, q2 = 256 * q + b ∧ b < 256 := ⟨q2 % 256, q2 / 256, by omega, by omega⟩
  obtain ⟨b4, q4, e4, h4⟩ : ∃ b q, q3 = 256 * q + b ∧ b < 256 := ⟨q3 % 256, q3 / 256, by omega, by omega⟩
  obtain ⟨b5, q5, e5, h5⟩ : ∃ b q, q4 = 256 * q + b ∧ b < 256 := ⟨q4 % 256, q4 / 256, by omega, by omega⟩
  obtain ⟨b6, q6, e6, h6⟩ : ∃ b q, q5 = 256 * q + b ∧ b < 256 := ⟨q5 % 256, q5 / 256, by omega, by omega⟩
  obtain ⟨b7, q7, e7, h7⟩ : ∃ b q, q6 = 256 * q + b ∧ b < 256 := ⟨q6 % 256, q6 / 256, by omega, by omega⟩
  have hq7 : q7 = 0 := by omega
  have hF : F 8 x = 256 * (256 * (256 * (256 * (256 * (256 * (256 * onesCount b7 + onesCount b6) + onesCount b5) + onesCount b4) + onesCount b3) + onesCount b2) + onesCount b1) + onesCount b0 := by
    rw [e0, F_step _ _ _ h0, e1, F_step _ _ _ h1, e2, F_step _ _ _ h2, e3, F_step _ _ _ h3, e4, F_step _ _ _ h4, e5, F_step _ _ _ h5, e6, F_step _ _ _ h6, e7, F_step _ _ _ h7]
    have : F 0 q7 = 0 := by unfold F; rw [F_zero]; rfl
    rw [this, Nat.mul_zero, Nat.zero_add]
  have hO : onesCount x = onesCount b0 + (onesCount b1 + (onesCount b2 + (onesCount b3 + (onesCount b4 + (onesCount b5 + (onesCount b6 + onesCount b7)))))) := by
    show popAux (56 + 8) x = _
    rw [e0, pop8_step _ _ _ h0, e1, pop8_step 48 _ _ h1, e2, pop8_step 40 _ _ h2, e3, pop8_step 32 _ _ h3, e4, pop8_step 24 _ _ h4, e5, pop8_step 16 _ _ h5, e6, pop8_step 8 _ _ h6, e7, hq7, Nat.mul_zero, Nat.zero_add]
    rw [pop8_of ⟨b0, h0⟩, pop8_of ⟨b1, h1⟩, pop8_of ⟨b2, h2⟩, pop8_of ⟨b3, h3⟩, pop8_of ⟨b4, h4⟩, pop8_of ⟨b5, h5⟩, pop8_of ⟨b6, h6⟩, pop8_of ⟨b7, h7⟩]
  have p0 := onesCount_le8 ⟨b0, h0⟩
  have p1 := onesCount_le8 ⟨b1, h1⟩
  have p2 := onesCount_le8 ⟨b2, h2⟩
  have p3 := onesCount_le8 ⟨b3, h3⟩
  have p4 := onesCount_le8 ⟨b4, h4⟩
  have p5 := onesCount_le8 ⟨b5, h5⟩
  have p6 := onesCount_le8 ⟨b6, h6⟩
  have p7 := onesCount_le8 ⟨b7, h7⟩
  simp only at p0 p1 p2 p3 p4 p5 p6 p7
  rw [hO]
  exact sum8 _ _ _ _ _ _ _ _ y z u v p0 p1 p2 p3 p4 p5 p6 p7 (hy.trans hF) hz hu hv

end Go.Proofs.YtgnpmmhpeianpaaGreatDoor

/- A mask of ints. -/
namespace Go.Proofs.YtgnpmmhpeianpaaGreatDoor
open Go.RowKit

theorem and_mask (n : Int) (j : Nat) (hj : j ≤ 62) : bits .and .i64 n ((2 ^ j - 1 : Nat) : Int) = n % ((2 ^ j : Nat) : Int) := by
  have hp : 2 ^ j ≤ 2 ^ 62 := Nat.pow_le_pow_right (by omega) hj
  have hpos : 0 < 2 ^ j := Nat.two_pow_pos j
  have hm : (BitVec.ofInt 64 ((2 ^ j - 1 : Nat) : Int)).toNat = 2 ^ j - 1 := by
    rw [BitVec.ofInt_natCast, BitVec.toNat_ofNat, Nat.mod_eq_of_lt (by omega)]
  have key : (BitVec.ofInt 64 n &&& BitVec.ofInt 64 ((2 ^ j - 1 : Nat) : Int)).toNat = (n % ((2 ^ 64 : Nat) : Int)).toNat % 2 ^ j := by
    rw [BitVec.toNat_and, BitVec.toNat_ofInt, hm, Nat.and_two_pow_sub_one_eq_mod]
  show IntKind.i64.wrap ((BitVec.ofInt 64 n &&& BitVec.ofInt 64 ((2 ^ j - 1 : Nat) : Int)).toNat : Nat) = _
  rw [key]
  have hlt : (n % ((2 ^ 64 : Nat) : Int)).toNat % 2 ^ j < 2 ^ j := Nat.mod_lt _ hpos
  rw [IntWalk.i64_in _ (by constructor <;> omega)]
  have h0 : 0 ≤ n % ((2 ^ 64 : Nat) : Int) := Int.emod_nonneg _ (by decide)
  have hd : ((2 ^ j : Nat) : Int) ∣ ((2 ^ 64 : Nat) : Int) := Int.natCast_dvd_natCast.2 (Nat.pow_dvd_pow 2 (by omega))
  rw [Int.natCast_emod, Int.toNat_of_nonneg h0, Int.emod_emod_of_dvd _ hd]
theorem and127i (n : Int) : bits .and .i64 n 127 = n % 128 := and_mask n 7 (by omega)

end Go.Proofs.YtgnpmmhpeianpaaGreatDoor

/- math/bits.OnesCount64, OnesCount. -/
namespace Go.Proofs.YtgnpmmhpeianpaaGreatDoor
open Go.RowKit

theorem wrapU (a : Nat) (h : a < 18446744073709551616) : IntKind.u64.wrap (a : Int) = (a : Int) := by
  unfold IntKind.wrap
  simp [IntKind.signed, IntKind.bits]
  omega
theorem andU (a m : Nat) (ha : a < 18446744073709551616) (hm : m < 18446744073709551616) : bits .and .u64 (a : Int) (m : Int) = ((a &&& m : Nat) : Int) := by
  show IntKind.u64.wrap ((BitVec.ofInt 64 (a : Int) &&& BitVec.ofInt 64 (m : Int)).toNat : Nat) = _
  rw [BitVec.ofInt_natCast, BitVec.ofInt_natCast, BitVec.toNat_and, BitVec.toNat_ofNat, BitVec.toNat_ofNat, Nat.mod_eq_of_lt ha, Nat.mod_eq_of_lt hm]
  exact wrapU _ (Nat.lt_of_le_of_lt Nat.and_le_left ha)

set_option maxRecDepth 100000 in
set_option maxHeartbeats 1000000 in
theorem ones64_any (x : Nat) (w : World) (hx : x < 18446744073709551616) : Calls Tryz.prog 100 #[.int .u64 (x : Int)] w fun e w' => e = .returned (.int .i64 (Lib.onesCount x : Int)) ∧ w = w' := by
  have m1 : maskR 8 85 = 6148914691236517205 := by decide
  have m2 : maskR 8 51 = 3689348814741910323 := by decide
  have m4 : maskR 8 15 = 1085102592571150095 := by decide
  obtain ⟨a1, h1⟩ : ∃ a, F1 8 x = a := ⟨_, rfl⟩
  obtain ⟨a2, h2⟩ : ∃ a, F2 8 a1 = a := ⟨_, rfl⟩
  obtain ⟨y, h4⟩ : ∃ a, F4 8 a2 = a := ⟨_, rfl⟩
  have hy : y = F 8 x := by unfold F; rw [h1, h2, h4]
  unfold F1 at h1
  unfold F2 at h2
  unfold F4 at h4
  rw [m1] at h1
  rw [m2] at h2
  rw [m4] at h4
  have b1 : a1 < 18446744073709551616 := by
    have := Nat.and_le_right (n := x / 2) (m := 6148914691236517205)
    have := Nat.and_le_right (n := x) (m := 6148914691236517205)
    omega
  have b2 : a2 ≤ 7378697629483820646 := by
    have := Nat.and_le_right (n := a1 / 4) (m := 3689348814741910323)
    have := Nat.and_le_right (n := a1) (m := 3689348814741910323)
    omega
  have b4 : y ≤ 1085102592571150095 := by rw [← h4]; exact Nat.and_le_right
  obtain ⟨z, hz⟩ : ∃ z, z = y + y / 256 := ⟨_, rfl⟩
  obtain ⟨u, hu⟩ : ∃ u, u = z + z / 65536 := ⟨_, rfl⟩
  obtain ⟨v, hv⟩ : ∃ v, v = u + u / 4294967296 := ⟨_, rfl⟩
  have hs := (swar x y z u v hx hy hz hu hv).2
  have E1 : IntKind.u64.wrap (bits .and .u64 ((x : Int) / 2) 6148914691236517205 + bits .and .u64 (x : Int) 6148914691236517205) = (a1 : Int) := by
    rw [show ((x : Int) / 2) = ((x / 2 : Nat) : Int) by omega]
    have e1 := andU (x / 2) 6148914691236517205 (by omega) (by omega)
    have e2 := andU x 6148914691236517205 hx (by omega)
    rw [show ((6148914691236517205 : Nat) : Int) = 6148914691236517205 from rfl] at e1 e2
    rw [e1, e2, ← Int.natCast_add, h1]
    exact wrapU a1 b1
  have E2 : IntKind.u64.wrap (bits .and .u64 ((a1 : Int) / 4) 3689348814741910323 + bits .and .u64 (a1 : Int) 3689348814741910323) = (a2 : Int) := by
    rw [show ((a1 : Int) / 4) = ((a1 / 4 : Nat) : Int) by omega]
    have e1 := andU (a1 / 4) 3689348814741910323 (by omega) (by omega)
    have e2 := andU a1 3689348814741910323 b1 (by omega)
    rw [show ((3689348814741910323 : Nat) : Int) = 3689348814741910323 from rfl] at e1 e2
    rw [e1, e2, ← Int.natCast_add, h2]
    exact wrapU a2 (by omega)
  have E4 : bits .and .u64 (IntKind.u64.wrap ((a2 : Int) / 16 + (a2 : Int))) 1085102592571150095 = (y : Int) := by
    rw [show ((a2 : Int) / 16 + (a2 : Int)) = ((a2 / 16 + a2 : Nat) : Int) by omega, wrapU _ (by omega)]
    have e1 := andU (a2 / 16 + a2) 1085102592571150095 (by omega) (by omega)
    rw [show ((1085102592571150095 : Nat) : Int) = 1085102592571150095 from rfl] at e1
    rw [e1, h4]
  have E5 : IntKind.u64.wrap ((y : Int) + (y : Int) / 256) = (z : Int) := by
    rw [show (y : Int) + (y : Int) / 256 = ((y + y / 256 : Nat) : Int) by omega, ← hz]
    exact wrapU z (by omega)
  have E6 : IntKind.u64.wrap ((z : Int) + (z : Int) / 65536) = (u : Int) := by
    rw [show (z : Int) + (z : Int) / 65536 = ((z + z / 65536 : Nat) : Int) by omega, ← hu]
    exact wrapU u (by omega)
  have E7 : IntKind.u64.wrap ((u : Int) + (u : Int) / 4294967296) = (v : Int) := by
    rw [show (u : Int) + (u : Int) / 4294967296 = ((u + u / 4294967296 : Nat) : Int) by omega, ← hv]
    exact wrapU v (by omega)
  have E8 : bits .and .i64 (v : Int) 127 = (v : Int) % 128 := and127i v
  have hvb : v < 4611686018427387904 := by omega
  have HS := Lib.hid hs
  clear hs h1 h2 h4 hy hz hu hv m1 m2 m4 b1 b2 b4
  go_enter Tryz.func100, Tryz.ntmps100
  go_wp2_with fail
  go_ret
  refine ⟨?_, rfl⟩
  rw [← HS.out]
  rfl

set_option maxRecDepth 100000 in
set_option maxHeartbeats 400000 in
theorem ones_any (x : Nat) (w : World) (hx : x < 18446744073709551616) : Calls Tryz.prog 60 #[.int .u64 (x : Int)] w fun e w' => e = .returned (.int .i64 (Lib.onesCount x : Int)) ∧ w = w' := by
  have HO := Lib.hid (ones64_any x w hx)
  go_enter Tryz.func60, Tryz.ntmps60
  go_wp2_with fail
  refine HO.out.mono ?_
  rintro r w1 ⟨rfl, rfl⟩
  go_wp2_with fail
  go_ret
  exact ⟨rfl, rfl⟩

end Go.Proofs.YtgnpmmhpeianpaaGreatDoor
