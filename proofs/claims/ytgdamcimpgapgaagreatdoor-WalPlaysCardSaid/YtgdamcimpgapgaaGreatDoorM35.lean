/- masks of ints, and three small facts. NOT beside Torn or Room (they bear the same names). -/
import Derived.Test.YtgdamcimpgapgaaGreatDoorM34
import Derived.Laws.BitsLemmas
import Derived.IntWalk
namespace Go.Proofs.YtgdamcimpgapgaaGreatDoor
open Go.RowKit

theorem and_mask (n : Int) (j : Nat) (hj : j ≤ 62) : bits .and .i64 n ((2 ^ j - 1 : Nat) : Int) = n % ((2 ^ j : Nat) : Int) := by
  have hp : 2 ^ j ≤ 2 ^ 62 := Nat.pow_le_pow_right (by omega) hj
  have hpos : 0 < 2 ^ j := Nat.two_pow_pos j
  have hm : (BitVec.ofInt 64 ((2 ^ j - 1 : Nat) : Int)).toNat = 2 ^ j - 1 := by
    rw [BitVec.ofInt_natCast, BitVec.toNat_ofNat, Nat.mod_eq_of_lt (by omega)]
  have key : (BitVec.ofInt 64 n &&& BitVec.ofInt 64 ((2 ^ j - 1 : Nat) : Int)).toNat = (n % ((2 ^ 64 : Nat) : Int)).toNat % 2 ^ j := by
    rw [BitVec.toNat_and, BitVec.toNat_ofInt, hm, Nat.and_two_pow_sub_one_eq_mod]
  show IntKind.i64.wrap ((BitVec.ofInt 64 n &&& BitVec.ofInt 64 ((2 ^ j - 1 : Nat) : Int)).toNat : Nat) = _
  rw [key]
  have hlt : (n % ((2 ^ 64 : Nat) : Int)).toNat % 2 ^ j < 2 ^ j := Nat.mod_lt _ hpos
  rw [IntWalk.i64_in _ (by constructor <;> omega)]
  have h0 : 0 ≤ n % ((2 ^ 64 : Nat) : Int) := Int.emod_nonneg _ (by decide)
  have hd : ((2 ^ j : Nat) : Int) ∣ ((2 ^ 64 : Nat) : Int) := Int.natCast_dvd_natCast.2 (Nat.pow_dvd_pow 2 (by omega))
  rw [Int.natCast_emod, Int.toNat_of_nonneg h0, Int.emod_emod_of_dvd _ hd]
theorem and8191 (n : Int) : bits .and .i64 n 8191 = n % 8192 := and_mask n 13 (by omega)
theorem and65535 (n : Int) : bits .and .i64 n 65535 = n % 65536 := and_mask n 16 (by omega)
theorem and63 (n : Int) : bits .and .i64 n 63 = n % 64 := and_mask n 6 (by omega)

theorem DiskIs.flt {w : World} {F : Nat → Prop} {d : Nat} {D : Dk} (h : DiskIs w F d D) : ∀ k, F k → k < w.heap.size := by
  obtain ⟨_, _, _, _, _, _, _, _, h⟩ := h; exact h
theorem RowS.rds {w : World} {base : Nat} {A : Option Addr} {n c : Nat} {xs : List Bs} (h : RowS w base A n c xs) : RdS w A n xs := ⟨h.rd, fun x hx => (h.rows x hx).1⟩
theorem RdS.take {w : World} {A : Option Addr} {n : Nat} {xs : List Bs} (h : RdS w A n xs) {k : Nat} (hk : k ≤ n) : RdS w A k (xs.take k) :=
  ⟨by rw [List.map_take]; exact h.1.take hk, fun x hx => h.2 x (List.mem_of_mem_take hx)⟩

end Go.Proofs.YtgdamcimpgapgaaGreatDoor
