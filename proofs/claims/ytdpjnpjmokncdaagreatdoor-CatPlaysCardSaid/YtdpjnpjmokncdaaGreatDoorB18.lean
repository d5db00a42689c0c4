/- The number that some digits make. Plain. -/
import Derived.Test.YtdpjnpjmokncdaaGreatDoorB16
import Derived.Lib.AtoiTie
namespace Go.Proofs.YtdpjnpjmokncdaaGreatDoor
open Go.RowKit

/-- the number that some digits make, as the reference reckons. -/
def numR : List UInt8 → Int → Int
  | [], n => n
  | c :: r, n => numR r (n * 10 + (c.toNat : Int) - 48)
theorem numR_snoc : ∀ (l : List UInt8) (c : UInt8) (n : Int), numR (l ++ [c]) n = numR l n * 10 + (c.toNat : Int) - 48
  | [], _, _ => rfl
  | _ :: l, c, n => by rw [List.cons_append, numR, numR, numR_snoc l c]
theorem numR_digF : ∀ (k n : Nat), n < 10 ^ k → numR (digF k n) 0 = (n : Int)
  | 0, n, h => by
    obtain rfl : n = 0 := by simpa using h
    rfl
  | k + 1, n, h => by
    have hlt : n / 10 < 10 ^ k := by
      rw [Nat.div_lt_iff_lt_mul (by omega)]
      rw [Nat.pow_succ] at h
      exact h
    rw [digF, numR_snoc, numR_digF k _ hlt]
    have e : (UInt8.ofNat (48 + n % 10)).toNat = 48 + n % 10 := by simp [UInt8.toNat_ofNat']; omega
    rw [e]
    omega
theorem numR_bnd (B : Int) (hB : 0 ≤ B) : ∀ (l : List UInt8) (n : Int), -B ≤ n → n ≤ B → -((B + 23) * 10 ^ l.length) ≤ numR l n ∧ numR l n ≤ (B + 23) * 10 ^ l.length - 23
  | [], n, h0, h1 => by simp [numR]; omega
  | c :: r, n, h0, h1 => by
    have hc : c.toNat < 256 := c.toNat_lt
    have := numR_bnd (B * 10 + 207) (by omega) r (n * 10 + (c.toNat : Int) - 48) (by omega) (by omega)
    rw [numR, List.length_cons, Int.pow_succ]
    have e : (B * 10 + 207 + 23) * 10 ^ r.length = (B + 23) * (10 ^ r.length * 10) := by
      rw [show B * 10 + 207 + 23 = (B + 23) * 10 by omega, Int.mul_assoc, Int.mul_comm 10]
    rw [e] at this
    exact this
theorem numR_le (l : List UInt8) (h : l.length ≤ 13) : -230000000000000 ≤ numR l 0 ∧ numR l 0 ≤ 230000000000000 := by
  have := numR_bnd 0 (by omega) l 0 (by omega) (by omega)
  have hp : (10 : Int) ^ l.length ≤ 10 ^ 13 := by
    have := Nat.pow_le_pow_right (n := 10) (by omega) h
    exact_mod_cast this
  omega

theorem walName_drop {x : Nat} (h : x ≤ 1099511627776) : (walName x).data.toList.drop 4 = digF 13 x := by
  rw [walName_dig h]; rfl

end Go.Proofs.YtdpjnpjmokncdaaGreatDoor
