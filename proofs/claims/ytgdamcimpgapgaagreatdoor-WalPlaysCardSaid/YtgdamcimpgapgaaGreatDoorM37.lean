/- Which names are segments' names. Plain. -/
import Derived.Test.YtgdamcimpgapgaaGreatDoorM26
import Derived.Lib.AtoiTie
namespace Go.Proofs.YtgdamcimpgapgaaGreatDoor
open Go.RowKit

/-- the number that some digits make, as the reference reckons. -/
def numR : List UInt8 → Int → Int
  | [], n => n
  | c :: r, n => numR r (n * 10 + (c.toNat : Int) - 48)
theorem numR_snoc : ∀ (l : List UInt8) (c : UInt8) (n : Int), numR (l ++ [c]) n = numR l n * 10 + (c.toNat : Int) - 48
  | [], _, _ => rfl
  | _ :: l, c, n => by rw [List.cons_append, numR, numR, numR_snoc l c]
theorem numR_digF : ∀ (k n : Nat), n < 10 ^ k → numR (digF k n) 0 = (n : Int)
  | 0, n, h => by
    obtain rfl : n = 0 := by simpa using h
    rfl
  | k + 1, n, h => by
    have hlt : n / 10 < 10 ^ k := by
      rw [Nat.div_lt_iff_lt_mul (by omega)]
      rw [Nat.pow_succ] at h
      exact h
    rw [digF, numR_snoc, numR_digF k _ hlt]
    have e : (UInt8.ofNat (48 + n % 10)).toNat = 48 + n % 10 := by simp [UInt8.toNat_ofNat']; omega
    rw [e]
    omega
theorem numR_bnd (B : Int) (hB : 0 ≤ B) : ∀ (l : List UInt8) (n : Int), -B ≤ n → n ≤ B → -((B + 23) * 10 ^ l.length) ≤ numR l n ∧ numR l n ≤ (B + 23) * 10 ^ l.length - 23
  | [], n, h0, h1 => by simp [numR]; omega
  | c :: r, n, h0, h1 => by
    have hc : c.toNat < 256 := c.toNat_lt
    have := numR_bnd (B * 10 + 207) (by omega) r (n * 10 + (c.toNat : Int) - 48) (by omega) (by omega)
    rw [numR, List.length_cons, Int.pow_succ]
    have e : (B * 10 + 207 + 23) * 10 ^ r.length = (B + 23) * (10 ^ r.length * 10) := by
      rw [show B * 10 + 207 + 23 = (B + 23) * 10 by omega, Int.mul_assoc, Int.mul_comm 10]
    rw [e] at this
    exact this
theorem numR_le (l : List UInt8) (h : l.length ≤ 13) : -230000000000000 ≤ numR l 0 ∧ numR l 0 ≤ 230000000000000 := by
  have := numR_bnd 0 (by omega) l 0 (by omega) (by omega)
  have hp : (10 : Int) ^ l.length ≤ 10 ^ 13 := by
    have := Nat.pow_le_pow_right (n := 10) (by omega) h
    exact_mod_cast this
  omega

/-- the number of a segment's name. -/
def segR (nm : ByteArray) : Option Int := if nm.size = 17 then (if nameW (numR (nm.data.toList.drop 4) 0) = nm then some (numR (nm.data.toList.drop 4) 0) else none) else none
theorem walName_drop {x : Nat} (h : x ≤ 1099511627776) : (walName x).data.toList.drop 4 = digF 13 x := by
  rw [walName_dig h]; rfl
theorem nameW_right {v : Int} {nm : ByteArray} (h : nameW v = nm) (hn : nm.size ≠ 0) : 0 ≤ v ∧ v ≤ 1099511627776 := by
  by_cases hr : 0 ≤ v ∧ v ≤ 1099511627776
  · exact hr
  · rw [← h, nameW_0 hr] at hn; exact absurd rfl hn
theorem segR_name {v : Int} (h0 : 0 ≤ v) (h1 : v ≤ 1099511627776) : segR (nameW v) = some v := by
  have h17 := nameW_17 h0 h1
  have hd : numR ((nameW v).data.toList.drop 4) 0 = v := by
    rw [nameW_yes h0 h1, walName_drop (by omega), numR_digF 13 _ (by omega)]
    omega
  unfold segR
  rw [if_pos h17, hd, if_pos rfl]
theorem segR_some {nm : ByteArray} {v : Int} (h : segR nm = some v) : 0 ≤ v ∧ v ≤ 1099511627776 ∧ nm = walName v.toNat := by
  unfold segR at h
  split at h
  · rename_i h17
    split at h
    · rename_i he
      cases h
      obtain ⟨h0, h1⟩ := nameW_right he (by omega)
      exact ⟨h0, h1, he.symm.trans (nameW_yes h0 h1)⟩
    · cases h
  · cases h
theorem segR_not {nm : ByteArray} (h : segR nm = none) (hn : nm.size ≠ 0) (v : Int) : nameW v ≠ nm := fun e => by
  obtain ⟨h0, h1⟩ := nameW_right e hn
  rw [← e, segR_name h0 h1] at h
  cases h
theorem segs_snoc {L : List ByteArray} {j : Nat} {nm : ByteArray} (h : L[j]? = some nm) : (L.take (j + 1)).filterMap segR = (L.take j).filterMap segR ++ (segR nm).toList := by
  rw [take_snoc' L j nm h, List.filterMap_append]
  cases h2 : segR nm <;> simp [h2]

end Go.Proofs.YtgdamcimpgapgaaGreatDoor
