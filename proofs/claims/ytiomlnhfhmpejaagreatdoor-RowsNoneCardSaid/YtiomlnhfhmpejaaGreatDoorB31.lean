/- The frame's way there and back. Plain. -/
import Derived.Test.YtiomlnhfhmpejaaGreatDoorB28
import Derived.Laws.BitsLemmas
import Derived.Lib.EndianBits
namespace Go.Proofs.YtiomlnhfhmpejaaGreatDoor
open Go.RowKit

theorem lowB_nat (y : Int) : ((lowB y).toNat : Int) = y % 256 := by
  have h1 := Int.emod_nonneg y (show (256 : Int) ≠ 0 by omega)
  have h2 := Int.emod_lt_of_pos y (show (0 : Int) < 256 by omega)
  unfold lowB
  have : (UInt8.ofNat (y % 256).toNat).toNat = (y % 256).toNat := by simp [UInt8.toNat_ofNat']; omega
  rw [this]
  omega

theorem moreB_nat (n : Nat) : 128 ≤ (moreB n).toNat ∧ (moreB n).toNat % 128 = n % 128 := by
  have h : ∀ y : Fin 256, 128 ≤ (UInt8.ofNat (bits BinOp.or IntKind.u8 (y.val : Int) 128).toNat).toNat ∧ (UInt8.ofNat (bits BinOp.or IntKind.u8 (y.val : Int) 128).toNat).toNat % 128 = y.val % 128 := by decide +kernel
  have h1 := h ⟨n % 256, Nat.mod_lt _ (by omega)⟩
  have e : ((n % 256 : Nat) : Int) = (n : Int) % 256 := by omega
  simp only [e] at h1
  unfold moreB
  exact ⟨h1.1, by rw [h1.2]; omega⟩

theorem tnStep_is (k : Nat) (x : Int) (c : UInt8) (hx0 : 0 ≤ x) (hx : x < 2 ^ (7 * k)) (hk : 7 * k ≤ 56) : tnStep k x c = x + ((c.toNat % 128 : Nat) : Int) * 2 ^ (7 * k) := by
  unfold tnStep
  have hp : (2 : Int) ^ (7 * k) ≤ 2 ^ 56 := by
    have := Nat.pow_le_pow_right (n := 2) (by omega) hk
    exact_mod_cast this
  have hpos : (0 : Int) < 2 ^ (7 * k) := Int.pow_pos (by omega)
  have hc : ((c.toNat % 128 : Nat) : Int) ≤ 127 := by omega
  have hc0 : (0 : Int) ≤ ((c.toNat % 128 : Nat) : Int) := by omega
  generalize ((c.toNat % 128 : Nat) : Int) = y at *
  have h1 : y * 2 ^ (7 * k) ≤ 127 * 2 ^ 56 := Int.mul_le_mul hc hp (by omega) (by omega)
  have h0 : 0 ≤ y * 2 ^ (7 * k) := Int.mul_nonneg hc0 (by omega)
  have h56 : (127 : Int) * 2 ^ 56 < 2 ^ 64 := by decide
  have h64 : (2 : Int) ^ 56 < 2 ^ 64 := by decide
  rw [wraps_u64 _ h0 (Int.lt_of_le_of_lt h1 h56)]
  refine bits_join_low .u64 64 (by decide) wraps_u64 (7 * k) x _ hx0 hx (by omega) h0 (Int.mul_emod_left _ _) (Int.lt_of_le_of_lt h1 h56)

theorem tnGo_numB : ∀ (f n k : Nat) (x : Int) (r : List UInt8), n ≤ f → k + (numB n).length ≤ 9 → 0 ≤ x → x < 2 ^ (7 * k) → (n ≠ 0 ∨ k = 0) →
    tnGo (numB n ++ r) k x = (x + (n : Int) * 2 ^ (7 * k), k + (numB n).length) := by
  intro f
  induction f with
  | zero =>
    intro n k x r hf hk h0 h1 hn
    obtain rfl : n = 0 := by omega
    obtain rfl : k = 0 := by omega
    rw [numB_last (by omega)]
    have hl := lowB_nat 0
    show (if 0 = 9 ∨ (lowB ((0 : Nat) : Int)).toNat = 0 ∧ 0 < 0 then _ else _) = _
    rw [if_neg (by omega)]
    have e : (lowB ((0 : Nat) : Int)).toNat = 0 := by
      have := lowB_nat ((0 : Nat) : Int); omega
    rw [if_pos (by omega), tnStep_is 0 x _ h0 h1 (by omega), e]
    simp
  | succ f ih =>
    intro n k x r hf hk h0 h1 hn
    by_cases hs : n < 128
    · rw [numB_last hs] at hk ⊢
      have e : (lowB (n : Int)).toNat = n := by
        have := lowB_nat (n : Int); omega
      simp only [List.length_cons, List.length_nil] at hk
      show (if k = 9 ∨ (lowB (n : Int)).toNat = 0 ∧ 0 < k then _ else if (lowB (n : Int)).toNat < 128 then _ else _) = _
      rw [if_neg (by omega), if_pos (by omega), tnStep_is k x _ h0 h1 (by omega), e, Nat.mod_eq_of_lt hs]
      simp
    · rw [numB_more (by omega)] at hk ⊢
      obtain ⟨hm1, hm2⟩ := moreB_nat n
      simp only [List.length_cons] at hk
      have hpos : 0 < (numB (n / 128)).length := by
        rw [numB]; split <;> simp
      show (if k = 9 ∨ (moreB n).toNat = 0 ∧ 0 < k then _ else if (moreB n).toNat < 128 then _ else _) = _
      rw [if_neg (by omega), if_neg (by omega), tnStep_is k x _ h0 h1 (by omega), hm2]
      have hp : (2 : Int) ^ (7 * (k + 1)) = 2 ^ (7 * k) * 128 := by rw [show 7 * (k + 1) = 7 * k + 7 by omega, Int.pow_add]; rfl
      have hpp : (0 : Int) < 2 ^ (7 * k) := Int.pow_pos (by omega)
      have hmod : ((n % 128 : Nat) : Int) ≤ 127 := by omega
      have hm0 : (0 : Int) ≤ ((n % 128 : Nat) : Int) := by omega
      have hle : ((n % 128 : Nat) : Int) * 2 ^ (7 * k) ≤ 127 * 2 ^ (7 * k) := Int.mul_le_mul_of_nonneg_right hmod (by omega)
      have hge : 0 ≤ ((n % 128 : Nat) : Int) * 2 ^ (7 * k) := Int.mul_nonneg hm0 (by omega)
      refine Eq.trans (ih (n / 128) (k + 1) (x + ((n % 128 : Nat) : Int) * 2 ^ (7 * k)) r (by omega) (by omega) (by omega) (by rw [hp]; omega) (by omega)) ?_
      rw [hp]
      simp only [List.length_cons, Prod.mk.injEq]
      refine ⟨?_, by omega⟩
      have hd : (n : Int) = ((n % 128 : Nat) : Int) + 128 * ((n / 128 : Nat) : Int) := by omega
      generalize ((n % 128 : Nat) : Int) = a at *
      generalize ((n / 128 : Nat) : Int) = b at *
      generalize (2 : Int) ^ (7 * k) = p at *
      rw [hd, Int.add_mul, Int.add_assoc, Int.mul_comm p 128, ← Int.mul_assoc, Int.mul_comm b 128]

theorem takeNum_numB {n : Nat} (hn : n ≤ 4611686018427387903) (r : List UInt8) : takeNum (numB n ++ r) = some (n, r) := by
  have h9 := numB_len9 hn
  have hpos : 0 < (numB n).length := by
    rw [numB]; split <;> simp
  have h := tnGo_numB n n 0 0 r (Nat.le_refl _) (by omega) (by omega) (by simp) (.inr rfl)
  simp only [Nat.mul_zero, Int.pow_zero, Int.mul_one, Int.zero_add, Nat.zero_add] at h
  unfold takeNum
  rw [h]
  simp only
  rw [if_neg (by omega)]
  simp

theorem numStep_is (x : Int) (c : UInt8) (h0 : 0 ≤ x) (h1 : x < 16777216) : numStep x c = x * 256 + (c.toNat : Int) := by
  unfold numStep
  have hc := c.toNat_lt
  rw [show x * 256 % 18446744073709551616 = x * 256 by omega]
  exact bits_join .u64 64 (by decide) wraps_u64 8 (x * 256) _ (by omega) (by omega) (by omega) (by omega) (by omega) (by omega)

theorem numFold_high4 {x : Int} (h0 : 0 ≤ x) (h1 : x < 4294967296) : numFold (high4 x) = x := by
  unfold numFold high4
  simp only [List.foldl_cons, List.foldl_nil]
  have a := lowB_nat (x / 256 / 256 / 256)
  have b := lowB_nat (x / 256 / 256)
  have c := lowB_nat (x / 256)
  have d := lowB_nat x
  have s1 := numStep_is 0 (lowB (x / 256 / 256 / 256)) (by omega) (by omega)
  rw [s1]
  have s2 := numStep_is (0 * 256 + ((lowB (x / 256 / 256 / 256)).toNat : Int)) (lowB (x / 256 / 256)) (by omega) (by omega)
  rw [s2]
  have s3 := numStep_is ((0 * 256 + ((lowB (x / 256 / 256 / 256)).toNat : Int)) * 256 + ((lowB (x / 256 / 256)).toNat : Int)) (lowB (x / 256)) (by omega) (by omega)
  rw [s3]
  rw [numStep_is _ _ (by omega) (by omega)]
  omega

theorem takeFrame_frameB {b : List UInt8} {most : Int} (hb : (b.length : Int) ≤ most) (hm : most ≤ 4611686018427387903) (r : List UInt8) : takeFrame (frameB b ++ r) most = some (b, r) := by
  have hcr := bits_u32 .xor IntKind.u32.max (crcFold (numB b.length ++ b))
  have e : frameB b ++ r = numB b.length ++ (high4 (crcOf (numB b.length ++ b)) ++ (b ++ r)) := by unfold frameB; simp
  rw [e]
  unfold takeFrame
  rw [takeNum_numB (by omega)]
  have hl4 : (high4 (crcOf (numB b.length ++ b))).length = 4 := rfl
  simp only
  rw [if_neg (by simp only [List.length_append, hl4]; omega)]
  have t4 : (high4 (crcOf (numB b.length ++ b)) ++ (b ++ r)).take 4 = high4 (crcOf (numB b.length ++ b)) := by
    rw [List.take_append_of_le_length (by rw [hl4]; omega), List.take_of_length_le (by rw [hl4]; omega)]
  have d4 : (high4 (crcOf (numB b.length ++ b)) ++ (b ++ r)).drop 4 = b ++ r := by
    rw [List.drop_append_of_le_length (by rw [hl4]; omega), List.drop_of_length_le (by rw [hl4]; omega)]; rfl
  have d4m : (high4 (crcOf (numB b.length ++ b)) ++ (b ++ r)).drop (4 + b.length) = r := by
    rw [← List.drop_drop, d4]; simp
  have tk : (numB b.length ++ (high4 (crcOf (numB b.length ++ b)) ++ (b ++ r))).take ((numB b.length ++ (high4 (crcOf (numB b.length ++ b)) ++ (b ++ r))).length - (high4 (crcOf (numB b.length ++ b)) ++ (b ++ r)).length) = numB b.length := by
    rw [List.length_append, Nat.add_sub_cancel]; simp
  rw [t4, d4, d4m, tk, numFold_high4 (by unfold crcOf; omega) (by unfold crcOf; omega)]
  simp

theorem takeFrame_nil (most : Int) : takeFrame [] most = none := by
  unfold takeFrame
  have : takeNum [] = none := by decide +kernel
  rw [this]

end Go.Proofs.YtiomlnhfhmpejaaGreatDoor
