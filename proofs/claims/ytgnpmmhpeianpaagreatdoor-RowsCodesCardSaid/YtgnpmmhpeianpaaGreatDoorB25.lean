/- The frame's way there and back. Plain. -/
import Derived.Test.YtgnpmmhpeianpaaGreatDoorB18
import Derived.Laws.BitsLemmas
import Derived.Lib.EndianBits
import Derived.Test.YtgnpmmhpeianpaaGreatDoorB01
import Derived.Test.YtgnpmmhpeianpaaGreatDoorB09
namespace Go.Proofs.YtgnpmmhpeianpaaGreatDoor
open Go.RowKit

theorem lowB_nat (y : Int) : ((lowB y).toNat : Int) = y % 256 := by
  have h1 := Int.emod_nonneg y (show (256 : Int) ≠ 0 by omega)
  have h2 := Int.emod_lt_of_pos y (show (0 : Int) < 256 by omega)
  unfold lowB
  have : (UInt8.ofNat (y % 256).toNat).toNat = (y % 256).toNat := by simp [UInt8.toNat_ofNat']; omega
  rw [this]
  omega

theorem moreB_nat (n : Nat) : 128 ≤ (moreB n).toNat ∧ (moreB n).toNat % 128 = n % 128 := by
  have h : ∀ y : Fin 256, 128 ≤ (UInt8.ofNat (bits BinOp.or IntKind.u8 (y.val : Int) 128).toNat).toNat ∧ (UInt8.ofNat (bits BinOp.or IntKind.u8 (y.val : Int) 128).toNat).toNat % 128 = y.val % 128 := by decide +kernel
  have h1 := h ⟨n % 256, Nat.mod_lt _ (by omega)⟩
  have e : ((n % 256 : Nat) : Int) = (n : Int) % 256 := by omega
  simp only [e] at h1
  unfold moreB
  exact ⟨h1.1, by rw [h1.2]; omega⟩

theorem tnStep_is (k : Nat) (x : Int) (c : UInt8) (hx0 : 0 ≤ x) (hx : x < 2 ^ (7 * k)) (hk : 7 * k ≤ 56) : tnStep k x c = x + ((c.toNat % 128 : Nat) : Int) * 2 ^ (7 * k) := by
  unfold tnStep
  have hp : (2 : Int) ^ (7 * k) ≤ 2 ^ 56 := by
    have := Nat.pow_le_pow_right (n := 2) (by omega) hk
    exact_mod_cast this
  have hpos : (0 : Int) < 2 ^ (7 * k) := Int.pow_pos (by omega)
  have hc : ((c.toNat % 128 : Nat) : Int) ≤ 127 := by omega
  have hc0 : (0 : Int) ≤ ((c.toNat % 128 : Nat) : Int) := by omega
  generalize ((c.toNat % 128 : Nat) : Int) = y at *
  have h1 : y * 2 ^ (7 * k) ≤ 127 * 2 ^ 56 := Int.mul_le_mul hc hp (by omega) (by omega)
  have h0 : 0 ≤ y * 2 ^ (7 * k) := Int.mul_nonneg hc0 (by omega)
  have h56 : (127 : Int) * 2 ^ 56 < 2 ^ 64 := by decide
  have h64 : (2 : Int) ^ 56 < 2 ^ 64 := by decide
  rw [wraps_u64 _ h0 (Int.lt_of_le_of_lt h1 h56)]
  refine bits_join_low .u64 64 (by decide) wraps_u64 (7 * k) x _ hx0 hx (by omega) h0 (Int.mul_emod_left _ _) (Int.lt_of_le_of_lt h1 h56)

theorem tnGo_numB : ∀ (f n k : Nat) (x : Int) (r : List UInt8), n ≤ f → k + (numB n).length ≤ 9 → 0 ≤ x → x < 2 ^ (7 * k) → (n ≠ 0 ∨ k = 0) →
    tnGo (numB n ++ r) k x = (x + (n : Int) * 2 ^ (7 * k), k + (numB n).length) := by
  intro f
  induction f with
  | zero =>
    intro n k x r hf hk h0 h1 hn
    obtain rfl : n = 0 := by omega
    obtain rfl : k = 0 := by omega
    rw [numB_last (by omega)]
    have hl := lowB_nat 0
    show (if 0 = 9 ∨ (lowB ((0 : Nat) : Int)).toNat = 0 ∧ 0 < 0 then _ else _) = _
    rw [if_neg (by omega)]
    have e : (lowB ((0 : Nat) : Int)).toNat = 0 := by
      have := lowB_nat ((0 : Nat) : Int); omega
    rw [if_pos (by omega), tnStep_is 0 x _ h0 h1 (by omega), e]
    simp
  | succ f ih =>
    intro n k x r hf hk h0 h1 hn
    by_cases hs : n < 128
    · rw [numB_last hs] at hk ⊢
      have e : (lowB (n : Int)).toNat = n := by
        have := lowB_nat (n : Int); omega
      simp only [List.length_cons, List.length_nil] at hk
      show (if k = 9 ∨ (lowB (n : Int)).toNat = 0 ∧ 0 < k then _ else if (lowB (n : Int)).toNat < 128 then _ else _) = _
      rw [if_neg (by omega), if_pos (by omega), tnStep_is k x _ h0 h1 (by omega), e, Nat.mod_eq_of_lt hs]
      simp
    · rw [numB_more (by omega)] at hk ⊢
      obtain ⟨hm1, hm2⟩ := moreB_nat n
      simp only [List.length_cons] at hk
      have hpos : 0 < (numB (n / 128)).length := by
        rw [numB]; split <;> simp
      show (if k = 9 ∨ (moreB n).toNat = 0 ∧ 0 < k then _ else if (moreB n).toNat < 128 then _ else _) = _
      rw [if_neg (by omega), if_neg (by omega), tnStep_is k x _ h0 h1 (by omega), hm2]
      have hp : (2 : Int) ^ (7 * (k + 1)) = 2 ^ (7 * k) * 128 := by rw [show 7 * (k + 1) = 7 * k + 7 by omega, Int.pow_add]; rfl
      have hpp : (0 : Int) < 2 ^ (7 * k) := Int.pow_pos (by omega)
      have hmod : ((n % 128 : Nat) : Int) ≤ 127 := by omega
      have hm0 : (0 : Int) ≤ ((n % 128 : Nat) : Int) := by omega
      have hle : ((n % 128 : Nat) : Int) * 2 ^ (7 * k) ≤ 127 * 2 ^ (7 * k) := Int.mul_le_mul_of_nonneg_right hmod (by omega)
      have hge : 0 ≤ ((n % 128 : Nat) : Int) * 2 ^ (7 * k) := Int.mul_nonneg hm0 (by omega)
      refine Eq.trans (ih (n / 128) (k + 1) (x + ((n % 128 : Nat) : Int) * 2 ^ (7 * k)) r (by omega) (by omega) (by omega) (by rw [hp]; omega) (by omega)) ?_
      rw [hp]
      simp only [List.length_cons, Prod.mk.injEq]
      refine ⟨?_, by omega⟩
      have hd : (n : Int) = ((n % 128 : Nat) : Int) + 128 * ((n / 128 : Nat) : Int) := by omega
      generalize ((n % 128 : Nat) : Int) = a at *
      generalize ((n / 128 : Nat) : Int) = b at *
      generalize (2 : Int) ^ (7 * k) = p at *
      rw [hd, Int.add_mul, Int.add_assoc, Int.mul_comm p 128, ← Int.mul_assoc, Int.mul_comm b 128]

theorem takeNum_numB {n : Nat} (hn : n ≤ 4611686018427387903) (r : List UInt8) : takeNum (numB n ++ r) = some (n, r) := by
  have h9 := numB_len9 hn
  have hpos : 0 < (numB n).length := by
    rw [numB]; split <;> simp
  have h := tnGo_numB n n 0 0 r (Nat.le_refl _) (by omega) (by omega) (by simp) (.inr rfl)
  simp only [Nat.mul_zero, Int.pow_zero, Int.mul_one, Int.zero_add, Nat.zero_add] at h
  unfold takeNum
  rw [h]
  simp only
  rw [if_neg (by omega)]
  simp

theorem numStep_is (x : Int) (c : UInt8) (h0 : 0 ≤ x) (h1 : x < 16777216) : numStep x c = x * 256 + (c.toNat : Int) := by
  unfold numStep
  have hc := c.toNat_lt
  rw [show x * 256 % 18446744073709551616 = x * 256 by omega]
  exact bits_join .u64 64 (by decide) wraps_u64 8 (x * 256) _ (by omega) (by omega) (by omega) (by omega) (by omega) (by omega)

theorem numFold_high4 {x : Int} (h0 : 0 ≤ x) (h1 : x < 4294967296) : numFold (high4 x) = x := by
  unfold numFold high4
  simp only [List.foldl_cons, List.foldl_nil]
  have a := lowB_nat (x / 256 / 256 / 256)
  have b := lowB_nat (x / 256 / 256)
  have c := lowB_nat (x / 256)
  have d := lowB_nat x
  have s1 := numStep_is 0 (lowB (x / 256 / 256 / 256)) (by omega) (by omega)
  rw [s1]
  have s2 := numStep_is (0 * 256 + ((lowB (x / 256 / 256 / 256)).toNat : Int)) (lowB (x / 256 / 256)) (by omega) (by omega)
  rw [s2]
  have s3 := numStep_is ((0 * 256 + ((lowB (x / 256 / 256 / 256)).toNat : Int)) * 256 + ((lowB (x / 256 / 256)).toNat : Int)) (lowB (x / 256)) (by omega) (by omega)
  rw [s3]
  rw [numStep_is _ _ (by omega) (by omega)]
  omega

theorem takeFrame_frameB {b : List UInt8} {most : Int} (hb : (b.length : Int) ≤ most) (hm : most ≤ 4611686018427387903) (r : List UInt8) : takeFrame (frameB b ++ r) most = some (b, r) := by
  have hcr := bits_u32 .xor IntKind.u32.max (crcFold (numB b.length ++ b))
  have e : frameB b ++ r = numB b.length ++ (high4 (crcOf (numB b.length ++ b)) ++ (b ++ r)) := by unfold frameB; simp
  rw [e]
  unfold takeFrame
  rw [takeNum_numB (by omega)]
  have hl4 : (high4 (crcOf (numB b.length ++ b))).length = 4 := rfl
  simp only
  rw [if_neg (by simp only [List.length_append, hl4]; omega)]
  have t4 : (high4 (crcOf (numB b.length ++ b)) ++ (b ++ r)).take 4 = high4 (crcOf (numB b.length ++ b)) := by
    rw [List.take_append_of_le_length (by rw [hl4]; omega), List.take_of_length_le (by rw [hl4]; omega)]
  have d4 : (high4 (crcOf (numB b.length ++ b)) ++ (b ++ r)).drop 4 = b ++ r := by
    rw [List.drop_append_of_le_length (by rw [hl4]; omega), List.drop_of_length_le (by rw [hl4]; omega)]; rfl
  have d4m : (high4 (crcOf (numB b.length ++ b)) ++ (b ++ r)).drop (4 + b.length) = r := by
    rw [← List.drop_drop, d4]; simp
  have tk : (numB b.length ++ (high4 (crcOf (numB b.length ++ b)) ++ (b ++ r))).take ((numB b.length ++ (high4 (crcOf (numB b.length ++ b)) ++ (b ++ r))).length - (high4 (crcOf (numB b.length ++ b)) ++ (b ++ r)).length) = numB b.length := by
    rw [List.length_append, Nat.add_sub_cancel]; simp
  rw [t4, d4, d4m, tk, numFold_high4 (by unfold crcOf; omega) (by unfold crcOf; omega)]
  simp

theorem takeFrame_nil (most : Int) : takeFrame [] most = none := by
  unfold takeFrame
  have : takeNum [] = none := by decide +kernel
  rw [this]

end Go.Proofs.YtgnpmmhpeianpaaGreatDoor

/- sawyerref02.PutNum. -/
namespace Go.Proofs.YtgnpmmhpeianpaaGreatDoor
open Go.RowKit

theorem b8_more (r : Nat) : b8 (moreB r) = .int .u8 (128 + (r : Int) % 128) := by
  obtain ⟨h1, h2⟩ := moreB_nat r
  have h3 := (moreB r).toNat_lt
  unfold b8
  congr 1
  omega

set_option maxRecDepth 100000 in
set_option maxHeartbeats 1000000 in
theorem putNumR_any (A : Option Addr) (n c : Nat) (l : List UInt8) (x : Int) (w : World) (h : Rd w A n (by8 l)) (hn : n ≤ 140737488351232) :
    Calls Tryz.prog 56 #[.slice A n c, .int .i64 x] w fun e w' => ∃ A' c', e = .returned (.slice A' (n + (numB (clampN x)).length) c') ∧
      w'.ownsRow w.heap.size 5 1 (.slice A' (n + (numB (clampN x)).length) c') (n + (numB (clampN x)).length) (by8 (l ++ numB (clampN x))) ∧ Below w.heap.size w w' := by
  have hN := clampN_le x
  have h9 := numB_len9 hN
  have hll : l.length = n := by simpa using h.1
  generalize hc : clampN x = N at *
  unfold clampN at hc
  have h3 : x < 0 ∧ N = 0 ∨ 0 ≤ x ∧ x ≤ 4611686018427387903 ∧ x = N ∨ 4611686018427387903 < x ∧ N = 4611686018427387903 := by omega
  clear hc
  obtain ⟨L, hL⟩ : ∃ L, l ++ numB N = L := ⟨_, rfl⟩
  have hLl : n + (numB N).length = L.length := by rw [← hL, List.length_append, hll]
  rw [hL, hLl]
  have hLb : L.length ≤ n + 9 := by omega
  have HLL := Lib.hid hll
  clear hLl h9 hll
  rcases h3 with ⟨hx, rfl⟩ | ⟨hx, hx2, rfl⟩ | ⟨hx, rfl⟩
  all_goals
    have HL := Lib.hid hL
    clear hL
    go_enter Tryz.func56, Tryz.ntmps56
    go_wp2_with (at_builtin
                 refine wpList_app8 bt _ rfl (.tmp 9) (.tmp 10) rfl w.heap.size (.slice none 0 0) 0 [] rfl (World.ownsRow_nil _ _ _ _) A n c l rfl h l.length (by rw [HLL.out]; omega) l rfl (by rw [HLL.out]; omega) (by simp) ?_
                 intro A1 c1 w1 hc1 ho1 hg1 hat1)
    have hb1 : Below w.heap.size w w1 := (Below.refl _ w).grown hg1 (by simp) (fun i hi => by simp [Value.ownBlock] at hi)
    have HB1 := Lib.hid hb1
    have HO1 := Lib.hid ho1
    clear hb1 ho1 hg1 hat1
    go_loopw [1, 5] (fun x v wr => ∃ (r : Nat) (d : List UInt8) (A' : Option Addr) (c' : Nat), x = .int .i64 r ∧ v = .slice A' d.length c' ∧ wr.ownsRow w.heap.size 5 1 (.slice A' d.length c') d.length (by8 d) ∧ Below w.heap.size w wr ∧ Hid (d ++ numB r = L) ∧ r ≤ 4611686018427387903) (fun x _ _ => (intOf x).toNat)
    case atStart => exact ⟨_, l, A1, c1, congrArg (Value.int .i64) (by omega), rfl, HO1.out, HB1.out, HL.out, by omega⟩
    case round =>
      obtain ⟨r, d, A', c', rfl, rfl, ho, hb, HD, hr⟩ := hrel
      have HB := Lib.hid hb
      have hsz := hb.size
      clear hb
      have hdl : d.length + (numB r).length = L.length := by rw [← HD.out]; simp
      have hrp := numB_pos r
      by_cases hlt : 128 ≤ r
      · have H2 : Hid (d ++ [moreB r] ++ numB (r / 128) = L) := by
          have := HD.out
          rw [numB_more hlt] at this
          show d ++ [moreB r] ++ numB (r / 128) = L
          simpa using this
        have hone := one_byte wr 5 (moreB r)
        rw [b8_more] at hone
        have HO := Lib.hid hone
        have hd2 : d.length + 1 ≤ n + 9 := by omega
        clear hone HD hdl hrp
        go_wp2_with (at_builtin; refine wpList_app8 bt _ rfl (.tmp 14) (.tmp 19) rfl w.heap.size (.slice A' d.length c') d.length d rfl (ho.alloc _) _ 1 1 [moreB r] rfl HO.out (d.length + 1) rfl (d ++ [moreB r]) rfl (by omega) (by simp; omega) ?_; intro A2 c2 w2 hc2 ho2 hg2 hat2)
        go_roundw
        case rel =>
          refine ⟨r / 128, d ++ [moreB r], A2, c2, ?_, by simp, by simpa using ho2, (HB.out.alloc hsz _).grown hg2 (by simp; omega) (fun i hi => (ho.lt i hi).1), H2, by omega⟩
          congr 1
        case measure => simp [intOf]; omega
      · have hlt : r < 128 := by omega
        have hq : (r : Int) % 256 = r := by omega
        have hL : d ++ [lowB r] = L := by have := HD.out; rwa [numB_last hlt] at this
        have hone := one_byte wr 5 (lowB r)
        rw [b8_lowB, hq] at hone
        have HO := Lib.hid hone
        have HL2 := Lib.hid hL
        have hll : d.length + 1 = L.length := by rw [← hL]; simp
        clear hL hone HD hq hdl hrp
        go_wp2_with (at_builtin; refine wpList_app8 bt _ rfl (.tmp 23) (.tmp 26) rfl w.heap.size (.slice A' d.length c') d.length d rfl (ho.alloc _) _ 1 1 [lowB r] rfl HO.out L.length hll L HL2.out (by omega) (by simp; omega) ?_; intro A2 c2 w2 hc2 ho2 hg2 hat2)
        go_ret
        exact ⟨A2, c2, rfl, ho2, (HB.out.alloc hsz _).grown hg2 (by simp; omega) (fun i hi => (ho.lt i hi).1)⟩

theorem putNumR_nil (x : Int) (N : Nat) (hN : clampN x = N) (w : World) :
    Calls Tryz.prog 56 #[.slice none 0 0, .int .i64 x] w fun e w' => ∃ A' c', e = .returned (.slice A' (numB N).length c') ∧
      w'.ownsRow w.heap.size 5 1 (.slice A' (numB N).length c') (numB N).length (by8 (numB N)) ∧ Below w.heap.size w w' := by
  refine (putNumR_any none 0 0 [] x w (Rd.nil _ _) (by omega)).mono ?_
  rw [hN, Nat.zero_add, List.nil_append]
  exact fun _ _ h => h

end Go.Proofs.YtgnpmmhpeianpaaGreatDoor

/- sawyerref02: TakeNum. -/
namespace Go.Proofs.YtgnpmmhpeianpaaGreatDoor
open Go.RowKit

theorem numB_len_ge : ∀ (k n : Nat), 128 ^ k ≤ n → k + 1 ≤ (numB n).length
  | 0, n, _ => numB_pos n
  | k + 1, n, h => by
    have h1 : 128 ≤ n := by
      have : 0 < 128 ^ k := Nat.pow_pos (by omega)
      rw [Nat.pow_succ] at h
      omega
    rw [numB_more h1, List.length_cons]
    have := numB_len_ge k (n / 128) (by rw [Nat.pow_succ] at h; exact (Nat.le_div_iff_mul_le (by omega)).2 h)
    omega
theorem tn_nine (l : List UInt8) (x : Int) : tnGo l 9 x = (x, 0) := by
  cases l with
  | nil => rfl
  | cons a l => rw [tnGo, if_pos (.inl rfl)]
theorem pow27 (k : Nat) : (2 : Int) ^ (7 * k) = ((128 ^ k : Nat) : Int) := by
  rw [show (128 : Nat) = 2 ^ 7 from rfl, ← Nat.pow_mul]
  push_cast
  rfl
theorem pow_le8 {k : Nat} (h : k ≤ 8) : 128 ^ k ≤ 72057594037927936 := by
  have := Nat.pow_le_pow_right (n := 128) (by omega) h
  exact this
theorem tnStep_nat {k X : Nat} (c : UInt8) (hX : X < 128 ^ k) (hk : k ≤ 8) : tnStep k (X : Int) c = ((X + c.toNat % 128 * 128 ^ k : Nat) : Int) := by
  rw [tnStep_is k _ c (by omega) (by rw [pow27]; omega) (by omega), pow27]
  push_cast
  rfl

/-- what the reference's TakeNum has read of l. -/
structure TnM (l : List UInt8) (k X : Nat) (W : Int) : Prop where
  go : tnGo l 0 0 = tnGo (l.drop k) k (X : Int)
  lt : k ≤ 8 → X < 128 ^ k
  w : k ≤ 8 → W = ((128 ^ k : Nat) : Int)
/-- a round's facts. -/
theorem tn_round {l : List UInt8} {k X : Nat} {W : Int} {c : UInt8} (h : TnM l k X W) (hk : k ≤ 8) (hc : l[k]? = some c) :
    (k = 8 ∧ 63 < c.toNat % 128 → takeNum l = none) ∧
    (¬ (k = 8 ∧ 63 < c.toNat % 128) → c.toNat < 128 → (c.toNat = 0 ∧ 0 < k → takeNum l = none ∧ (numB (X + c.toNat % 128 * 128 ^ k)).length ≠ k + 1) ∧
      (¬ (c.toNat = 0 ∧ 0 < k) → takeNum l = some (X + c.toNat % 128 * 128 ^ k, l.drop (k + 1)) ∧ (numB (X + c.toNat % 128 * 128 ^ k)).length = k + 1)) ∧
    (¬ c.toNat < 128 → ∀ W' : Int, (k ≤ 7 → W' = W * 128) → TnM l (k + 1) (X + c.toNat % 128 * 128 ^ k) W') := by
  have hX := h.lt hk
  have hs := tnStep_nat c hX hk
  have hp := pow_le8 hk
  have hpos : 0 < 128 ^ k := Nat.pow_pos (by omega)
  have hD : l.drop k = c :: l.drop (k + 1) := by
    obtain ⟨hk', e⟩ := List.getElem?_eq_some_iff.1 hc
    rw [List.drop_eq_getElem_cons hk', e]
  have hgo := h.go
  rw [hD, tnGo] at hgo
  have hmul : c.toNat % 128 * 128 ^ k ≤ 127 * 128 ^ k := Nat.mul_le_mul_right _ (by omega)
  refine ⟨fun ⟨h8, h63⟩ => ?_, fun hn hlt => ⟨fun ⟨hz, h0⟩ => ⟨?_, ?_⟩, fun hz => ⟨?_, ?_⟩⟩, fun hge W' hW => ?_⟩
  · rw [if_neg (by omega)] at hgo
    split at hgo
    · refine takeNum_none_big hgo ?_
      rw [hs]
      have : 64 * 128 ^ k ≤ c.toNat % 128 * 128 ^ k := Nat.mul_le_mul_right _ (by omega)
      subst h8
      have e : (128 : Nat) ^ 8 = 72057594037927936 := rfl
      omega
    · rw [h8, tn_nine] at hgo
      exact takeNum_none_of hgo
  · rw [if_pos (.inr ⟨hz, h0⟩)] at hgo
    exact takeNum_none_of hgo
  · obtain ⟨j, rfl⟩ : ∃ j, k = j + 1 := ⟨k - 1, by omega⟩
    rw [hz]
    simp only [Nat.zero_mod, Nat.zero_mul, Nat.add_zero]
    have := numB_len j X hX
    omega
  · rw [if_neg (by omega), if_pos hlt, hs] at hgo
    have hb : X + c.toNat % 128 * 128 ^ k ≤ 4611686018427387903 := by
      by_cases h8 : k = 8
      · have h3 : c.toNat % 128 ≤ 63 := by omega
        have : c.toNat % 128 * 128 ^ k ≤ 63 * 128 ^ k := Nat.mul_le_mul_right _ h3
        subst h8
        have e : (128 : Nat) ^ 8 = 72057594037927936 := rfl
        omega
      · have := Nat.pow_le_pow_right (n := 128) (by omega) (show k ≤ 7 by omega)
        have e : (128 : Nat) ^ 7 = 562949953421312 := rfl
        omega
    have := takeNum_some_of hgo (by omega)
    rw [this, Int.toNat_natCast]
  · have h1 : (numB (X + c.toNat % 128 * 128 ^ k)).length ≤ k + 1 := numB_len k _ (by rw [Nat.pow_succ]; omega)
    by_cases h0 : k = 0
    · subst h0
      have := numB_pos (X + c.toNat % 128 * 128 ^ 0)
      omega
    · have h2 := numB_len_ge k (X + c.toNat % 128 * 128 ^ k) (by
        have : 1 * 128 ^ k ≤ c.toNat % 128 * 128 ^ k := Nat.mul_le_mul_right _ (by omega)
        omega)
      omega
  · rw [if_neg (by omega), if_neg hge, hs] at hgo
    refine ⟨hgo.trans rfl, fun h8 => by rw [Nat.pow_succ]; omega, fun h8 => ?_⟩
    rw [hW (by omega), h.w hk, Nat.pow_succ]
    push_cast
    rfl
/-- what the reference's TakeNum answers: as the program's, but for blocks of its own. -/
def TnqPost (l : List UInt8) (w : World) (e : Ending) (w' : World) : Prop :=
  match takeNum l with
  | none => e = .returned (.tuple #[.int .i64 0, .slice none 0 0, .int .i64 2]) ∧ Below w.heap.size w w'
  | some (m, rest) => ∃ A' c', e = .returned (.tuple #[.int .i64 (m : Nat), .slice A' rest.length c', .int .i64 0]) ∧ w'.ownsRow w.heap.size 5 1 (.slice A' rest.length c') rest.length (by8 rest) ∧ Below w.heap.size w w'
theorem tnq_none {l : List UInt8} {w w' : World} (h : takeNum l = none) (hb : Below w.heap.size w w' := by exact Below.refl _ _) : TnqPost l w (.returned (.tuple #[.int .i64 0, .slice none 0 0, .int .i64 2])) w' := by unfold TnqPost; rw [h]; exact ⟨rfl, hb⟩
theorem tnq_some {l rest : List UInt8} {w w' : World} {m : Nat} {A' : Option Addr} {n c' : Nat} (h : takeNum l = some (m, rest)) (hn : rest.length = n) (ho : w'.ownsRow w.heap.size 5 1 (.slice A' n c') n (by8 rest)) (hb : Below w.heap.size w w') :
    TnqPost l w (.returned (.tuple #[.int .i64 (m : Int), .slice A' n c', .int .i64 0])) w' := by
  subst hn
  unfold TnqPost; rw [h]; exact ⟨A', c', rfl, ho, hb⟩
theorem tnq_some' {l rest : List UInt8} {w w' : World} {m : Nat} {v : Int} {A' : Option Addr} {n c' : Nat} (hv : v = (m : Int)) (h : takeNum l = some (m, rest)) (hn : rest.length = n) (ho : w'.ownsRow w.heap.size 5 1 (.slice A' n c') n (by8 rest)) (hb : Below w.heap.size w w') :
    TnqPost l w (.returned (.tuple #[.int .i64 v, .slice A' n c', .int .i64 0])) w' := by
  rw [hv]; exact tnq_some h hn ho hb
theorem tn_end {l : List UInt8} {k X : Nat} {W : Int} (h : TnM l k X W) (he : l.length ≤ k ∨ k = 9) : takeNum l = none := by
  have hgo := h.go
  rcases he with he | rfl
  · rw [List.drop_eq_nil_of_le he] at hgo
    exact takeNum_none_of hgo
  · rw [tn_nine] at hgo
    exact takeNum_none_of hgo

set_option maxRecDepth 100000 in
set_option maxHeartbeats 1000000 in
theorem takeNumR_any (A : Option Addr) (n c : Nat) (l : List UInt8) (w : World) (h : Rd w A n (by8 l)) (hnc : n ≤ c) (hn : n ≤ 140737488355328) (hcm : c ≤ 9223372036854775807) :
    Calls Tryz.prog 64 #[.slice A n c] w (TnqPost l w) := by
  have hl : l.length = n := by simpa using h.1
  have HL := Lib.hid hl
  have HH := Lib.hid h
  clear hl h
  go_enter Tryz.func64, Tryz.ntmps64
  go_wp2_with fail
  go_loop [5, 6, 7] (fun v5 v6 i => ∃ (k X : Nat) (W : Int), k ≤ n ∧ k ≤ 9 ∧ i = .int .i64 k ∧ v5 = .int .i64 (X : Int) ∧ v6 = .int .i64 W ∧ Hid (TnM l k X W)) (fun _ _ i => n - (intOf i).toNat)
  case atStart => exact ⟨0, 0, 1, Nat.zero_le _, by omega, rfl, rfl, rfl, ⟨rfl, fun _ => by simp, fun _ => by simp⟩⟩
  case round =>
    obtain ⟨k, X, W, hk, hk9, rfl, rfl, rfl, HT⟩ := hrel
    by_cases hlt : k < n ∧ k < 9
    · obtain ⟨hlt, h9⟩ := hlt
      obtain ⟨b, o, cb, rfl, hcb, hc⟩ := HH.out.byte hlt
      obtain ⟨r1, r2, r3⟩ := tn_round HT.out (by omega) hcb
      have hX := HT.out.lt (by omega)
      have hWv := HT.out.w (by omega)
      have hp8 := pow_le8 (k := k) (by omega)
      have hppos : 0 < 128 ^ k := Nat.pow_pos (by omega)
      have hb := cb.toNat_lt
      have hmul : cb.toNat % 128 * 128 ^ k ≤ 127 * 128 ^ k := Nat.mul_le_mul_right _ (by omega)
      obtain ⟨P, hP⟩ : ∃ P : Nat, cb.toNat % 128 * 128 ^ k = P := ⟨_, rfl⟩
      obtain ⟨N, hN⟩ : ∃ N : Nat, X + P = N := ⟨_, rfl⟩
      rw [hP] at r2 r3 hmul
      rw [hN] at r2 r3
      have hPW : ((cb.toNat : Int) % 128) * W = (P : Int) := by rw [hWv, ← hP]; push_cast; rfl
      have hWb : 0 ≤ W ∧ W ≤ 72057594037927936 := by rw [hWv]; omega
      obtain ⟨hW0, hW1⟩ := hWb
      have hPb : P ≤ 127 * 72057594037927936 := by omega
      have hXb : X ≤ 72057594037927936 := by omega
      have HPT : Hid (¬ (k = 8 ∧ 63 < cb.toNat % 128) → X + P ≤ 4611686018427387903) := by
        intro hA
        rw [← hP]
        by_cases h8 : k = 8
        · have h3 : cb.toNat % 128 ≤ 63 := by omega
          have h4 : cb.toNat % 128 * 128 ^ k ≤ 63 * 128 ^ k := Nat.mul_le_mul_right _ h3
          have e : (128 : Nat) ^ k = 72057594037927936 := by rw [h8]
          omega
        · have h4 := Nat.pow_le_pow_right (n := 128) (by omega) (show k ≤ 7 by omega)
          have e : (128 : Nat) ^ 7 = 562949953421312 := rfl
          have h5 : cb.toNat % 128 * 128 ^ k ≤ 127 * 128 ^ k := Nat.mul_le_mul_right _ (by omega)
          omega
      have HN := Lib.hid hN
      have HNI : Hid ((X : Int) + (P : Int) = (N : Int)) := by show _ = _; omega
      have R1 := Lib.hid r1
      have R2 := Lib.hid r2
      have R3 := Lib.hid r3
      have HCB := Lib.hid hcb
      clear r1 r2 r3 hX hWv hp8 hppos hmul hP hcb hN
      have i0 : (0 : Int) ≤ (k : Int) := by omega
      have i1 : (k : Int) < (n : Int) := by omega
      by_cases hA : k = 8 ∧ 63 < cb.toNat % 128
      · obtain ⟨h8, h63⟩ := hA
        have HV : Hid (takeNum l = none) := R1.out ⟨h8, h63⟩
        have e8 : ((k : Int) == 8) = true := by simp [h8]
        have e63 : decide (63 < (cb.toNat : Int) % 128) = true := decide_eq_true (by omega)
        clear h8 hPW
        go_wp2_with fail
        go_ret3
        exact tnq_none HV.out
      · have hgu : ((k : Int) == 8) = false ∨ ((k : Int) == 8) = true ∧ decide (63 < (cb.toNat : Int) % 128) = false := by
          by_cases h8 : k = 8
          · exact .inr ⟨by simp [h8], decide_eq_false (by omega)⟩
          · exact .inl (by simp; omega)
        have hXP : X + P ≤ 4611686018427387903 := HPT.out hA
        have HCN : Hid (clampN ((X : Int) + (P : Int)) = N) := by show _ = _; rw [HNI.out]; exact clampN_of (by have := HN.out; omega)
        have HA := Lib.hid hA
        clear hA
        by_cases hsm : cb.toNat < 128
        · by_cases hz : cb.toNat = 0 ∧ 0 < k
          · obtain ⟨v1, v2⟩ := (R2.out HA.out hsm).1 hz
            have HV := Lib.hid v1
            have e1 : (((numB N).length : Int) == (k : Int) + 1) = false := by simp; omega
            clear hz v1 v2
            rcases hgu with e8 | ⟨e8, e63⟩
            all_goals
              go_wp2_with fail
              (with_reducible refine (putNumR_nil ((X : Int) + (P : Int)) N HCN.out _).mono ?_)
              rintro e w1 ⟨A1, c1, rfl, ho1, hb1⟩
              have HB1 := Lib.hid hb1
              clear hb1 ho1
              go_wp2_with fail
              go_ret3
              exact tnq_none HV.out HB1.out
          · obtain ⟨v1, v2⟩ := (R2.out HA.out hsm).2 hz
            have HV := Lib.hid v1
            have HNL := Lib.hid v2
            have hcut := HH.out.cut (k := k + 1) (cap := c) (by omega) hnc
            rw [← by8_drop] at hcut
            have HLN : Hid ((l.drop (k + 1)).length = n - (k + 1)) := by show _ = _; rw [List.length_drop, HL.out]
            clear hz v1 v2
            by_cases hcap : c = k + 1
            · have hnil : l.drop (k + 1) = [] := List.eq_nil_of_length_eq_zero (by rw [HLN.out]; omega)
              have HV0 : Hid (takeNum l = some (N, [])) := by have := HV.out; rwa [hnil] at this
              subst hcap
              clear hcut hnil
              rcases hgu with e8 | ⟨e8, e63⟩
              all_goals
                go_wp2_with fail
                (with_reducible refine (putNumR_nil ((X : Int) + (P : Int)) N HCN.out _).mono ?_)
                rintro e w1 ⟨A1, c1, rfl, ho1, hb1⟩
                have HB1 := Lib.hid hb1
                have hs1 := hb1.size
                rw [HNL.out]
                clear hb1 ho1
                go_wp2_with (at_builtin
                             refine wpList_app8 bt _ rfl (.tmp 48) (.tmp 52) rfl w1.heap.size (.slice (some ⟨w1.heap.size, 0, none⟩) 0 0) 0 [] rfl (own_empty w1 5 1) _ 0 0 [] rfl (Rd.nil _ _) 0 (by omega) [] rfl (by omega) (by simp) ?_
                             intro pA pc pw phc pown pg pat)
                have hbw : Below w.heap.size w pw := HB1.out.trans (((((Mod.refl Non w1).alloc _).trans (Mod.of_grown (S := fun g => (Value.slice (some ⟨w1.heap.size, 0, none⟩) 0 0).ownBlock = some g) pg fun _ h => h) fun g hg => .inr (by simp [Value.ownBlock] at hg; omega))).below0.mono hs1)
                go_ret3
                exact tnq_some' HNI.out HV0.out rfl (own_mono pown hs1) hbw
            · rw [if_neg hcap] at hcut
              have HCUT : Hid (Rd w (some ⟨b, o + (k + 1), none⟩) (n - (k + 1)) (by8 (l.drop (k + 1)))) := hcut
              clear hcut
              rcases hgu with e8 | ⟨e8, e63⟩
              all_goals
                go_wp2_with fail
                (with_reducible refine (putNumR_nil ((X : Int) + (P : Int)) N HCN.out _).mono ?_)
                rintro e w1 ⟨A1, c1, rfl, ho1, hb1⟩
                have HB1 := Lib.hid hb1
                have hs1 := hb1.size
                rw [HNL.out]
                clear hb1 ho1
                go_wp2_with (at_builtin
                             refine wpList_app8 bt _ rfl (.tmp 48) (.tmp 52) rfl w1.heap.size (.slice (some ⟨w1.heap.size, 0, none⟩) 0 0) 0 [] rfl (own_empty w1 5 1) _ (n - (k + 1)) _ (l.drop (k + 1)) rfl ((HCUT.out.mod0 (Mod.of_below HB1.out)).alloc _) (n - (k + 1)) (by omega) (l.drop (k + 1)) rfl (by omega) (by simp) ?_
                             intro pA pc pw phc pown pg pat)
                have hbw : Below w.heap.size w pw := HB1.out.trans (((((Mod.refl Non w1).alloc _).trans (Mod.of_grown (S := fun g => (Value.slice (some ⟨w1.heap.size, 0, none⟩) 0 0).ownBlock = some g) pg fun _ h => h) fun g hg => .inr (by simp [Value.ownBlock] at hg; omega))).below0.mono hs1)
                go_ret3
                exact tnq_some' HNI.out HV.out HLN.out (own_mono pown hs1) hbw
        · have HR3 := Lib.hid (R3.out hsm)
          by_cases h7 : k ≤ 7
          · have hW7 : W * 128 ≤ 72057594037927936 := by
              have hw := HT.out.w (by omega)
              have := Nat.pow_le_pow_right (n := 128) (by omega) h7
              have e : (128 : Nat) ^ 7 = 562949953421312 := rfl
              rw [hw]
              omega
            have HM := Lib.hid (HR3.out (W * 128) fun _ => rfl)
            rcases hgu with e8 | ⟨e8, e63⟩
            all_goals
              go_wp2_with fail
              go_round
              case rel => exact ⟨k + 1, N, W * 128, by omega, by omega, by go_num, by rw [← HN.out]; push_cast; rfl, rfl, HM.out⟩
              case measure => simp [intOf]; omega
          · have HM := Lib.hid fun W' : Int => HR3.out W' fun h => absurd h h7
            rcases hgu with e8 | ⟨e8, e63⟩
            all_goals
              go_wp2_with fail
              go_round
              case rel => exact ⟨k + 1, N, _, by omega, by omega, by go_num, by rw [← HN.out]; push_cast; rfl, rfl, HM.out _⟩
              case measure => simp [intOf]; omega
    · have HV : Hid (takeNum l = none) := tn_end HT.out (by rw [HL.out]; omega)
      rcases (show k = n ∨ k < n ∧ k = 9 by omega) with he | ⟨he, he9⟩
      all_goals
        go_wp2_with fail
        go_ret3
        exact tnq_none HV.out

end Go.Proofs.YtgnpmmhpeianpaaGreatDoor
