/- A segment's name: thirteen digits, in order, and back. Plain. -/
import Derived.Test.YtdpjnpjmokncdaaGreatDoorB04
import Derived.Lib.Atoi
import Derived.Lib.ItoaNum
namespace Go.Proofs.YtdpjnpjmokncdaaGreatDoor
open Go.RowKit

/-- k digits of a number. -/
def digF : Nat → Nat → List UInt8
  | 0, _ => []
  | k + 1, n => digF k (n / 10) ++ [UInt8.ofNat (48 + n % 10)]
theorem digF_len : ∀ (k n : Nat), (digF k n).length = k
  | 0, _ => rfl
  | k + 1, n => by simp [digF, digF_len k]
theorem repeatL_snoc (b : UInt8) : ∀ k : Nat, Lib.repeatL [b] (k + 1) = Lib.repeatL [b] k ++ [b]
  | 0 => rfl
  | k + 1 => by
    show [b] ++ Lib.repeatL [b] (k + 1) = ([b] ++ Lib.repeatL [b] k) ++ [b]
    rw [repeatL_snoc b k]
    simp
theorem digF_zero : ∀ k : Nat, digF k 0 = Lib.repeatL [48] k
  | 0 => rfl
  | k + 1 => by
    rw [digF, show (0 : Nat) / 10 = 0 from rfl, digF_zero k, repeatL_snoc]; rfl
theorem digF_dec : ∀ (k n : Nat), n < 10 ^ (k + 1) → Lib.repeatL [48] (k + 1 - (Lib.decDigits n).length) ++ Lib.decDigits n = digF (k + 1) n := by
  intro k
  induction k with
  | zero =>
    intro n h
    rw [Lib.decDigits_one (by simpa using h)]
    show [] ++ [UInt8.ofNat (48 + n)] = [] ++ [UInt8.ofNat (48 + n % 10)]
    rw [Nat.mod_eq_of_lt (by simpa using h)]
  | succ k ih =>
    intro n h
    by_cases hs : n < 10
    · rw [Lib.decDigits_one hs]
      show Lib.repeatL [48] (k + 1 + 1 - 1) ++ [UInt8.ofNat (48 + n)] = digF (k + 1) (n / 10) ++ [UInt8.ofNat (48 + n % 10)]
      rw [Nat.mod_eq_of_lt hs, Nat.div_eq_of_lt hs, digF_zero]
      rfl
    · have hd : Lib.decDigits n = Lib.decDigits (n / 10) ++ [UInt8.ofNat (48 + n % 10)] := by
        conv => lhs; rw [Lib.decDigits]
        rw [dif_neg hs]
      have hlt : n / 10 < 10 ^ (k + 1) := by
        rw [Nat.div_lt_iff_lt_mul (by omega)]
        rw [Nat.pow_succ] at h
        exact h
      have := ih (n / 10) hlt
      rw [hd, List.length_append, ← List.append_assoc]
      show Lib.repeatL [48] (k + 1 + 1 - ((Lib.decDigits (n / 10)).length + 1)) ++ Lib.decDigits (n / 10) ++ [UInt8.ofNat (48 + n % 10)] = digF (k + 1) (n / 10) ++ [UInt8.ofNat (48 + n % 10)]
      rw [← this, show k + 1 + 1 - ((Lib.decDigits (n / 10)).length + 1) = k + 1 - (Lib.decDigits (n / 10)).length by omega]
theorem walName_dig {n : Nat} (h : n ≤ 1099511627776) : walName n = ⟨([119, 97, 108, 47] ++ digF 13 n).toArray⟩ := by
  unfold walName
  rw [List.append_assoc, digF_dec 12 n (by omega)]

theorem digitVal_of {d : Nat} (h : d < 10) : Lib.digitVal (UInt8.ofNat (48 + d)) = some d := by
  have e : (UInt8.ofNat (48 + d)).toNat = 48 + d := by simp [UInt8.toNat_ofNat']; omega
  unfold Lib.digitVal
  rw [e, if_pos (by omega)]
  congr 1
  omega
theorem decFrom_snoc : ∀ (l : List UInt8) (acc : Nat) (b : UInt8), Lib.decFrom acc (l ++ [b]) = (Lib.decFrom acc l).bind fun v => (Lib.digitVal b).map fun d => v * 10 + d
  | [], acc, b => by
    show (match Lib.digitVal b with | some d => Lib.decFrom (acc * 10 + d) [] | none => none) = _
    cases Lib.digitVal b <;> rfl
  | a :: l, acc, b => by
    rw [List.cons_append, Lib.decFrom, Lib.decFrom]
    cases Lib.digitVal a with
    | none => rfl
    | some d => exact decFrom_snoc l _ b
theorem decFrom_digF : ∀ (k n : Nat), n < 10 ^ k → Lib.decFrom 0 (digF k n) = some n
  | 0, n, h => by
    obtain rfl : n = 0 := by simpa using h
    rfl
  | k + 1, n, h => by
    have hlt : n / 10 < 10 ^ k := by
      rw [Nat.div_lt_iff_lt_mul (by omega)]
      rw [Nat.pow_succ] at h
      exact h
    rw [digF, decFrom_snoc, decFrom_digF k _ hlt, digitVal_of (Nat.mod_lt _ (by omega))]
    simp only [Option.bind_some, Option.map_some]
    congr 1
    omega
theorem digF_head : ∀ (k n : Nat), ∃ b r, digF (k + 1) n = b :: r ∧ 48 ≤ b.toNat
  | 0, n => ⟨_, [], rfl, by simp [UInt8.toNat_ofNat']; omega⟩
  | k + 1, n => by
    obtain ⟨b, r, h, hb⟩ := digF_head k (n / 10)
    exact ⟨b, r ++ [UInt8.ofNat (48 + n % 10)], by rw [digF, h]; rfl, hb⟩
theorem atoi_digF {k n : Nat} (h : n < 10 ^ (k + 1)) : Lib.atoi (digF (k + 1) n) = some (n : Int) := by
  obtain ⟨b, r, hd, hb⟩ := digF_head k n
  have hdec := decFrom_digF (k + 1) n h
  rw [hd] at hdec ⊢
  unfold Lib.atoi
  dsimp only
  rw [if_neg (by
    intro e
    simp only [beq_iff_eq] at e
    rw [e] at hb
    revert hb
    decide), if_neg (by
    intro e
    simp only [beq_iff_eq] at e
    rw [e] at hb
    revert hb
    decide)]
  unfold Lib.decNat
  rw [if_neg (by simp), hdec]
  rfl

/-- the names' order is the numbers'. -/
theorem lt_snoc {x y : List UInt8} {c d : UInt8} (hl : x.length = y.length) : x ++ [c] < y ++ [d] ↔ x < y ∨ x = y ∧ c < d := by
  induction x generalizing y with
  | nil =>
    cases y with
    | nil => simp [List.cons_lt_cons_iff]
    | cons _ _ => simp at hl
  | cons a x ih =>
    cases y with
    | nil => simp at hl
    | cons b y =>
      simp only [List.length_cons, Nat.add_right_cancel_iff] at hl
      simp only [List.cons_append, List.cons_lt_cons_iff, ih hl, List.cons.injEq]
      constructor
      · rintro (h | ⟨rfl, h | ⟨rfl, h⟩⟩)
        · exact .inl (.inl h)
        · exact .inl (.inr ⟨rfl, h⟩)
        · exact .inr ⟨⟨rfl, rfl⟩, h⟩
      · rintro ((h | ⟨rfl, h⟩) | ⟨⟨rfl, rfl⟩, h⟩)
        · exact .inl h
        · exact .inr ⟨rfl, .inl h⟩
        · exact .inr ⟨rfl, .inr ⟨rfl, h⟩⟩
theorem digF_inj : ∀ (k : Nat) {a b : Nat}, a < 10 ^ k → b < 10 ^ k → digF k a = digF k b → a = b := fun k a b ha hb h => by
  have h1 := decFrom_digF k a ha
  rw [h, decFrom_digF k b hb] at h1
  simpa using h1.symm
theorem digF_lt : ∀ (k : Nat) {a b : Nat}, a < 10 ^ k → b < 10 ^ k → (digF k a < digF k b ↔ a < b)
  | 0, a, b, ha, hb => by
    simp at ha hb
    subst ha; subst hb
    simp [digF]
  | k + 1, a, b, ha, hb => by
    have ha' : a / 10 < 10 ^ k := by
      rw [Nat.div_lt_iff_lt_mul (by omega)]
      rw [Nat.pow_succ] at ha
      exact ha
    have hb' : b / 10 < 10 ^ k := by
      rw [Nat.div_lt_iff_lt_mul (by omega)]
      rw [Nat.pow_succ] at hb
      exact hb
    have hc : UInt8.ofNat (48 + a % 10) < UInt8.ofNat (48 + b % 10) ↔ a % 10 < b % 10 := by
      rw [UInt8.lt_iff_toNat_lt]
      simp [UInt8.toNat_ofNat']
      omega
    rw [digF, digF, lt_snoc (by rw [digF_len, digF_len]), digF_lt k ha' hb', hc]
    constructor
    · rintro (h | ⟨h, h2⟩)
      · omega
      · have := digF_inj k ha' hb' h
        omega
    · intro h
      by_cases he : a / 10 = b / 10
      · exact .inr ⟨by rw [he], by omega⟩
      · exact .inl (by omega)
theorem walName_lt {a b : Nat} (ha : a ≤ 1099511627776) (hb : b ≤ 1099511627776) : (walName a).data.toList < (walName b).data.toList ↔ a < b := by
  rw [walName_dig ha, walName_dig hb]
  simp only [List.cons_append, List.nil_append, List.cons_lt_cons_iff]
  have := digF_lt 13 (a := a) (b := b) (by omega) (by omega)
  simp [this]
theorem str_inj' (l k : List UInt8) : (⟨l.toArray⟩ : ByteArray) = ⟨k.toArray⟩ ↔ l = k := by
  constructor
  · intro h
    have := congrArg (fun s : ByteArray => s.data.toList) h
    simpa using this
  · rintro rfl; rfl
theorem walName_inj {a b : Nat} (ha : a ≤ 1099511627776) (hb : b ≤ 1099511627776) (h : walName a = walName b) : a = b := by
  rw [walName_dig ha, walName_dig hb, str_inj'] at h
  have h2 : digF 13 a = digF 13 b := by simpa using h
  exact digF_inj 13 (by omega) (by omega) h2

end Go.Proofs.YtdpjnpjmokncdaaGreatDoor
