/- The frame's way there and back. Plain. -/
import Derived.Test.YtdpjnpjmokncdaaGreatDoorB23
import Derived.Laws.BitsLemmas
import Derived.Lib.EndianBits
namespace Go.Proofs.YtdpjnpjmokncdaaGreatDoor
open Go.RowKit

theorem lowB_nat (y : Int) : ((lowB y).toNat : Int) = y % 256 := by
  have h1 := Int.emod_nonneg y (show (256 : Int) ≠ 0 by omega)
  have h2 := Int.emod_lt_of_pos y (show (0 : Int) < 256 by omega)
  unfold lowB
  have : (UInt8.ofNat (y % 256).toNat).toNat = (y % 256).toNat := by simp [UInt8.toNat_ofNat']; omega
  rw [this]
  omega

theorem moreB_nat (n : Nat) : 128 ≤ (moreB n).toNat ∧ (moreB n).toNat % 128 = n % 128 := by
  have h : ∀ y : Fin 256, 128 ≤ (UInt8.ofNat (bits BinOp.or IntKind.u8 (y.val : Int) 128).toNat).toNat ∧ (UInt8.ofNat (bits BinOp.or IntKind.u8 (y.val : Int) 128).toNat).toNat % 128 = y.val % 128 := by decide +kernel
  have h1 := h ⟨n % 256, Nat.mod_lt _ (by omega)⟩
  have e : ((n % 256 : Nat) : Int) = (n : Int) % 256 := by omega
  simp only [e] at h1
  unfold moreB
  exact ⟨h1.1, by rw [h1.2]; omega⟩

theorem tnStep_is (k : Nat) (x : Int) (c : UInt8) (hx0 : 0 ≤ x) (hx : x < 2 ^ (7 * k)) (hk : 7 * k ≤ 56) : tnStep k x c = x + ((c.toNat % 128 : Nat) : Int) * 2 ^ (7 * k) := by
  unfold tnStep
  have hp : (2 : Int) ^ (7 * k) ≤ 2 ^ 56 := by
    have := Nat.pow_le_pow_right (n := 2) (by omega) hk
    exact_mod_cast this
  have hpos : (0 : Int) < 2 ^ (7 * k) := Int.pow_pos (by omega)
  have hc : ((c.toNat % 128 : Nat) : Int) ≤ 127 := by omega
  have hc0 : (0 : Int) ≤ ((c.toNat % 128 : Nat) : Int) := by omega
  generalize ((c.toNat % 128 : Nat) : Int) = y at *
  have h1 : y * 2 ^ (7 * k) ≤ 127 * 2 ^ 56 := Int.mul_le_mul hc hp (by omega) (by omega)
  have h0 : 0 ≤ y * 2 ^ (7 * k) := Int.mul_nonneg hc0 (by omega)
  have h56 : (127 : Int) * 2 ^ 56 < 2 ^ 64 := by decide
  have h64 : (2 : Int) ^ 56 < 2 ^ 64 := by decide
  rw [wraps_u64 _ h0 (Int.lt_of_le_of_lt h1 h56)]
  refine bits_join_low .u64 64 (by decide) wraps_u64 (7 * k) x _ hx0 hx (by omega) h0 (Int.mul_emod_left _ _) (Int.lt_of_le_of_lt h1 h56)

theorem tnGo_numB : ∀ (f n k : Nat) (x : Int) (r : List UInt8), n ≤ f → k + (numB n).length ≤ 9 → 0 ≤ x → x < 2 ^ (7 * k) → (n ≠ 0 ∨ k = 0) →
    tnGo (numB n ++ r) k x = (x + (n : Int) * 2 ^ (7 * k), k + (numB n).length) := by
  intro f
  induction f with
  | zero =>
    intro n k x r hf hk h0 h1 hn
    obtain rfl : n = 0 := by omega
    obtain rfl : k = 0 := by omega
    rw [numB_last (by omega)]
    have hl := lowB_nat 0
    show (if 0 = 9 ∨ (lowB ((0 : Nat) : Int)).toNat = 0 ∧ 0 < 0 then _ else _) = _
    rw [if_neg (by omega)]
    have e : (lowB ((0 : Nat) : Int)).toNat = 0 := by
      have := lowB_nat ((0 : Nat) : Int); omega
    rw [if_pos (by omega), tnStep_is 0 x _ h0 h1 (by omega), e]
    simp
  | succ f ih =>
    intro n k x r hf hk h0 h1 hn
    by_cases hs : n < 128
    · rw [numB_last hs] at hk ⊢
      have e : (lowB (n : Int)).toNat = n := by
        have := lowB_nat (n : Int); omega
      simp only [List.length_cons, List.length_nil] at hk
      show (if k = 9 ∨ (lowB (n : Int)).toNat = 0 ∧ 0 < k then _ else if (lowB (n : Int)).toNat < 128 then _ else _) = _
      rw [if_neg (by omega), if_pos (by omega), tnStep_is k x _ h0 h1 (by omega), e, Nat.mod_eq_of_lt hs]
      simp
    · rw [numB_more (by omega)] at hk ⊢
      obtain ⟨hm1, hm2⟩ := moreB_nat n
      simp only [List.length_cons] at hk
      have hpos : 0 < (numB (n / 128)).length := by
        rw [numB]; split <;> simp
      show (if k = 9 ∨ (moreB n).toNat = 0 ∧ 0 < k then _ else if (moreB n).toNat < 128 then _ else _) = _
      rw [if_neg (by omega), if_neg (by omega), tnStep_is k x _ h0 h1 (by omega), hm2]
      have hp : (2 : Int) ^ (7 * (k + 1)) = 2 ^ (7 * k) * 128 := by rw [show 7 * (k + 1) = 7 * k + 7 by omega, Int.pow_add]; rfl
      have hpp : (0 : Int) < 2 ^ (7 * k) := Int.pow_pos (by omega)
      have hmod : ((n % 128 : Nat) : Int) ≤ 127 := by omega
      have hm0 : (0 : Int) ≤ ((n % 128 : Nat) : Int) := by omega
      have hle : ((n % 128 : Nat) : Int) * 2 ^ (7 * k) ≤ 127 * 2 ^ (7 * k) := Int.mul_le_mul_of_nonneg_right hmod (by omega)
      have hge : 0 ≤ ((n % 128 : Nat) : Int) * 2 ^ (7 * k) := Int.mul_nonneg hm0 (by omega)
      refine Eq.trans (ih (n / 128) (k + 1) (x + ((n % 128 : Nat) : Int) * 2 ^ (7 * k)) r (by omega) (by omega) (by omega) (by rw [hp]; omega) (by omega)) ?_
      rw [hp]
      simp only [List.length_cons, Prod.mk.injEq]
      refine ⟨?_, by omega⟩
      have hd : (n : Int) = ((n % 128 : Nat) : Int) + 128 * ((n / 128 : Nat) : Int) := by omega
      generalize ((n % 128 : Nat) : Int) = a at *
      generalize ((n / 128 : Nat) : Int) = b at *
      generalize (2 : Int) ^ (7 * k) = p at *
      rw [hd, Int.add_mul, Int.add_assoc, Int.mul_comm p 128, ← Int.mul_assoc, Int.mul_comm b 128]

theorem takeNum_numB {n : Nat} (hn : n ≤ 4611686018427387903) (r : List UInt8) : takeNum (numB n ++ r) = some (n, r) := by
  have h9 := numB_len9 hn
  have hpos : 0 < (numB n).length := by
    rw [numB]; split <;> simp
  have h := tnGo_numB n n 0 0 r (Nat.le_refl _) (by omega) (by omega) (by simp) (.inr rfl)
  simp only [Nat.mul_zero, Int.pow_zero, Int.mul_one, Int.zero_add, Nat.zero_add] at h
  unfold takeNum
  rw [h]
  simp only
  rw [if_neg (by omega)]
  simp

theorem numStep_is (x : Int) (c : UInt8) (h0 : 0 ≤ x) (h1 : x < 16777216) : numStep x c = x * 256 + (c.toNat : Int) := by
  unfold numStep
  have hc := c.toNat_lt
  rw [show x * 256 % 18446744073709551616 = x * 256 by omega]
  exact bits_join .u64 64 (by decide) wraps_u64 8 (x * 256) _ (by omega) (by omega) (by omega) (by omega) (by omega) (by omega)

theorem numFold_high4 {x : Int} (h0 : 0 ≤ x) (h1 : x < 4294967296) : numFold (high4 x) = x := by
  unfold numFold high4
  simp only [List.foldl_cons, List.foldl_nil]
  have a := lowB_nat (x / 256 / 256 / 256)
  have b := lowB_nat (x / 256 / 256)
  have c := lowB_nat (x / 256)
  have d := lowB_nat x
  have s1 := numStep_is 0 (lowB (x / 256 / 256 / 256)) (by omega) (by omega)
  rw [s1]
  have s2 := numStep_is (0 * 256 + ((lowB (x / 256 / 256 / 256)).toNat : Int)) (lowB (x / 256 / 256)) (by omega) (by omega)
  rw [s2]
  have s3 := numStep_is ((0 * 256 + ((lowB (x / 256 / 256 / 256)).toNat : Int)) * 256 + ((lowB (x / 256 / 256)).toNat : Int)) (lowB (x / 256)) (by omega) (by omega)
  rw [s3]
  rw [numStep_is _ _ (by omega) (by omega)]
  omega

theorem takeFrame_frameB {b : List UInt8} {most : Int} (hb : (b.length : Int) ≤ most) (hm : most ≤ 4611686018427387903) (r : List UInt8) : takeFrame (frameB b ++ r) most = some (b, r) := by
  have hcr := bits_u32 .xor IntKind.u32.max (crcFold (numB b.length ++ b))
  have e : frameB b ++ r = numB b.length ++ (high4 (crcOf (numB b.length ++ b)) ++ (b ++ r)) := by unfold frameB; simp
  rw [e]
  unfold takeFrame
  rw [takeNum_numB (by omega)]
  have hl4 : (high4 (crcOf (numB b.length ++ b))).length = 4 := rfl
  simp only
  rw [if_neg (by simp only [List.length_append, hl4]; omega)]
  have t4 : (high4 (crcOf (numB b.length ++ b)) ++ (b ++ r)).take 4 = high4 (crcOf (numB b.length ++ b)) := by
    rw [List.take_append_of_le_length (by rw [hl4]; omega), List.take_of_length_le (by rw [hl4]; omega)]
  have d4 : (high4 (crcOf (numB b.length ++ b)) ++ (b ++ r)).drop 4 = b ++ r := by
    rw [List.drop_append_of_le_length (by rw [hl4]; omega), List.drop_of_length_le (by rw [hl4]; omega)]; rfl
  have d4m : (high4 (crcOf (numB b.length ++ b)) ++ (b ++ r)).drop (4 + b.length) = r := by
    rw [← List.drop_drop, d4]; simp
  have tk : (numB b.length ++ (high4 (crcOf (numB b.length ++ b)) ++ (b ++ r))).take ((numB b.length ++ (high4 (crcOf (numB b.length ++ b)) ++ (b ++ r))).length - (high4 (crcOf (numB b.length ++ b)) ++ (b ++ r)).length) = numB b.length := by
    rw [List.length_append, Nat.add_sub_cancel]; simp
  rw [t4, d4, d4m, tk, numFold_high4 (by unfold crcOf; omega) (by unfold crcOf; omega)]
  simp

theorem takeFrame_nil (most : Int) : takeFrame [] most = none := by
  unfold takeFrame
  have : takeNum [] = none := by decide +kernel
  rw [this]

end Go.Proofs.YtdpjnpjmokncdaaGreatDoor

/- Versions, plain: which may be, their bytes, and back. -/
namespace Go.Proofs.YtdpjnpjmokncdaaGreatDoor
open Go.RowKit

/-- a table's note. -/
structure Mt where
  num : Int
  level : Int
  count : Int
  first : List UInt8
  last : List UInt8
  deriving DecidableEq
/-- a version. -/
structure Vs where
  gen : Int
  next : Int
  log : Int
  seq : Int
  tables : List Mt
  deriving DecidableEq

def inN (x : Int) : Bool := decide (0 ≤ x ∧ x ≤ 1099511627776)
def isKeyB (l : List UInt8) : Bool := decide (1 ≤ l.length ∧ l.length ≤ 64)
def lessB (a b : List UInt8) : Bool := decide (a < b)
def mtRight (m : Mt) : Bool := inN m.num && (decide (0 ≤ m.level ∧ m.level ≤ 3) && (decide (1 ≤ m.count ∧ m.count ≤ 64) && (isKeyB m.first && (isKeyB m.last && !lessB m.last m.first))))
/-- does a note go ahead of another one? -/
def aheadB (a b : Mt) : Bool := if a.level < b.level then true else if b.level < a.level then false else if 0 < a.level then lessB a.first b.first else decide (b.num < a.num)
/-- may a note stand behind these? -/
def condAt (next : Int) (pre : List Mt) (m : Mt) : Bool :=
  !(pre.map (·.num)).contains m.num && (mtRight m && (decide (m.num < next) && (match pre.getLast? with
    | none => true
    | some l => aheadB l m && !(decide (l.level = m.level ∧ 0 < m.level) && !lessB l.last m.first))))
def tabsAll (next : Int) : List Mt → List Mt → Bool
  | _, [] => true
  | pre, m :: r => condAt next pre m && tabsAll next (pre ++ [m]) r
def headOk (v : Vs) : Bool := inN v.gen && (inN v.next && (inN v.log && (inN v.seq && decide (v.tables.length ≤ 4096))))
def checkV (v : Vs) : Bool := headOk v && tabsAll v.next [] v.tables

theorem inN_iff {x : Int} : inN x = true ↔ 0 ≤ x ∧ x ≤ 1099511627776 := by unfold inN; simp
theorem isKeyB_iff {l : List UInt8} : isKeyB l = true ↔ 1 ≤ l.length ∧ l.length ≤ 64 := by unfold isKeyB; simp
theorem tabsAll_right {next : Int} : ∀ {l pre : List Mt}, tabsAll next pre l = true → ∀ m ∈ l, mtRight m = true
  | [], _, _, _, h => by cases h
  | m :: r, pre, h, k, hk => by
    rw [tabsAll, Bool.and_eq_true] at h
    rcases List.mem_cons.1 hk with rfl | hk
    · have := h.1
      unfold condAt at this
      simp only [Bool.and_eq_true] at this
      exact this.2.1
    · exact tabsAll_right h.2 k hk

/-- numbers as bytes. -/
def nB (x : Int) : List UInt8 := numB (clampN x)
def encM (m : Mt) : List UInt8 := nB m.num ++ (nB m.level ++ (nB m.count ++ (nB m.first.length ++ (m.first ++ (nB m.last.length ++ m.last)))))
def encMs : List Mt → List UInt8
  | [] => []
  | m :: r => encM m ++ encMs r
def encV (v : Vs) : List UInt8 := nB v.gen ++ (nB v.next ++ (nB v.log ++ (nB v.seq ++ (nB v.tables.length ++ encMs v.tables))))
theorem encMs_snoc (l : List Mt) (m : Mt) : encMs (l ++ [m]) = encMs l ++ encM m := by
  induction l with
  | nil => simp [encMs]
  | cons a r ih => rw [List.cons_append, encMs, encMs, ih, List.append_assoc]

/-- a reader: what is left, and whether something was wrong. -/
structure Rs where
  b : List UInt8
  bad : Bool
def takeText (l : List UInt8) (most : Int) : Option (List UInt8 × List UInt8) := match takeNum l with
  | none => none
  | some (n, rest) => if most < (n : Int) ∨ (rest.length : Int) < (n : Int) then none else some (rest.take n, rest.drop n)
def numP (s : Rs) : Int × Rs := match takeNum s.b with
  | none => (0, ⟨[], true⟩)
  | some (n, rest) => ((n : Int), ⟨rest, s.bad⟩)
def textP (s : Rs) : List UInt8 × Rs := match takeText s.b 64 with
  | none => ([], ⟨[], true⟩)
  | some (t, rest) => (t, ⟨rest, s.bad⟩)
def metaP (s : Rs) : Mt × Rs :=
  let a := numP s; let b := numP a.2; let c := numP b.2; let d := textP c.2; let e := textP d.2
  (⟨a.1, b.1, c.1, d.1, e.1⟩, e.2)
def tabsP : Nat → Int → Rs → List Mt → List Mt × Rs
  | 0, _, s, acc => (acc, s)
  | f + 1, n, s, acc => if 0 < n ∧ acc.length ≤ 4096 ∧ s.bad = false then tabsP f (n - 1) (metaP s).2 (acc ++ [(metaP s).1]) else (acc, s)
def parseV (l : List UInt8) : Vs × Rs :=
  let a := numP ⟨l, false⟩; let b := numP a.2; let c := numP b.2; let d := numP c.2; let n := numP d.2
  let t := tabsP 4097 n.1 n.2 []
  (⟨a.1, b.1, c.1, d.1, t.1⟩, t.2)
def decV (l : List UInt8) : Option Vs := if (parseV l).2.bad = false ∧ checkV (parseV l).1 = true ∧ encV (parseV l).1 = l then some (parseV l).1 else none

theorem decV_some {l : List UInt8} {v : Vs} (h : decV l = some v) : checkV v = true ∧ encV v = l := by
  unfold decV at h
  split at h
  · rename_i hc
    cases h
    exact ⟨hc.2.1, hc.2.2⟩
  · cases h
theorem numP_nB {x : Int} (h0 : 0 ≤ x) (h1 : x ≤ 1099511627776) (r : List UInt8) (bad : Bool) : numP ⟨nB x ++ r, bad⟩ = (x, ⟨r, bad⟩) := by
  unfold numP nB
  have hc : clampN x = x.toNat := by unfold clampN; omega
  simp only
  rw [takeNum_numB (clampN_le x) r, hc]
  simp only
  rw [Int.toNat_of_nonneg h0]
theorem textP_nB {t : List UInt8} (h : t.length ≤ 64) (r : List UInt8) (bad : Bool) : textP ⟨nB t.length ++ (t ++ r), bad⟩ = (t, ⟨r, bad⟩) := by
  unfold textP takeText nB
  have hc : clampN (t.length : Int) = t.length := clampN_of (by omega)
  simp only
  rw [takeNum_numB (clampN_le _) _, hc]
  simp only
  rw [if_neg (by simp only [List.length_append]; omega)]
  simp
theorem metaP_encM {m : Mt} (h : mtRight m = true) (r : List UInt8) (bad : Bool) : metaP ⟨encM m ++ r, bad⟩ = (m, ⟨r, bad⟩) := by
  unfold mtRight at h
  simp only [Bool.and_eq_true, inN_iff, isKeyB_iff, decide_eq_true_eq] at h
  obtain ⟨h1, h2, h3, h4, h5, _⟩ := h
  unfold metaP encM
  simp only [List.append_assoc]
  rw [numP_nB h1.1 h1.2]
  simp only
  rw [numP_nB h2.1 (by omega)]
  simp only
  rw [numP_nB (by omega) (by omega)]
  simp only
  rw [textP_nB h4.2]
  simp only
  rw [textP_nB h5.2]
theorem tabsP_encMs : ∀ (l : List Mt) (f : Nat) (acc : List Mt) (r : List UInt8), l.length < f → acc.length + l.length ≤ 4096 → (∀ m ∈ l, mtRight m = true) →
    tabsP f (l.length : Int) ⟨encMs l ++ r, false⟩ acc = (acc ++ l, ⟨r, false⟩)
  | [], f, acc, r, hf, _, _ => by
    obtain ⟨g, rfl⟩ : ∃ g, f = g + 1 := ⟨f - 1, by simp at hf; omega⟩
    rw [tabsP, if_neg (by simp)]
    simp [encMs]
  | m :: l, f, acc, r, hf, ha, hm => by
    obtain ⟨g, rfl⟩ : ∃ g, f = g + 1 := ⟨f - 1, by simp at hf; omega⟩
    simp only [List.length_cons] at hf ha
    rw [tabsP, if_pos ⟨by simp, by omega, rfl⟩, encMs, List.append_assoc, metaP_encM (hm m (.head _))]
    simp only
    rw [show ((m :: l).length : Int) - 1 = (l.length : Int) by simp, tabsP_encMs l g _ r (by omega) (by simp; omega) fun k hk => hm k (.tail _ hk)]
    simp
theorem parseV_encV {v : Vs} (h : checkV v = true) : parseV (encV v) = (v, ⟨[], false⟩) := by
  unfold checkV headOk at h
  simp only [Bool.and_eq_true, inN_iff, decide_eq_true_eq] at h
  obtain ⟨⟨h1, h2, h3, h4, h5⟩, h6⟩ := h
  unfold parseV encV
  simp only
  rw [numP_nB h1.1 h1.2]
  simp only
  rw [numP_nB h2.1 h2.2]
  simp only
  rw [numP_nB h3.1 h3.2]
  simp only
  rw [numP_nB h4.1 h4.2]
  simp only
  rw [numP_nB (by omega) (by omega)]
  simp only
  have := tabsP_encMs v.tables 4097 [] [] (by omega) (by simpa using h5) (tabsAll_right h6)
  rw [List.append_nil] at this
  rw [this]
  simp
theorem decV_encV {v : Vs} (h : checkV v = true) : decV (encV v) = some v := by
  unfold decV
  rw [parseV_encV h]
  rw [if_pos ⟨rfl, h, rfl⟩]

/-- how long the bytes of a version are. -/
theorem nB_len (x : Int) : (nB x).length ≤ 9 := numB_len9 (clampN_le x)
theorem encM_len {m : Mt} (h : mtRight m = true) : (encM m).length ≤ 173 := by
  unfold mtRight at h
  simp only [Bool.and_eq_true, isKeyB_iff] at h
  obtain ⟨_, _, _, h4, h5, _⟩ := h
  have a1 := nB_len m.num
  have a2 := nB_len m.level
  have a3 := nB_len m.count
  have a4 := nB_len m.first.length
  have a5 := nB_len m.last.length
  unfold encM
  simp only [List.length_append]
  omega
theorem encMs_len : ∀ (l : List Mt), (∀ m ∈ l, mtRight m = true) → (encMs l).length ≤ 173 * l.length
  | [], _ => by simp [encMs]
  | m :: r, h => by
    have h1 := encM_len (h m (.head _))
    have h2 := encMs_len r fun k hk => h k (.tail _ hk)
    rw [encMs, List.length_append, List.length_cons]
    omega
theorem encV_len {v : Vs} (h : checkV v = true) : (encV v).length ≤ 45 + 173 * v.tables.length ∧ v.tables.length ≤ 4096 := by
  unfold checkV headOk at h
  simp only [Bool.and_eq_true, decide_eq_true_eq] at h
  obtain ⟨⟨_, _, _, _, h5⟩, h6⟩ := h
  have a0 := encMs_len v.tables (tabsAll_right h6)
  have a1 := nB_len v.gen
  have a2 := nB_len v.next
  have a3 := nB_len v.log
  have a4 := nB_len v.seq
  have a5 := nB_len v.tables.length
  refine ⟨?_, h5⟩
  unfold encV
  simp only [List.length_append]
  omega
theorem checkV_gen {v : Vs} (h : checkV v = true) : 0 ≤ v.gen ∧ v.gen ≤ 1099511627776 := by
  unfold checkV headOk at h
  simp only [Bool.and_eq_true] at h
  exact inN_iff.1 h.1.1

end Go.Proofs.YtdpjnpjmokncdaaGreatDoor
