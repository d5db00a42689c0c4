/- code.Crc, code.number, code.high. -/
import Derived.Test.YtiomlnhfhmpejaaGreatDoorB03
import Derived.OpenShut
namespace Go.Proofs.YtiomlnhfhmpejaaGreatDoor
open Go.RowKit

def crcBit (y : Int) : Int := bits BinOp.xor IntKind.u32 (y / 2) (bits BinOp.and IntKind.u32 3988292384 (-bits BinOp.and IntKind.u32 y 1 % 4294967296))
def crcIter : Nat → Int → Int
  | 0, y => y
  | j + 1, y => crcBit (crcIter j y)
def crcStep (z : Int) (c : UInt8) : Int := crcIter 8 (bits BinOp.xor IntKind.u32 z (c.toNat : Int))
def crcFold (l : List UInt8) : Int := l.foldl crcStep 4294967295

def crcOf (l : List UInt8) : Int := bits BinOp.xor IntKind.u32 IntKind.u32.max (crcFold l)
theorem bits_u32 (op : BinOp) (x y : Int) : 0 ≤ bits op .u32 x y ∧ bits op .u32 x y < 4294967296 := by
  have h := wf_bits op .u32 x y
  simp [Lit.wf, IntKind.min, IntKind.max, IntKind.bits, IntKind.signed] at h
  omega
theorem bits_u64 (op : BinOp) (x y : Int) : 0 ≤ bits op .u64 x y ∧ bits op .u64 x y < 18446744073709551616 := by
  have h := wf_bits op .u64 x y
  simp [Lit.wf, IntKind.min, IntKind.max, IntKind.bits, IntKind.signed] at h
  omega
theorem bits_u8 (op : BinOp) (x y : Int) : 0 ≤ bits op .u8 x y ∧ bits op .u8 x y < 256 := by
  have h := wf_bits op .u8 x y
  simp [Lit.wf, IntKind.min, IntKind.max, IntKind.bits, IntKind.signed] at h
  omega
theorem crcOf_bd (l : List UInt8) : 0 ≤ crcOf l ∧ crcOf l < 4294967296 := bits_u32 _ _ _
theorem crcFold_snoc (l : List UInt8) (c : UInt8) : crcFold (l ++ [c]) = crcStep (crcFold l) c := by simp [crcFold]
theorem take_snoc (l : List UInt8) (k : Nat) (c : UInt8) (h : l[k]? = some c) : l.take (k + 1) = l.take k ++ [c] := by
  obtain ⟨hk, e⟩ := List.getElem?_eq_some_iff.1 h
  rw [List.take_succ_eq_append_getElem hk, e]
/-- the byte at k of a slice of bytes. -/
theorem Rd.byte {w : World} {A : Option Addr} {n : Nat} {l : List UInt8} (h : Rd w A n (by8 l)) {k : Nat} (hk : k < n) :
    ∃ b o c, A = some ⟨b, o, none⟩ ∧ l[k]? = some c ∧ w.cell? ⟨b, o + k, none⟩ = some (.int .u8 (c.toNat : Int)) := by
  obtain ⟨b, o, rfl, u, hu, hc⟩ := h.at_ hk
  rw [by8_get] at hu
  cases hx : l[k]? with
  | none => rw [hx] at hu; cases hu
  | some c =>
    rw [hx] at hu
    simp only [Option.map_some, Option.some.injEq] at hu
    subst hu
    exact ⟨b, o, c, rfl, rfl, hc⟩

set_option maxHeartbeats 400000 in
theorem crc_any (A : Option Addr) (n c : Nat) (l : List UInt8) (w : World) (h : Rd w A n (by8 l)) (hn : n ≤ 140737488355328) :
    Calls Tryz.prog 156 #[.slice A n c] w fun e w' => e = .returned (.int .u32 (crcOf l)) ∧ w = w' := by
  have hl : l.length = n := by simpa using h.1
  go_enter Tryz.func156, Tryz.ntmps156
  go_wp2
  go_loop [3, 5, 8] (fun x y i => ∃ k : Nat, k ≤ n ∧ i = .int .i64 k ∧ x = .int .u32 (crcFold (l.take k))) (fun _ _ i => n - (intOf i).toNat)
  case atStart => exact ⟨0, Nat.zero_le _, rfl, rfl⟩
  case round =>
    obtain ⟨k, hk, rfl, rfl⟩ := hrel
    by_cases hlt : k < n
    · obtain ⟨b, o, cb, rfl, hcb, hc⟩ := h.byte hlt
      have H : Hid (crcFold (l.take (k + 1)) = crcStep (crcFold (l.take k)) cb) := by rw [take_snoc l k cb hcb, crcFold_snoc]; rfl
      clear hcb
      have hb := cb.toNat_lt
      obtain ⟨z, hz⟩ : ∃ z, z = crcFold (l.take k) := ⟨_, rfl⟩
      rw [← hz] at H ⊢
      clear hz
      go_wp2
      go_loop [3, 16] (fun x i => ∃ k : Nat, k ≤ 8 ∧ i = .int .i64 k ∧ x = .int .u32 (crcIter k (bits BinOp.xor IntKind.u32 z (cb.toNat : Int)))) (fun _ i => 8 - (intOf i).toNat)
      case atStart => exact ⟨0, Nat.zero_le _, rfl, rfl⟩
      case round =>
        obtain ⟨j, hj, rfl, rfl⟩ := hrel
        by_cases hjl : j < 8
        · go_wp2
          go_round
          case rel => exact ⟨j + 1, by omega, by go_num, rfl⟩
          case measure => simp [intOf]; omega
        · obtain rfl : j = 8 := by omega
          go_wp2
          go_round
          case rel => exact ⟨k + 1, by omega, by go_num, by rw [H.out]; rfl⟩
          case measure => simp [intOf]; omega
    · obtain rfl : k = n := by omega
      rw [List.take_of_length_le (by omega)]
      go_wp2
      go_ret
      exact ⟨rfl, rfl⟩

/-- the number of some bytes, the highest first. -/
def numStep (x : Int) (c : UInt8) : Int := bits BinOp.or IntKind.u64 (x * 256 % 18446744073709551616) (c.toNat : Int)
def numFold (l : List UInt8) : Int := l.foldl numStep 0
theorem numFold_snoc (l : List UInt8) (c : UInt8) : numFold (l ++ [c]) = numStep (numFold l) c := by simp [numFold]
theorem numFold_bd (l : List UInt8) : 0 ≤ numFold l ∧ numFold l < 18446744073709551616 := by
  rcases List.eq_nil_or_concat l with rfl | ⟨k, c, rfl⟩
  · simp [numFold]
  · rw [List.concat_eq_append, numFold_snoc]; exact bits_u64 _ _ _

set_option maxHeartbeats 400000 in
theorem number_any (A : Option Addr) (n c : Nat) (l : List UInt8) (w : World) (h : Rd w A n (by8 l)) (hn : n ≤ 140737488355328) :
    Calls Tryz.prog 155 #[.slice A n c] w fun e w' => e = .returned (.int .u64 (numFold l)) ∧ w = w' := by
  have hl : l.length = n := by simpa using h.1
  go_enter Tryz.func155, Tryz.ntmps155
  go_wp2
  go_loop [3, 5, 8] (fun x y i => ∃ k : Nat, k ≤ n ∧ i = .int .i64 k ∧ x = .int .u64 (numFold (l.take k))) (fun _ _ i => n - (intOf i).toNat)
  case atStart => exact ⟨0, Nat.zero_le _, rfl, rfl⟩
  case round =>
    obtain ⟨k, hk, rfl, rfl⟩ := hrel
    by_cases hlt : k < n
    · obtain ⟨b, o, cb, rfl, hcb, hc⟩ := h.byte hlt
      have H : Hid (numFold (l.take (k + 1)) = numStep (numFold (l.take k)) cb) := by rw [take_snoc l k cb hcb, numFold_snoc]; rfl
      have hbd := numFold_bd (l.take k)
      clear hcb
      have hb := cb.toNat_lt
      obtain ⟨z, hz⟩ : ∃ z, z = numFold (l.take k) := ⟨_, rfl⟩
      rw [← hz] at H hbd ⊢
      clear hz
      go_wp2
      go_round
      case rel => exact ⟨k + 1, by omega, by go_num, by rw [H.out]; rfl⟩
      case measure => simp [intOf]; omega
    · obtain rfl : k = n := by omega
      rw [List.take_of_length_le (by omega)]
      go_wp2
      go_ret
      exact ⟨rfl, rfl⟩

end Go.Proofs.YtiomlnhfhmpejaaGreatDoor
