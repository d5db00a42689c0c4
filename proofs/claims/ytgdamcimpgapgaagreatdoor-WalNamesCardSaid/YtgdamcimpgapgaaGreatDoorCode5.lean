/- code.PutNum. -/
import Derived.Test.YtgdamcimpgapgaaGreatDoorCode4
namespace Go.Proofs.YtgdamcimpgapgaaGreatDoor
open Go.RowKit

/-- a byte with the sign that more come. -/
def moreB (r : Nat) : UInt8 := UInt8.ofNat (bits BinOp.or IntKind.u8 ((r : Int) % 256) 128).toNat
theorem b8_moreB (r : Nat) : b8 (moreB r) = .int .u8 (bits BinOp.or IntKind.u8 ((r : Int) % 256) 128) := by
  have h := bits_u8 .or ((r : Int) % 256) 128
  unfold b8 moreB
  have : (UInt8.ofNat (bits BinOp.or IntKind.u8 ((r : Int) % 256) 128).toNat).toNat = (bits BinOp.or IntKind.u8 ((r : Int) % 256) 128).toNat := by
    rw [UInt8.toNat_ofNat', Nat.mod_eq_of_lt (by omega)]
  rw [this]
  exact congrArg (Value.int .u8) (by omega)
def numB (n : Nat) : List UInt8 := if n < 128 then [lowB n] else moreB n :: numB (n / 128)
termination_by n
decreasing_by omega
theorem numB_more {n : Nat} (h : 128 ≤ n) : numB n = moreB n :: numB (n / 128) := by rw [numB, if_neg (by omega)]
theorem numB_last {n : Nat} (h : n < 128) : numB n = [lowB n] := by rw [numB, if_pos h]
theorem numB_len (k : Nat) : ∀ n : Nat, n < 128 ^ (k + 1) → (numB n).length ≤ k + 1 := by
  induction k with
  | zero => intro n hn; rw [numB_last (by simpa using hn)]; simp
  | succ k ih =>
    intro n hn
    by_cases h : n < 128
    · rw [numB_last h]; simp
    · rw [numB_more (by omega)]
      have := ih (n / 128) (by rw [Nat.div_lt_iff_lt_mul (by omega)]; rw [Nat.pow_succ] at hn; omega)
      simp; omega
theorem numB_len9 {n : Nat} (h : n ≤ 4611686018427387903) : (numB n).length ≤ 9 := numB_len 8 n (by omega)
theorem numB_pos (n : Nat) : 0 < (numB n).length := by
  by_cases h : n < 128
  · rw [numB_last h]; simp
  · rw [numB_more (by omega)]; simp

/-- the number that is laid. -/
def clampN (x : Int) : Nat := (min (max x 0) 4611686018427387903).toNat
theorem clampN_le (x : Int) : clampN x ≤ 4611686018427387903 := by unfold clampN; omega
theorem clampN_of {n : Nat} (h : n ≤ 4611686018427387903) : clampN n = n := by unfold clampN; omega

set_option maxRecDepth 100000 in
set_option maxHeartbeats 1000000 in
theorem putNum_any (A : Option Addr) (n c : Nat) (l : List UInt8) (x : Int) (w : World) (h : Rd w A n (by8 l)) (hn : n ≤ 140737488300000) :
    Calls Tryz.prog 65 #[.slice A n c, .int .i64 x] w fun e w' => ∃ A' c', e = .returned (.slice A' (n + (numB (clampN x)).length) c') ∧
      w'.ownsRow w.heap.size 5 1 (.slice A' (n + (numB (clampN x)).length) c') (n + (numB (clampN x)).length) (by8 (l ++ numB (clampN x))) ∧ Below w.heap.size w w' := by
  have hN := clampN_le x
  have h9 := numB_len9 hN
  generalize hc : clampN x = N at *
  unfold clampN at hc
  have h3 : x < 0 ∧ N = 0 ∨ 0 ≤ x ∧ x ≤ 4611686018427387903 ∧ x = N ∨ 4611686018427387903 < x ∧ N = 4611686018427387903 := by omega
  clear hc
  obtain ⟨L, hL⟩ : ∃ L, numB N = L := ⟨_, rfl⟩
  rw [hL] at h9 ⊢
  rcases h3 with ⟨hx, rfl⟩ | ⟨hx, hx2, rfl⟩ | ⟨hx, rfl⟩
  all_goals
    have HL : Hid ([] ++ numB _ = L) := hL
    clear hL
    go_enter Tryz.func65, Tryz.ntmps65
    go_wp2_with fail
    go_loopw [1, 5] (fun x v wr => ∃ (r : Nat) (d : List UInt8) (A' : Option Addr) (c' : Nat), x = .int .i64 r ∧ v = .slice A' d.length c' ∧ wr.ownsRow w.heap.size 5 1 (.slice A' d.length c') d.length (by8 d) ∧ Below w.heap.size w wr ∧ Hid (d ++ numB r = L) ∧ r ≤ 4611686018427387903 ∧ d.length ≤ 9) (fun x _ _ => (intOf x).toNat)
    case atStart => exact ⟨_, [], none, 0, rfl, rfl, World.ownsRow_nil _ _ _ _, Below.refl _ _, HL, by omega, by simp⟩
    case round =>
      obtain ⟨r, d, A', c', rfl, rfl, ho, hb, HD, hr, hd⟩ := hrel
      have HB := Lib.hid hb
      have hsz := hb.size
      clear hb
      by_cases hlt : 128 ≤ r
      · have hL : L.length = d.length + (numB r).length := by rw [← HD.out]; simp
        have hp := numB_pos (r / 128)
        have H2 : Hid (d ++ [moreB r] ++ numB (r / 128) = L) := by
          have := HD.out
          rw [numB_more hlt] at this
          show d ++ [moreB r] ++ numB (r / 128) = L
          simpa using this
        have hL2 : d.length + 1 + (numB (r / 128)).length = L.length := by rw [← H2.out]; simp; omega
        have hone := one_byte wr 5 (moreB r)
        rw [b8_moreB] at hone
        have HO := Lib.hid hone
        have hd2 : d.length + 1 ≤ 9 := by omega
        clear hL hL2 hone HD
        go_wp2_with (at_builtin; refine wpList_app8 bt _ rfl (.tmp 13) (.tmp 17) rfl w.heap.size (.slice A' d.length c') d.length d rfl (ho.alloc _) _ 1 1 [moreB r] rfl HO.out (d.length + 1) rfl (d ++ [moreB r]) rfl (by omega) (by simp; omega) ?_; intro A2 c2 w2 hc2 ho2 hg2 hat2)
        go_roundw
        case rel =>
          refine ⟨r / 128, d ++ [moreB r], A2, c2, ?_, by simp, by simpa using ho2, (HB.out.alloc hsz _).grown hg2 (by simp; omega) (fun i hi => (ho.lt i hi).1), H2, by omega, by simpa using hd2⟩
          congr 1
        case measure => simp [intOf]; omega
      · have hlt : r < 128 := by omega
        have hq : (r : Int) % 256 = r := by omega
        have hL : d ++ [lowB r] = L := by have := HD.out; rwa [numB_last hlt] at this
        have hone := one_byte wr 5 (lowB r)
        rw [b8_lowB, hq] at hone
        have HO := Lib.hid hone
        have HL2 := Lib.hid hL
        have hll : d.length + 1 = L.length := by rw [← hL]; simp
        clear hL hone HD hq
        have h' := (h.mod0 (Mod.of_below HB.out)).alloc (.cells #[.int .u8 r] 5)
        go_wp2_with (first
          | (at_builtin; refine wpList_app8 bt _ rfl (.tmp 20) (.tmp 23) rfl w.heap.size (.slice A' d.length c') d.length d rfl (ho.alloc _) _ 1 1 [lowB r] rfl HO.out L.length hll L HL2.out (by omega) (by simp; omega) ?_; intro A2 c2 w2 hc2 ho2 hg2 hat2)
          | (go_at_call 67
             go_loud (have hbw : Below w.heap.size w w2 := (HB.out.alloc hsz _).grown hg2 (by simp; omega) (fun i hi => (ho.lt i hi).1))
             go_loud (refine (laid_any A A2 n c L.length c2 l L _ (h.mod0 (Mod.of_below hbw)) (Rd.of_own ho2) (by omega)).mono ?_)
             rintro e w3 ⟨A3, c3, rfl, ho3, hb3⟩))
        go_ret
        exact ⟨A3, c3, rfl, own_mono ho3 hbw.size, hbw.trans (hb3.mono hbw.size)⟩

end Go.Proofs.YtgdamcimpgapgaaGreatDoor
