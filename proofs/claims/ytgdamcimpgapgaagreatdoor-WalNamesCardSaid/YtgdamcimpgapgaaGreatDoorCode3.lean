/- code.high at 4 and at 8. -/
import Derived.Test.YtgdamcimpgapgaaGreatDoorCode2
import Derived.Lib.AppendZeros
namespace Go.Proofs.YtgdamcimpgapgaaGreatDoor
open Go.RowKit

set_option maxHeartbeats 400000 in
theorem high4_raw (x : Int) (w : World) (_hx : 0 ≤ x) (_hx2 : x < 18446744073709551616) :
    Calls Tryz.prog 69 #[.int .u64 x, .int .i64 4] w fun e w' => e = .returned (.slice (some ⟨w.heap.size, 0, none⟩) 4 4) ∧
      w.alloc (.cells #[.int .u8 (x / 256 / 256 / 256 % 256), .int .u8 (x / 256 / 256 % 256), .int .u8 (x / 256 % 256), .int .u8 (x % 256)] 5) = w' := by
  have hmk : ∀ w, (Instr.makeSlice 31 (.int .i64 4) (.int .i64 4)).run Tryz.prog w = .ok (.slice (some ⟨w.heap.size, 0, none⟩) 4 4) (w.alloc (.cells #[.int .u8 0, .int .u8 0, .int .u8 0, .int .u8 0] 5)) := fun _ => by kernel_rfl
  go_enter Tryz.func69, Tryz.ntmps69
  go_wp2
  refine wp_loop_rounds 5 ?_
  rw [rounds_succ]; go_wp2
  rw [rounds_succ]; go_wp2
  rw [rounds_succ]; go_wp2
  rw [rounds_succ]; go_wp2
  rw [rounds_succ]; go_wp2
  go_ret
  exact ⟨rfl, rfl⟩

/-- the lowest byte of a number. -/
def lowB (y : Int) : UInt8 := UInt8.ofNat (y % 256).toNat
theorem b8_lowB (y : Int) : b8 (lowB y) = .int .u8 (y % 256) := by
  unfold b8 lowB
  have h1 := Int.emod_nonneg y (show (256 : Int) ≠ 0 by omega)
  have h2 := Int.emod_lt_of_pos y (show (0 : Int) < 256 by omega)
  have : (UInt8.ofNat (y % 256).toNat).toNat = (y % 256).toNat := by simp [UInt8.toNat_ofNat']; omega
  rw [this]
  congr 1
  omega
def high4 (x : Int) : List UInt8 := [lowB (x / 256 / 256 / 256), lowB (x / 256 / 256), lowB (x / 256), lowB x]

theorem high4_any (x : Int) (w : World) (hx : 0 ≤ x) (hx2 : x < 18446744073709551616) :
    Calls Tryz.prog 69 #[.int .u64 x, .int .i64 4] w fun e w' => ∃ A' c', e = .returned (.slice A' 4 c') ∧ w'.ownsRow w.heap.size 5 1 (.slice A' 4 c') 4 (by8 (high4 x)) ∧ Below w.heap.size w w' := by
  refine (high4_raw x w hx hx2).mono ?_
  rintro e w' ⟨rfl, rfl⟩
  refine ⟨_, _, rfl, ?_, (Below.refl _ w).alloc (Nat.le_refl _) _⟩
  have := World.ownsRow_lit (e := 5) (base := w.heap.size) (size := 1) w #[.int .u8 (x / 256 / 256 / 256 % 256), .int .u8 (x / 256 / 256 % 256), .int .u8 (x / 256 % 256), .int .u8 (x % 256)] 4 (Nat.le_refl _) (by simp [maxLen]) rfl
  simpa [by8, high4, b8_lowB] using this

theorem grow_run (n : Nat) (w : World) (h0 : 0 < n) (hn : n ≤ 140737488355328) (ty : TypeId) : ∃ cur : Array Value, cur.size = grownCap w n 0 5 * 1 ∧
    (Builtin.append_ #[31, 3] ty #[.slice none 0 0, .int .i64 n]).run Tryz.prog w = .ok (.slice (some ⟨w.heap.size, 0, none⟩) n (grownCap w n 0 5)) (w.drew.alloc (.cells cur 5)) := by
  obtain ⟨i, hi, hz, hs1, hb⟩ := bt.info
  refine ⟨_, ?_, Lib.run_append_nil_zeros (P := Tryz.prog) w 31 3 ty 5 i (.int .u8 0) .i64 .i64 bt.sl Tryz.underlying3 hi hz n h0 (by omega) (by omega) (by rw [hb]; omega)⟩
  have := grownCap_ge w n 0 5
  simp [Builtin.zeroCells, Value.cells]; omega

set_option maxRecDepth 100000 in
set_option maxHeartbeats 400000 in
/-- 'slices.Grow(nil, n)'. -/
theorem grow_any (n : Nat) (w : World) (hn : n ≤ 140737488355328) :
    Calls Tryz.prog 99 #[.slice none 0 0, .int .i64 n] w fun e w' => ∃ A' c', e = .returned (.slice A' 0 c') ∧ w'.ownsRow w.heap.size 5 1 (.slice A' 0 c') 0 (by8 []) ∧ Below w.heap.size w w' := by
  rcases Nat.eq_zero_or_pos n with rfl | h0
  · go_enter Tryz.func99, Tryz.ntmps99
    go_wp2
    go_ret
    exact ⟨none, 0, rfl, World.ownsRow_nil _ _ _ _, Below.refl _ _⟩
  · obtain ⟨cur, hsz, hrun⟩ := grow_run n w h0 hn 31
    have hH := Lib.hid hrun
    have hS := Lib.hid hsz
    clear hrun hsz
    have hge := grownCap_ge w n 0 5
    have hle := grownCap_le_maxLen w n 0 5 (by simp only [maxLen]; omega)
    unfold maxLen at hle
    generalize grownCap w n 0 5 = cc at *
    go_enter Tryz.func99, Tryz.ntmps99
    go_wp2_with (at_builtin; refine Lib.wpList_append_run _ rfl (.tmp 20) (.tmp 21) 31 3 rfl (.slice none 0 0) (.int .i64 n) rfl rfl _ _ hH.out ?_)
    go_ret
    refine ⟨_, _, rfl, ?_, ((Below.refl _ w).drew).alloc (Nat.le_refl _) _⟩
    exact World.ownsRow_made _ _ _ (Nat.le_refl _) (by simp only [maxLen]; omega) hS.out

end Go.Proofs.YtgdamcimpgapgaaGreatDoor
