/- The references' disk and engine, new: nothing is there. -/
import Derived.Test.YtgnpmmhpeianpaaGreatDoorB01
import Derived.Test.YtgnpmmhpeianpaaGreatDoorChecked
import Derived.BigQuiet
namespace Go.Proofs.YtgnpmmhpeianpaaGreatDoor
open Go.RowKit

/-- a new disk of the reference's. -/
def RzAt (w : World) (r : Nat) (n : Int) : Prop := Blk w r 148 #[.int .i64 n, .slice none 0 0, .int .i64 0, .int .i64 (-1), .bool false]
def zeroVv : Value := .agg #[.int .i64 0, .int .i64 0, .int .i64 0, .int .i64 0, .slice none 0 0]

set_option maxRecDepth 100000 in
set_option maxHeartbeats 400000 in
theorem newZ_any (n : Int) (w : World) (h0 : 0 ≤ n) (h1 : n ≤ 1099511627776) : Calls Tryz.prog 43 #[.int .i64 n] w fun e w' => e = .returned (.tuple #[.pointer (some ⟨w.heap.size, 0, none⟩), .int .i64 0]) ∧ RzAt w' w.heap.size n ∧ Mod Non w w' := by
  have d0 : decide (n < 0) = false := decide_eq_false (by omega)
  have d1 : decide (1099511627776 < n) = false := decide_eq_false (by omega)
  go_enter Tryz.func43, Tryz.ntmps43
  go_wp2_with fail
  go_ret2
  exact ⟨rfl, Blk.new w _ _, (Mod.refl Non w).alloc _⟩

set_option maxRecDepth 100000 in
set_option maxHeartbeats 1000000 in
theorem namedZ (w : World) : Calls Tryz.prog 141 #[.string ⟨#[99, 117, 114]⟩] w fun e w' => e = .returned (.bool true) ∧ w = w' := by
  go_enter Tryz.func141, Tryz.ntmps141
  go_wp2
  refine wp_loop_rounds 4 ?_
  rw [rounds_succ]; go_wp2
  rw [rounds_succ]; go_wp2
  rw [rounds_succ]; go_wp2
  rw [rounds_succ]; go_wp2
  go_ret
  exact ⟨rfl, rfl⟩

set_option maxRecDepth 100000 in
set_option maxHeartbeats 1000000 in
theorem atZ (r : Nat) (n : Int) (s : ByteArray) (w : World) (h : RzAt w r n) : Calls Tryz.prog 142 #[.pointer (some ⟨r, 0, none⟩), .string s] w fun e w' => e = .returned (.int .i64 (-1)) ∧ w = w' := by
  have c1 : w.cell? ⟨r, 1, none⟩ = some (.slice none 0 0) := h.cell 1
  clear h
  go_enter Tryz.func142, Tryz.ntmps142
  go_wp2
  refine wp_loop_rounds 1 ?_
  rw [rounds_succ]; go_wp2
  go_ret
  exact ⟨rfl, rfl⟩

set_option maxRecDepth 100000 in
set_option maxHeartbeats 1000000 in
theorem readZ (r : Nat) (n : Int) (w : World) (h : RzAt w r n) : Calls Tryz.prog 76 #[.pointer (some ⟨r, 0, none⟩), .string ⟨#[99, 117, 114]⟩] w fun e w' => e = .returned (.tuple #[.slice none 0 0, .int .i64 3]) ∧ w = w' := by
  have HA := Lib.hid (atZ r n ⟨#[99, 117, 114]⟩ w h)
  clear h
  go_enter Tryz.func76, Tryz.ntmps76
  go_wp2_with (first
    | (go_at_call 141; refine (namedZ w).mono ?_; rintro e w1 ⟨rfl, rfl⟩)
    | (go_at_call 142; refine HA.out.mono ?_; rintro e w1 ⟨rfl, rfl⟩)
    | fail)
  go_ret2
  exact ⟨rfl, rfl⟩

set_option maxRecDepth 100000 in
set_option maxHeartbeats 1000000 in
theorem namesZ (r : Nat) (n : Int) (w : World) (h : RzAt w r n) : Calls Tryz.prog 138 #[.pointer (some ⟨r, 0, none⟩)] w fun e w' => e = .returned (.slice none 0 0) ∧ w = w' := by
  have c1 : w.cell? ⟨r, 1, none⟩ = some (.slice none 0 0) := h.cell 1
  clear h
  go_enter Tryz.func138, Tryz.ntmps138
  go_wp2
  refine wp_loop_rounds 1 ?_
  rw [rounds_succ]; go_wp2
  go_ret
  exact ⟨rfl, rfl⟩

set_option maxRecDepth 100000 in
set_option maxHeartbeats 1000000 in
theorem segsZ (r : Nat) (n : Int) (w : World) (h : RzAt w r n) : Calls Tryz.prog 79 #[.pointer (some ⟨r, 0, none⟩)] w fun e w' => e = .returned (.slice none 0 0) ∧ w = w' := by
  have HA := Lib.hid (namesZ r n w h)
  clear h
  go_enter Tryz.func79, Tryz.ntmps79
  go_wp2_with (go_at_call 138; refine HA.out.mono ?_; rintro e w1 ⟨rfl, rfl⟩)
  refine wp_loop_rounds 1 ?_
  rw [rounds_succ]; go_wp2
  go_ret
  exact ⟨rfl, rfl⟩

set_option maxRecDepth 100000 in
set_option maxHeartbeats 1000000 in
theorem removeZ (v : Value) (w : World) : Calls Tryz.prog 140 #[v, .slice none 0 0] w fun e w' => e = .returned (.int .i64 0) ∧ w = w' := by
  go_enter Tryz.func140, Tryz.ntmps140
  go_wp2
  refine wp_loop_rounds 1 ?_
  rw [rounds_succ]; go_wp2
  go_ret
  exact ⟨rfl, rfl⟩

set_option maxRecDepth 100000 in
set_option maxHeartbeats 400000 in
theorem inZ (w : World) : Calls Tryz.prog 199 #[.int .i64 0] w fun e w' => e = .returned (.bool true) ∧ w = w' := by
  go_enter Tryz.func199, Tryz.ntmps199
  go_wp2
  go_ret
  exact ⟨rfl, rfl⟩

set_option maxRecDepth 100000 in
set_option maxHeartbeats 1000000 in
theorem checkZ (w : World) : Calls Tryz.prog 137 #[zeroVv] w fun e w' => e = .returned (.int .i64 0) ∧ Mod Non w w' := by
  have hm : Mod Non w (w.alloc (.cells #[.int .i64 0, .int .i64 0, .int .i64 0, .int .i64 0, .slice none 0 0] 151)) := (Mod.refl Non w).alloc _
  have HM := Lib.hid hm
  clear hm
  unfold zeroVv
  go_enter Tryz.func137, Tryz.ntmps137
  go_wp2_with (go_at_call 199; refine (inZ _).mono ?_; rintro e w1 ⟨rfl, rfl⟩)
  refine wp_loop_rounds 1 ?_
  rw [rounds_succ]; go_wp2
  go_ret
  exact ⟨rfl, HM.out⟩

set_option maxRecDepth 100000 in
set_option maxHeartbeats 1000000 in
theorem cleanZ (r : Nat) (n : Int) (w : World) (h : RzAt w r n) : Calls Tryz.prog 75 #[.pointer (some ⟨r, 0, none⟩), zeroVv] w fun e w' => e = .returned (.int .i64 0) ∧ Mod Non w w' := by
  have hm : Mod Non w (w.alloc (.cells #[.int .i64 0, .int .i64 0, .int .i64 0, .int .i64 0, .slice none 0 0] 151)) := (Mod.refl Non w).alloc _
  have HM := Lib.hid hm
  have HC := Lib.hid checkZ
  have HN := Lib.hid fun W (hw : Mod Non w W) => namesZ r n W (Blk.mod h hw fun h => h)
  clear hm h
  unfold zeroVv at HC ⊢
  go_enter Tryz.func75, Tryz.ntmps75
  go_wp2_with fail
  refine (HC.out _).mono ?_
  rintro e w1 ⟨rfl, hm1⟩
  have HM1 := Lib.hid (HM.out.trans0 hm1)
  clear hm1
  go_wp2_with (go_at_call 138; refine (HN.out _ HM1.out).mono ?_; rintro e w2 ⟨rfl, rfl⟩)
  refine wp_loop_rounds 1 ?_
  rw [rounds_succ]; go_wp2_with fail
  refine (removeZ _ w1).mono ?_
  rintro e w2 ⟨rfl, rfl⟩
  go_wp2_with fail
  go_ret
  exact ⟨rfl, HM1.out⟩

set_option maxRecDepth 100000 in
set_option maxHeartbeats 1000000 in
theorem loadZ (r : Nat) (n : Int) (w : World) (h : RzAt w r n) : Calls Tryz.prog 74 #[.pointer (some ⟨r, 0, none⟩)] w fun e w' => e = .returned (.tuple #[zeroVv, .int .i64 0]) ∧ Mod Non w w' := by
  have HN := Lib.hid fun W (hw : Mod Non w W) => readZ r n W (Blk.mod h hw fun h => h)
  obtain ⟨w0, hw0⟩ : ∃ w0, w0 = (w.alloc (.cells #[.int .i64 0, .int .i64 0, .int .i64 0, .int .i64 0, .slice none 0 0] 151)).alloc (.cells #[.int .i64 0, .int .i64 0, .int .i64 0, .int .i64 0, .slice none 0 0] 151) := ⟨_, rfl⟩
  have hm : Mod Non w w0 := by rw [hw0]; exact ((Mod.refl Non w).alloc _).alloc _
  have hr : Blk w0 w.heap.size 151 #[.int .i64 0, .int .i64 0, .int .i64 0, .int .i64 0, .slice none 0 0] := by rw [hw0]; exact (Blk.new w _ _).alloc _
  have hz : Blk w0 (w.heap.size + 1) 151 #[.int .i64 0, .int .i64 0, .int .i64 0, .int .i64 0, .slice none 0 0] := by
    have := Blk.new (w.alloc (.cells #[.int .i64 0, .int .i64 0, .int .i64 0, .int .i64 0, .slice none 0 0] 151)) 151 #[.int .i64 0, .int .i64 0, .int .i64 0, .int .i64 0, .slice none 0 0]
    rw [World.size_alloc] at this
    rw [hw0]; exact this
  have HM := Lib.hid hm
  have HR := Lib.hid hr
  have HW := Lib.hid hw0
  have r0 : w0.cell? ⟨w.heap.size, 0, none⟩ = some (.int .i64 0) := hr.cell 0
  have r1 : w0.cell? ⟨w.heap.size, 1, none⟩ = some (.int .i64 0) := hr.cell 1
  have r2 : w0.cell? ⟨w.heap.size, 2, none⟩ = some (.int .i64 0) := hr.cell 2
  have r3 : w0.cell? ⟨w.heap.size, 3, none⟩ = some (.int .i64 0) := hr.cell 3
  have r4 : w0.cell? ⟨w.heap.size, 4, none⟩ = some (.slice none 0 0) := hr.cell 4
  have f0 := hr.frozen 0
  have f1 := hr.frozen 1
  have f2 := hr.frozen 2
  have f3 := hr.frozen 3
  have f4 := hr.frozen 4
  have z0 : w0.cell? ⟨w.heap.size + 1, 0, none⟩ = some (.int .i64 0) := hz.cell 0
  have z1 : w0.cell? ⟨w.heap.size + 1, 1, none⟩ = some (.int .i64 0) := hz.cell 1
  have z2 : w0.cell? ⟨w.heap.size + 1, 2, none⟩ = some (.int .i64 0) := hz.cell 2
  have z3 : w0.cell? ⟨w.heap.size + 1, 3, none⟩ = some (.int .i64 0) := hz.cell 3
  have z4 : w0.cell? ⟨w.heap.size + 1, 4, none⟩ = some (.slice none 0 0) := hz.cell 4
  clear hm hr hz hw0 h
  unfold zeroVv
  go_enter Tryz.func74, Tryz.ntmps74
  go_wp2_with fail
  rw [← HW.out]
  refine (HN.out _ HM.out).mono ?_
  rintro e w2 ⟨rfl, rfl⟩
  go_wp2_with fail
  refine bodyPost_ret (results_rowtmp rfl _ _ w.heap.size 151 _ _ rfl (HR.out.five _ _ _ _ _) Tryz.underlying151 rfl (by kernel_rfl) (.int .i64 0) rfl) rfl ?_
  exact ⟨rfl, set5 HM.out _ _ _ _ _⟩

end Go.Proofs.YtgnpmmhpeianpaaGreatDoor
