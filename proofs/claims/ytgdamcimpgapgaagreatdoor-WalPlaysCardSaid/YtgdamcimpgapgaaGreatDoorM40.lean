/- wal's calls on no disk. -/
import Derived.Test.YtgdamcimpgapgaaGreatDoorM17
import Derived.Test.YtgdamcimpgapgaaGreatDoorM20
import Derived.Test.YtgdamcimpgapgaaGreatDoorM16
import Derived.Test.YtgdamcimpgapgaaGreatDoorM23
namespace Go.Proofs.YtgdamcimpgapgaaGreatDoor
open Go.RowKit

set_option maxRecDepth 100000 in
set_option maxHeartbeats 1000000 in
theorem replay_nil (n : Int) (w : World) : Calls Tryz.prog 12 #[.pointer none, .int .i64 n] w fun e w' => e = .returned (.tuple #[.slice none 0 0, .int .i64 1]) ∧ w = w' := by
  go_enter Tryz.func12, Tryz.ntmps12
  go_wp2_with (go_at_call 29; refine (none_nil _).mono ?_; rintro e w1 ⟨rfl, rfl⟩)
  go_ret2
  exact ⟨rfl, rfl⟩
set_option maxRecDepth 100000 in
set_option maxHeartbeats 1000000 in
theorem drop_nil (n : Int) (w : World) : Calls Tryz.prog 13 #[.pointer none, .int .i64 n] w fun e w' => e = .returned (.int .i64 1) ∧ w = w' := by
  go_enter Tryz.func13, Tryz.ntmps13
  go_wp2_with (go_at_call 29; refine (none_nil _).mono ?_; rintro e w1 ⟨rfl, rfl⟩)
  go_ret
  exact ⟨rfl, rfl⟩
set_option maxRecDepth 100000 in
set_option maxHeartbeats 1000000 in
theorem names_nil (w : World) : Calls Tryz.prog 37 #[.pointer none] w fun e w' => e = .returned (.slice none 0 0) ∧ w = w' := by
  go_enter Tryz.func37, Tryz.ntmps37
  go_wp2_with (go_at_call 25; refine (made_no _).mono ?_; rintro e w1 ⟨rfl, rfl⟩)
  go_ret
  exact ⟨rfl, rfl⟩
set_option maxRecDepth 100000 in
set_option maxHeartbeats 1000000 in
theorem segs_nil (w : World) : Calls Tryz.prog 11 #[.pointer none] w fun e w' => e = .returned (.slice none 0 0) ∧ w = w' := by
  go_enter Tryz.func11, Tryz.ntmps11
  go_wp2_with (go_at_call 37; refine (names_nil _).mono ?_; rintro e w1 ⟨rfl, rfl⟩)
  go_loop [3, 13] (fun v i => v = .slice none 0 0 ∧ i = .int .i64 0) (fun _ _ => 0)
  case atStart => exact ⟨rfl, rfl⟩
  case round =>
    obtain ⟨rfl, rfl⟩ := hrel
    go_wp2_with fail
    go_ret
    exact ⟨rfl, rfl⟩
set_option maxRecDepth 100000 in
set_option maxHeartbeats 1000000 in
theorem add_nil (n : Int) (A : Option Addr) (m c : Nat) (w : World) : Calls Tryz.prog 10 #[.pointer none, .int .i64 n, .slice A m c] w fun e w' => e = .returned (.int .i64 1) ∧ Mod Non w w' := by
  refine (callsIn_wide (n := 6)).1 ?_
  refine callsIn_of_wp_marks Tryz.func10 rfl trivial ?_ rfl
  refine wpIn_wide.2 ?_
  simp only [Tryz.ntmps10, List.size_toArray, List.length_cons, List.length_nil, Nat.reduceAdd, Nat.reduceSub, Array.replicate_succ, Array.replicate_zero, List.push_toArray, List.append_toArray, List.nil_append, List.cons_append]
  go_wp2_with fail
  have hm0 : Mod Non w (((w.alloc (.cells #[.pointer none] 24)).alloc (.cells #[.int .i64 n] 3)).alloc (.cells #[.int .i64 0] 25)) := (((Mod.refl Non w).alloc _).alloc _).alloc _
  have c6 : Blk (((w.alloc (.cells #[.pointer none] 24)).alloc (.cells #[.int .i64 n] 3)).alloc (.cells #[.int .i64 0] 25)) (w.heap.size + 1 + 1) 25 #[.int .i64 0] := by
    have := Blk.new ((w.alloc (.cells #[.pointer none] 24)).alloc (.cells #[.int .i64 n] 3)) 25 #[.int .i64 0]
    rwa [World.size_alloc, World.size_alloc] at this
  generalize (((w.alloc (.cells #[.pointer none] 24)).alloc (.cells #[.int .i64 n] 3)).alloc (.cells #[.int .i64 0] 25)) = w0 at *
  refine (none_nil _).mono ?_
  rintro e w1 ⟨rfl, rfl⟩
  have f6 := c6.frozen 0
  have d6 : w0.cell? ⟨w.heap.size + 1 + 1, 0, none⟩ = some (.int .i64 0) := c6.cell 0
  have hfin : Mod Non w (w0.setCell ⟨w.heap.size + 1 + 1, 0, none⟩ (.int .i64 1)) := hm0.setCell (p := ⟨w.heap.size + 1 + 1, 0, none⟩) (.inr (by simp only; omega)) _
  have e6 : (w0.setCell ⟨w.heap.size + 1 + 1, 0, none⟩ (.int .i64 1)).cell? ⟨w.heap.size + 1 + 1, 0, none⟩ = some (.int .i64 1) := (c6.set_ 0 _).cell 0
  have HF := Lib.hid hfin
  have HE6 := Lib.hid e6
  clear hfin e6 hm0 c6
  go_wp2_with fail
  refine marks_ret (results_i64cell rfl _ _ (w.heap.size + 1 + 1) _ rfl HE6.out Tryz.underlying25) rfl ⟨rfl, HF.out⟩

set_option maxRecDepth 100000 in
set_option maxHeartbeats 400000 in
theorem atomLoad_any (d i : Nat) (x : Int) (w : World) (hc : w.cell? ⟨d, i, none⟩ = some (.int .i64 x)) :
    Calls Tryz.prog 55 #[.pointer (some ⟨d, i, none⟩)] w fun e w' => e = .returned (.int .i64 x) ∧ w = w' := by
  have hld := run_call_load (P := Tryz.prog) Tryz.func92 (by kernel_rfl) (by kernel_rfl) (by kernel_rfl) .i64 (by kernel_rfl) hc
  go_enter Tryz.func55, Tryz.ntmps55
  go_wp2
  go_ret
  exact ⟨rfl, rfl⟩

set_option maxRecDepth 100000 in
set_option maxHeartbeats 400000 in
theorem ops_any (F : Nat → Prop) (d : Nat) (D : Dk) (w : World) (h : DiskIs w F d D) :
    Calls Tryz.prog 20 #[.pointer (some ⟨d, 0, none⟩)] w fun e w' => e = .returned (.int .i64 D.done) ∧ w = w' := by
  obtain ⟨G, m, kvs, hA, _⟩ := h
  have c2 : w.cell? ⟨d, 2, none⟩ = some (.map (some m)) := hA.blk.cell 2
  have c3 : w.cell? ⟨d, 3, none⟩ = some (.int .i64 D.done) := hA.blk.cell 3
  generalize D.done = done at *
  clear hA
  go_enter Tryz.func20, Tryz.ntmps20
  go_wp2_with (first
    | (go_at_call 25; refine (made_yes d m _ c2).mono ?_; rintro e w' ⟨rfl, rfl⟩)
    | (go_at_call 55; refine (atomLoad_any d 3 done _ c3).mono ?_; rintro e w' ⟨rfl, rfl⟩))
  go_ret
  exact ⟨rfl, rfl⟩


end Go.Proofs.YtgdamcimpgapgaaGreatDoor
