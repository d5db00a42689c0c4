/- cat.Load, cat.Clean, wal.Segments on a disk without files. -/
import Derived.Test.YtiomlnhfhmpejaaGreatDoorB04
import Derived.Test.YtiomlnhfhmpejaaGreatDoorB06
import Derived.Test.YtiomlnhfhmpejaaGreatDoorChecked
import Derived.BigQuiet
namespace Go.Proofs.YtiomlnhfhmpejaaGreatDoor
open Go.RowKit

/-- a disk without files, as its calls answer. -/
structure FrD (w : World) (d : Nat) : Prop where
  read : ∀ W, Mod Non w W → Calls Tryz.prog 73 #[.pointer (some ⟨d, 0, none⟩), .string ⟨#[99, 117, 114]⟩] W fun e W' => e = .returned (.tuple #[.slice none 0 0, .int .i64 3]) ∧ Mod Non W W'
  has : ∀ W, Mod Non w W → Calls Tryz.prog 62 #[.pointer (some ⟨d, 0, none⟩), .string ⟨#[99, 117, 114]⟩] W fun e W' => e = .returned (.bool false) ∧ Mod Non W W'
  names : ∀ W, Mod Non w W → Calls Tryz.prog 80 #[.pointer (some ⟨d, 0, none⟩)] W fun e W' => ∃ A c, e = .returned (.slice A 0 c) ∧ Mod Non W W'
theorem FrD.mod0 {w w' : World} {d : Nat} (h : FrD w d) (hm : Mod Non w w') : FrD w' d := ⟨fun W k => h.read W (hm.trans0 k), fun W k => h.has W (hm.trans0 k), fun W k => h.names W (hm.trans0 k)⟩
def zeroPv : Value := .agg #[.int .i64 0, .int .i64 0, .int .i64 0, .int .i64 0, .slice none 0 0]

set_option maxRecDepth 100000 in
set_option maxHeartbeats 400000 in
theorem noneF (d : Nat) (w : World) (h : FrD w d) : Calls Tryz.prog 61 #[.pointer (some ⟨d, 0, none⟩)] w fun e w' => e = .returned (.bool false) ∧ Mod Non w w' := by
  have HR := Lib.hid (h.read w (Mod.refl _ _))
  clear h
  go_enter Tryz.func61, Tryz.ntmps61
  go_wp2_with (go_at_call 73; refine HR.out.mono ?_; rintro e w1 ⟨rfl, hm1⟩)
  go_ret
  exact ⟨rfl, hm1⟩

set_option maxRecDepth 100000 in
set_option maxHeartbeats 1000000 in
theorem loadF (d : Nat) (w : World) (h : FrD w d) : Calls Tryz.prog 29 #[.pointer (some ⟨d, 0, none⟩)] w fun e w' => e = .returned (.tuple #[zeroPv, .int .i64 0]) ∧ Mod Non w w' := by
  obtain ⟨w0, hw0⟩ : ∃ w0, w0 = w.alloc (.cells #[.int .i64 0, .int .i64 0, .int .i64 0, .int .i64 0, .slice none 0 0] 97) := ⟨_, rfl⟩
  have hm : Mod Non w w0 := by rw [hw0]; exact (Mod.refl Non w).alloc _
  have hr : Blk w0 w.heap.size 97 #[.int .i64 0, .int .i64 0, .int .i64 0, .int .i64 0, .slice none 0 0] := by rw [hw0]; exact Blk.new _ _ _
  have HF := Lib.hid h
  have HM := Lib.hid hm
  have HR := Lib.hid hr
  have HW := Lib.hid hw0
  clear hm hr hw0 h
  unfold zeroPv
  go_enter Tryz.func29, Tryz.ntmps29
  go_wp2_with fail
  rw [← HW.out]
  refine (noneF d w0 (HF.out.mod0 HM.out)).mono ?_
  rintro e w1 ⟨rfl, hm1⟩
  have HM1 := Lib.hid (HM.out.trans0 hm1)
  have HR1 := Lib.hid (HR.out.mod hm1 fun h => h)
  clear hm1
  go_wp2_with fail
  refine (HF.out.has w1 HM1.out).mono ?_
  rintro e w2 ⟨rfl, hm2⟩
  have HM2 := Lib.hid (HM1.out.trans0 hm2)
  have hr := HR1.out.mod hm2 fun h => h
  have HR2 := Lib.hid hr
  have r0 : w2.cell? ⟨w.heap.size, 0, none⟩ = some (.int .i64 0) := hr.cell 0
  have r1 : w2.cell? ⟨w.heap.size, 1, none⟩ = some (.int .i64 0) := hr.cell 1
  have r2 : w2.cell? ⟨w.heap.size, 2, none⟩ = some (.int .i64 0) := hr.cell 2
  have r3 : w2.cell? ⟨w.heap.size, 3, none⟩ = some (.int .i64 0) := hr.cell 3
  have r4 : w2.cell? ⟨w.heap.size, 4, none⟩ = some (.slice none 0 0) := hr.cell 4
  have f0 := hr.frozen 0
  have f1 := hr.frozen 1
  have f2 := hr.frozen 2
  have f3 := hr.frozen 3
  have f4 := hr.frozen 4
  clear hm2 hr
  go_wp2_with fail
  refine bodyPost_ret (results_rowtmp rfl _ _ w.heap.size 97 _ _ rfl (HR2.out.five _ _ _ _ _) Tryz.underlying97 rfl (by kernel_rfl) (.int .i64 0) rfl) rfl ?_
  exact ⟨rfl, set5 HM2.out _ _ _ _ _⟩

set_option maxRecDepth 100000 in
set_option maxHeartbeats 400000 in
theorem inF (w : World) : Calls Tryz.prog 137 #[.int .i64 0] w fun e w' => e = .returned (.bool true) ∧ w = w' := by
  go_enter Tryz.func137, Tryz.ntmps137
  go_wp2
  go_ret
  exact ⟨rfl, rfl⟩

set_option maxRecDepth 100000 in
set_option maxHeartbeats 1000000 in
theorem checkF (w : World) : Calls Tryz.prog 67 #[zeroPv] w fun e w' => e = .returned (.int .i64 0) ∧ Mod Non w w' := by
  have hmm := @run_makeMap Tryz.prog
  obtain ⟨w0, hw0⟩ : ∃ w0, w0 = w.alloc (.cells #[.int .i64 0, .int .i64 0, .int .i64 0, .int .i64 0, .slice none 0 0] 97) := ⟨_, rfl⟩
  have hm : Mod Non w w0 := by rw [hw0]; exact (Mod.refl Non w).alloc _
  have hr : Blk w0 w.heap.size 97 #[.int .i64 0, .int .i64 0, .int .i64 0, .int .i64 0, .slice none 0 0] := by rw [hw0]; exact Blk.new _ _ _
  have HM := Lib.hid hm
  have HW := Lib.hid hw0
  have r0 : w0.cell? ⟨w.heap.size, 0, none⟩ = some (.int .i64 0) := hr.cell 0
  have r1 : w0.cell? ⟨w.heap.size, 1, none⟩ = some (.int .i64 0) := hr.cell 1
  have r2 : w0.cell? ⟨w.heap.size, 2, none⟩ = some (.int .i64 0) := hr.cell 2
  have r3 : w0.cell? ⟨w.heap.size, 3, none⟩ = some (.int .i64 0) := hr.cell 3
  have r4 : w0.cell? ⟨w.heap.size, 4, none⟩ = some (.slice none 0 0) := hr.cell 4
  have q4 : ∀ o, (w0.alloc o).cell? ⟨w.heap.size, 4, none⟩ = some (.slice none 0 0) := fun o => ((Mod.refl Non w0).alloc o).cell r4 fun h => h
  clear hm hr hw0
  unfold zeroPv
  go_enter Tryz.func67, Tryz.ntmps67
  go_wp2_with (go_at_call 137; refine (inF _).mono ?_; rintro e w1 ⟨rfl, rfl⟩)
  refine wp_loop_rounds 1 ?_
  rw [rounds_succ]; go_wp2_with fail
  go_ret
  exact ⟨rfl, (by rw [← HW.out]; exact HM.out : Mod Non w (w.alloc (.cells #[.int .i64 0, .int .i64 0, .int .i64 0, .int .i64 0, .slice none 0 0] 97))).alloc _⟩

set_option maxRecDepth 100000 in
set_option maxHeartbeats 1000000 in
theorem sweepF (d : Nat) (v : Value) (w : World) (h : FrD w d) : Calls Tryz.prog 68 #[.pointer (some ⟨d, 0, none⟩), v] w fun e w' => e = .returned (.int .i64 0) ∧ Mod Non w w' := by
  have HR := Lib.hid (h.names w (Mod.refl _ _))
  clear h
  go_enter Tryz.func68, Tryz.ntmps68
  go_wp2_with (go_at_call 80; refine HR.out.mono ?_; rintro e w1 ⟨A1, c1, rfl, hm1⟩)
  have HM1 := Lib.hid hm1
  clear hm1
  refine wp_loop_rounds 1 ?_
  rw [rounds_succ]; go_wp2_with fail
  go_ret
  exact ⟨rfl, HM1.out⟩

set_option maxRecDepth 100000 in
set_option maxHeartbeats 1000000 in
theorem cleanF (d : Nat) (w : World) (h : FrD w d) : Calls Tryz.prog 30 #[.pointer (some ⟨d, 0, none⟩), zeroPv] w fun e w' => e = .returned (.int .i64 0) ∧ Mod Non w w' := by
  obtain ⟨w0, hw0⟩ : ∃ w0, w0 = w.alloc (.cells #[.int .i64 0, .int .i64 0, .int .i64 0, .int .i64 0, .slice none 0 0] 97) := ⟨_, rfl⟩
  have hm : Mod Non w w0 := by rw [hw0]; exact (Mod.refl Non w).alloc _
  have hr : Blk w0 w.heap.size 97 #[.int .i64 0, .int .i64 0, .int .i64 0, .int .i64 0, .slice none 0 0] := by rw [hw0]; exact Blk.new _ _ _
  have HF := Lib.hid h
  have HM := Lib.hid hm
  have HR := Lib.hid hr
  have HW := Lib.hid hw0
  have HC := Lib.hid checkF
  clear hm hr hw0 h
  unfold zeroPv at HC ⊢
  go_enter Tryz.func30, Tryz.ntmps30
  go_wp2_with fail
  rw [← HW.out]
  refine (noneF d w0 (HF.out.mod0 HM.out)).mono ?_
  rintro e w1 ⟨rfl, hm1⟩
  have HM1 := Lib.hid (HM.out.trans0 hm1)
  have hr := HR.out.mod hm1 fun h => h
  have r0 : w1.cell? ⟨w.heap.size, 0, none⟩ = some (.int .i64 0) := hr.cell 0
  have r1 : w1.cell? ⟨w.heap.size, 1, none⟩ = some (.int .i64 0) := hr.cell 1
  have r2 : w1.cell? ⟨w.heap.size, 2, none⟩ = some (.int .i64 0) := hr.cell 2
  have r3 : w1.cell? ⟨w.heap.size, 3, none⟩ = some (.int .i64 0) := hr.cell 3
  have r4 : w1.cell? ⟨w.heap.size, 4, none⟩ = some (.slice none 0 0) := hr.cell 4
  clear hm1 hr
  go_wp2_with fail
  refine (HC.out w1).mono ?_
  rintro e w2 ⟨rfl, hm2⟩
  have HM2 := Lib.hid (HM1.out.trans0 hm2)
  clear hm2 r0 r1 r2 r3 r4
  go_wp2_with fail
  refine (sweepF d _ w2 (HF.out.mod0 HM2.out)).mono ?_
  rintro e w3 ⟨rfl, hm3⟩
  have HM3 := Lib.hid (HM2.out.trans0 hm3)
  clear hm3
  go_wp2_with fail
  go_ret
  exact ⟨rfl, HM3.out⟩

set_option maxRecDepth 100000 in
set_option maxHeartbeats 1000000 in
theorem segsF (d : Nat) (w : World) (h : FrD w d) : Calls Tryz.prog 33 #[.pointer (some ⟨d, 0, none⟩)] w fun e w' => e = .returned (.slice none 0 0) ∧ Mod Non w w' := by
  have HR := Lib.hid (h.names w (Mod.refl _ _))
  clear h
  go_enter Tryz.func33, Tryz.ntmps33
  go_wp2_with (go_at_call 80; refine HR.out.mono ?_; rintro e w1 ⟨A1, c1, rfl, hm1⟩)
  have HM1 := Lib.hid hm1
  clear hm1
  refine wp_loop_rounds 1 ?_
  rw [rounds_succ]; go_wp2_with fail
  go_ret
  exact ⟨rfl, HM1.out⟩

end Go.Proofs.YtiomlnhfhmpejaaGreatDoor
