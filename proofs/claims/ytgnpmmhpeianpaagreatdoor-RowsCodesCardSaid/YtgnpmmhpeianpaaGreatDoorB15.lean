/- cat.Load, cat.Clean, wal.Segments on a disk without files. -/
import Derived.Test.YtgnpmmhpeianpaaGreatDoorB01
import Derived.Test.YtgnpmmhpeianpaaGreatDoorB08
import Derived.Test.YtgnpmmhpeianpaaGreatDoorChecked
import Derived.BigQuiet
import Derived.Test.YtgnpmmhpeianpaaGreatDoorB07
import Derived.Deep.RegionHeld3
namespace Go.Proofs.YtgnpmmhpeianpaaGreatDoor
open Go.RowKit

/-- a disk without files, as its calls answer. -/
structure FrD (w : World) (d : Nat) : Prop where
  read : ∀ W, Mod Non w W → Calls Tryz.prog 113 #[.pointer (some ⟨d, 0, none⟩), .string ⟨#[99, 117, 114]⟩] W fun e W' => e = .returned (.tuple #[.slice none 0 0, .int .i64 3]) ∧ Mod Non W W'
  has : ∀ W, Mod Non w W → Calls Tryz.prog 103 #[.pointer (some ⟨d, 0, none⟩), .string ⟨#[99, 117, 114]⟩] W fun e W' => e = .returned (.bool false) ∧ Mod Non W W'
  names : ∀ W, Mod Non w W → Calls Tryz.prog 120 #[.pointer (some ⟨d, 0, none⟩)] W fun e W' => ∃ A c, e = .returned (.slice A 0 c) ∧ Mod Non W W'
theorem FrD.mod0 {w w' : World} {d : Nat} (h : FrD w d) (hm : Mod Non w w') : FrD w' d := ⟨fun W k => h.read W (hm.trans0 k), fun W k => h.has W (hm.trans0 k), fun W k => h.names W (hm.trans0 k)⟩
def zeroPv : Value := .agg #[.int .i64 0, .int .i64 0, .int .i64 0, .int .i64 0, .slice none 0 0]

set_option maxRecDepth 100000 in
set_option maxHeartbeats 400000 in
theorem noneF (d : Nat) (w : World) (h : FrD w d) : Calls Tryz.prog 102 #[.pointer (some ⟨d, 0, none⟩)] w fun e w' => e = .returned (.bool false) ∧ Mod Non w w' := by
  have HR := Lib.hid (h.read w (Mod.refl _ _))
  clear h
  go_enter Tryz.func102, Tryz.ntmps102
  go_wp2_with (go_at_call 113; refine HR.out.mono ?_; rintro e w1 ⟨rfl, hm1⟩)
  go_ret
  exact ⟨rfl, hm1⟩

set_option maxRecDepth 100000 in
set_option maxHeartbeats 1000000 in
theorem loadF (d : Nat) (w : World) (h : FrD w d) : Calls Tryz.prog 66 #[.pointer (some ⟨d, 0, none⟩)] w fun e w' => e = .returned (.tuple #[zeroPv, .int .i64 0]) ∧ Mod Non w w' := by
  obtain ⟨w0, hw0⟩ : ∃ w0, w0 = w.alloc (.cells #[.int .i64 0, .int .i64 0, .int .i64 0, .int .i64 0, .slice none 0 0] 124) := ⟨_, rfl⟩
  have hm : Mod Non w w0 := by rw [hw0]; exact (Mod.refl Non w).alloc _
  have hr : Blk w0 w.heap.size 124 #[.int .i64 0, .int .i64 0, .int .i64 0, .int .i64 0, .slice none 0 0] := by rw [hw0]; exact Blk.new _ _ _
  have HF := Lib.hid h
  have HM := Lib.hid hm
  have HR := Lib.hid hr
  have HW := Lib.hid hw0
  clear hm hr hw0 h
  unfold zeroPv
  go_enter Tryz.func66, Tryz.ntmps66
  go_wp2_with fail
  rw [← HW.out]
  refine (noneF d w0 (HF.out.mod0 HM.out)).mono ?_
  rintro e w1 ⟨rfl, hm1⟩
  have HM1 := Lib.hid (HM.out.trans0 hm1)
  have HR1 := Lib.hid (HR.out.mod hm1 fun h => h)
  clear hm1
  go_wp2_with fail
  refine (HF.out.has w1 HM1.out).mono ?_
  rintro e w2 ⟨rfl, hm2⟩
  have HM2 := Lib.hid (HM1.out.trans0 hm2)
  have hr := HR1.out.mod hm2 fun h => h
  have HR2 := Lib.hid hr
  have r0 : w2.cell? ⟨w.heap.size, 0, none⟩ = some (.int .i64 0) := hr.cell 0
  have r1 : w2.cell? ⟨w.heap.size, 1, none⟩ = some (.int .i64 0) := hr.cell 1
  have r2 : w2.cell? ⟨w.heap.size, 2, none⟩ = some (.int .i64 0) := hr.cell 2
  have r3 : w2.cell? ⟨w.heap.size, 3, none⟩ = some (.int .i64 0) := hr.cell 3
  have r4 : w2.cell? ⟨w.heap.size, 4, none⟩ = some (.slice none 0 0) := hr.cell 4
  have f0 := hr.frozen 0
  have f1 := hr.frozen 1
  have f2 := hr.frozen 2
  have f3 := hr.frozen 3
  have f4 := hr.frozen 4
  clear hm2 hr
  go_wp2_with fail
  refine bodyPost_ret (results_rowtmp rfl _ _ w.heap.size 124 _ _ rfl (HR2.out.five _ _ _ _ _) Tryz.underlying124 rfl (by kernel_rfl) (.int .i64 0) rfl) rfl ?_
  exact ⟨rfl, set5 HM2.out _ _ _ _ _⟩

set_option maxRecDepth 100000 in
set_option maxHeartbeats 400000 in
theorem inF (w : World) : Calls Tryz.prog 172 #[.int .i64 0] w fun e w' => e = .returned (.bool true) ∧ w = w' := by
  go_enter Tryz.func172, Tryz.ntmps172
  go_wp2
  go_ret
  exact ⟨rfl, rfl⟩

set_option maxRecDepth 100000 in
set_option maxHeartbeats 1000000 in
theorem checkF (w : World) : Calls Tryz.prog 107 #[zeroPv] w fun e w' => e = .returned (.int .i64 0) ∧ Mod Non w w' := by
  have hmm := @run_makeMap Tryz.prog
  obtain ⟨w0, hw0⟩ : ∃ w0, w0 = w.alloc (.cells #[.int .i64 0, .int .i64 0, .int .i64 0, .int .i64 0, .slice none 0 0] 124) := ⟨_, rfl⟩
  have hm : Mod Non w w0 := by rw [hw0]; exact (Mod.refl Non w).alloc _
  have hr : Blk w0 w.heap.size 124 #[.int .i64 0, .int .i64 0, .int .i64 0, .int .i64 0, .slice none 0 0] := by rw [hw0]; exact Blk.new _ _ _
  have HM := Lib.hid hm
  have HW := Lib.hid hw0
  have r0 : w0.cell? ⟨w.heap.size, 0, none⟩ = some (.int .i64 0) := hr.cell 0
  have r1 : w0.cell? ⟨w.heap.size, 1, none⟩ = some (.int .i64 0) := hr.cell 1
  have r2 : w0.cell? ⟨w.heap.size, 2, none⟩ = some (.int .i64 0) := hr.cell 2
  have r3 : w0.cell? ⟨w.heap.size, 3, none⟩ = some (.int .i64 0) := hr.cell 3
  have r4 : w0.cell? ⟨w.heap.size, 4, none⟩ = some (.slice none 0 0) := hr.cell 4
  have q4 : ∀ o, (w0.alloc o).cell? ⟨w.heap.size, 4, none⟩ = some (.slice none 0 0) := fun o => ((Mod.refl Non w0).alloc o).cell r4 fun h => h
  clear hm hr hw0
  unfold zeroPv
  go_enter Tryz.func107, Tryz.ntmps107
  go_wp2_with (go_at_call 172; refine (inF _).mono ?_; rintro e w1 ⟨rfl, rfl⟩)
  refine wp_loop_rounds 1 ?_
  rw [rounds_succ]; go_wp2_with fail
  go_ret
  exact ⟨rfl, (by rw [← HW.out]; exact HM.out : Mod Non w (w.alloc (.cells #[.int .i64 0, .int .i64 0, .int .i64 0, .int .i64 0, .slice none 0 0] 124))).alloc _⟩

set_option maxRecDepth 100000 in
set_option maxHeartbeats 1000000 in
theorem sweepF (d : Nat) (v : Value) (w : World) (h : FrD w d) : Calls Tryz.prog 108 #[.pointer (some ⟨d, 0, none⟩), v] w fun e w' => e = .returned (.int .i64 0) ∧ Mod Non w w' := by
  have HR := Lib.hid (h.names w (Mod.refl _ _))
  clear h
  go_enter Tryz.func108, Tryz.ntmps108
  go_wp2_with (go_at_call 120; refine HR.out.mono ?_; rintro e w1 ⟨A1, c1, rfl, hm1⟩)
  have HM1 := Lib.hid hm1
  clear hm1
  refine wp_loop_rounds 1 ?_
  rw [rounds_succ]; go_wp2_with fail
  go_ret
  exact ⟨rfl, HM1.out⟩

set_option maxRecDepth 100000 in
set_option maxHeartbeats 1000000 in
theorem cleanF (d : Nat) (w : World) (h : FrD w d) : Calls Tryz.prog 67 #[.pointer (some ⟨d, 0, none⟩), zeroPv] w fun e w' => e = .returned (.int .i64 0) ∧ Mod Non w w' := by
  obtain ⟨w0, hw0⟩ : ∃ w0, w0 = w.alloc (.cells #[.int .i64 0, .int .i64 0, .int .i64 0, .int .i64 0, .slice none 0 0] 124) := ⟨_, rfl⟩
  have hm : Mod Non w w0 := by rw [hw0]; exact (Mod.refl Non w).alloc _
  have hr : Blk w0 w.heap.size 124 #[.int .i64 0, .int .i64 0, .int .i64 0, .int .i64 0, .slice none 0 0] := by rw [hw0]; exact Blk.new _ _ _
  have HF := Lib.hid h
  have HM := Lib.hid hm
  have HR := Lib.hid hr
  have HW := Lib.hid hw0
  have HC := Lib.hid checkF
  clear hm hr hw0 h
  unfold zeroPv at HC ⊢
  go_enter Tryz.func67, Tryz.ntmps67
  go_wp2_with fail
  rw [← HW.out]
  refine (noneF d w0 (HF.out.mod0 HM.out)).mono ?_
  rintro e w1 ⟨rfl, hm1⟩
  have HM1 := Lib.hid (HM.out.trans0 hm1)
  have hr := HR.out.mod hm1 fun h => h
  have r0 : w1.cell? ⟨w.heap.size, 0, none⟩ = some (.int .i64 0) := hr.cell 0
  have r1 : w1.cell? ⟨w.heap.size, 1, none⟩ = some (.int .i64 0) := hr.cell 1
  have r2 : w1.cell? ⟨w.heap.size, 2, none⟩ = some (.int .i64 0) := hr.cell 2
  have r3 : w1.cell? ⟨w.heap.size, 3, none⟩ = some (.int .i64 0) := hr.cell 3
  have r4 : w1.cell? ⟨w.heap.size, 4, none⟩ = some (.slice none 0 0) := hr.cell 4
  clear hm1 hr
  go_wp2_with fail
  refine (HC.out w1).mono ?_
  rintro e w2 ⟨rfl, hm2⟩
  have HM2 := Lib.hid (HM1.out.trans0 hm2)
  clear hm2 r0 r1 r2 r3 r4
  go_wp2_with fail
  refine (sweepF d _ w2 (HF.out.mod0 HM2.out)).mono ?_
  rintro e w3 ⟨rfl, hm3⟩
  have HM3 := Lib.hid (HM2.out.trans0 hm3)
  clear hm3
  go_wp2_with fail
  go_ret
  exact ⟨rfl, HM3.out⟩

set_option maxRecDepth 100000 in
set_option maxHeartbeats 1000000 in
theorem segsF (d : Nat) (w : World) (h : FrD w d) : Calls Tryz.prog 70 #[.pointer (some ⟨d, 0, none⟩)] w fun e w' => e = .returned (.slice none 0 0) ∧ Mod Non w w' := by
  have HR := Lib.hid (h.names w (Mod.refl _ _))
  clear h
  go_enter Tryz.func70, Tryz.ntmps70
  go_wp2_with (go_at_call 120; refine HR.out.mono ?_; rintro e w1 ⟨A1, c1, rfl, hm1⟩)
  have HM1 := Lib.hid hm1
  clear hm1
  refine wp_loop_rounds 1 ?_
  rw [rounds_succ]; go_wp2_with fail
  go_ret
  exact ⟨rfl, HM1.out⟩

end Go.Proofs.YtgnpmmhpeianpaaGreatDoor

/- lsm.Open on a disk without files. -/
namespace Go.Proofs.YtgnpmmhpeianpaaGreatDoor
open Go.RowKit

/-- a new engine's cells. -/
def egZ (d l tm pm : Nat) : Array Value := #[.pointer (some ⟨d, 0, none⟩), .int .i64 0, .int .i64 0, .int .i64 0, .int .i64 0, .slice none 0 0, .map (some tm), .pointer (some ⟨l, 0, none⟩), .int .i64 0, .int .i64 0, .map (some pm)]

theorem alloc4 (w : World) (a b c E : Obj) : ((((w.alloc a).alloc b).alloc c).alloc E).heap[w.heap.size]? = some a ∧ ((((w.alloc a).alloc b).alloc c).alloc E).heap[w.heap.size + 1]? = some b ∧ ((((w.alloc a).alloc b).alloc c).alloc E).heap[w.heap.size + 1 + 1]? = some c ∧ ((((w.alloc a).alloc b).alloc c).alloc E).heap[w.heap.size + 1 + 1 + 1]? = some E := by
  have h0 : w.heap.size < (w.alloc a).heap.size := by simp
  have s1 : (w.alloc a).heap.size = w.heap.size + 1 := by simp
  have s2 : ((w.alloc a).alloc b).heap.size = w.heap.size + 1 + 1 := by simp
  have s3 : (((w.alloc a).alloc b).alloc c).heap.size = w.heap.size + 1 + 1 + 1 := by simp
  refine ⟨?_, ?_, ?_, ?_⟩
  · rw [heap_alloc_old _ _ (by omega), heap_alloc_old _ _ (by omega), heap_alloc_old _ _ (by omega), heap_alloc_new]
  · rw [heap_alloc_old _ _ (by omega), heap_alloc_old _ _ (by omega), ← s1, heap_alloc_new]
  · rw [heap_alloc_old _ _ (by omega), ← s2, heap_alloc_new]
  · rw [← s3, heap_alloc_new]
theorem map_at {w : World} {m : Nat} (h : w.heap[m]? = some (.map #[] 0)) : MapAt (Value.int .i64) w m [] := ⟨#[], 0, h, Go.MapKept.stamped_empty 0, rfl⟩

/-- what the maps, the list and the engine are, wherever they lie. -/
def NewE (W : World) (d n e l tm pm : Nat) : Prop := Blk W e 133 (egZ d l tm pm) ∧ Blk W l 210 (lsCells [] 0 0) ∧
    MapAt (Value.int .i64) W tm [] ∧ MapAt (Value.int .i64) W pm [] ∧ (e ≠ l ∧ e ≠ tm ∧ e ≠ pm ∧ l ≠ tm ∧ l ≠ pm ∧ tm ≠ pm) ∧ (n ≤ e ∧ n ≤ l ∧ n ≤ tm ∧ n ≤ pm)
theorem NewE.mod0 {W W' : World} {d n e l tm pm : Nat} (h : NewE W d n e l tm pm) (hm : Mod Non W W') : NewE W' d n e l tm pm :=
  ⟨h.1.mod hm fun h => h, h.2.1.mod hm fun h => h, h.2.2.1.mod0' hm, h.2.2.2.1.mod0' hm, h.2.2.2.2⟩

set_option maxRecDepth 100000 in
set_option maxHeartbeats 8000000 in
theorem openF (d : Nat) (w : World) (h : FrD w d) : Calls Tryz.prog 42 #[.pointer (some ⟨d, 0, none⟩)] w fun r w' => ∃ e l tm pm, r = .returned (.tuple #[.pointer (some ⟨e, 0, none⟩), .int .i64 0]) ∧ NewE w' d w.heap.size e l tm pm ∧ Mod Non w w' := by
  have hmm := @run_makeMap Tryz.prog
  have HL := Lib.hid (loadF d w h)
  have HF := Lib.hid h
  have HC := Lib.hid cleanF
  clear h
  unfold zeroPv at HL HC
  go_enter Tryz.func42, Tryz.ntmps42
  go_wp2_with fail
  refine HL.out.mono ?_
  rintro e w1 ⟨rfl, hm1⟩
  obtain ⟨w2, hw2⟩ : ∃ w2, w2 = w1.alloc (.cells #[.int .i64 0, .int .i64 0, .int .i64 0, .int .i64 0, .slice none 0 0] 124) := ⟨_, rfl⟩
  have hm2 : Mod Non w w2 := by rw [hw2]; exact hm1.alloc _
  have hb2 : Blk w2 w1.heap.size 124 #[.int .i64 0, .int .i64 0, .int .i64 0, .int .i64 0, .slice none 0 0] := by rw [hw2]; exact Blk.new _ _ _
  have HM2 := Lib.hid hm2
  have HB2 := Lib.hid hb2
  have hs1 := hm1.size
  clear hm1
  go_wp2_with fail
  rw [← hw2]
  have HW2 := Lib.hid hw2
  clear hw2 hm2 hb2
  refine (HC.out d w2 (HF.out.mod0 HM2.out)).mono ?_
  rintro e w3 ⟨rfl, hm3⟩
  have hb3 := HB2.out.mod hm3 fun h => h
  have v0 : w3.cell? ⟨w1.heap.size, 0, none⟩ = some (.int .i64 0) := hb3.cell 0
  have v1 : w3.cell? ⟨w1.heap.size, 1, none⟩ = some (.int .i64 0) := hb3.cell 1
  have v2 : w3.cell? ⟨w1.heap.size, 2, none⟩ = some (.int .i64 0) := hb3.cell 2
  have v3 : w3.cell? ⟨w1.heap.size, 3, none⟩ = some (.int .i64 0) := hb3.cell 3
  have v4 : w3.cell? ⟨w1.heap.size, 4, none⟩ = some (.slice none 0 0) := hb3.cell 4
  have HM3 := Lib.hid (HM2.out.trans0 hm3)
  have hs3 := HM3.out.size
  have HB3 := Lib.hid hb3
  have HS : Hid (∀ W, Mod Non w3 W → Mod Non w3 W ∧ W.cell? ⟨w1.heap.size, 0, none⟩ = some (.int .i64 0) ∧ W.cell? ⟨w1.heap.size, 1, none⟩ = some (.int .i64 0) ∧ W.cell? ⟨w1.heap.size, 2, none⟩ = some (.int .i64 0) ∧ W.cell? ⟨w1.heap.size, 3, none⟩ = some (.int .i64 0) ∧ W.cell? ⟨w1.heap.size, 4, none⟩ = some (.slice none 0 0)) :=
    fun W hm => ⟨hm, hm.cell v0 fun h => h, hm.cell v1 fun h => h, hm.cell v2 fun h => h, hm.cell v3 fun h => h, hm.cell v4 fun h => h⟩
  obtain ⟨hmr, -⟩ := HS.out w3 (Mod.refl _ _)
  clear hm3 hb3
  go_wp2_with fail
  go_region_held3 (fun w' => Mod Non w3 w' ∧ w'.cell? ⟨w1.heap.size, 0, none⟩ = some (.int .i64 0) ∧ w'.cell? ⟨w1.heap.size, 1, none⟩ = some (.int .i64 0) ∧ w'.cell? ⟨w1.heap.size, 2, none⟩ = some (.int .i64 0) ∧ w'.cell? ⟨w1.heap.size, 3, none⟩ = some (.int .i64 0) ∧ w'.cell? ⟨w1.heap.size, 4, none⟩ = some (.slice none 0 0))
    (first | (exact HS.out _ (Mod.drew (by first | assumption | exact Mod.refl _ _))) | (exact HS.out _ (Mod.alloc (by first | assumption | exact Mod.refl _ _) _)) | (exact HS.out _ (by repeat (first | assumption | exact Mod.refl _ _ | refine Mod.drew ?_ | refine Mod.alloc ?_ _))) | go_keep)
    (first | (go_at_call 68; refine (newL_any _).mono ?_; rintro r w9 ⟨rfl, rfl⟩))
  all_goals
    have hv4 : ∀ a b c E : Obj, ((((w3.alloc a).alloc b).alloc c).alloc E).cell? ⟨w1.heap.size, 4, none⟩ = some (.slice none 0 0) := fun a b c E => (((((Mod.refl Non w3).alloc a).alloc b).alloc c).alloc E).cell v4 fun h => h
    have HA := Lib.hid (alloc4 w3)
    have HMA : Hid (∀ a b c E : Obj, Mod Non w ((((w3.alloc a).alloc b).alloc c).alloc E).drew) := fun a b c E => ((((HM3.out.alloc a).alloc b).alloc c).alloc E).drew
    have hfin : Hid (∀ a b c E : Obj, ∀ l tm pm : Nat, (E = .cells (egZ d l tm pm) 133) → ((l = w3.heap.size ∧ a = .cells (lsCells [] 0 0) 210) ∨ (l = w3.heap.size + 1 ∧ b = .cells (lsCells [] 0 0) 210) ∨ (l = w3.heap.size + 1 + 1 ∧ c = .cells (lsCells [] 0 0) 210)) →
        ((tm = w3.heap.size ∧ a = .map #[] 0) ∨ (tm = w3.heap.size + 1 ∧ b = .map #[] 0) ∨ (tm = w3.heap.size + 1 + 1 ∧ c = .map #[] 0)) → ((pm = w3.heap.size ∧ a = .map #[] 0) ∨ (pm = w3.heap.size + 1 ∧ b = .map #[] 0) ∨ (pm = w3.heap.size + 1 + 1 ∧ c = .map #[] 0)) → l ≠ tm ∧ l ≠ pm ∧ tm ≠ pm →
        NewE ((((w3.alloc a).alloc b).alloc c).alloc E).drew d w.heap.size (w3.heap.size + 1 + 1 + 1) l tm pm) := by
      intro a b c E l tm pm hE hl ht hp hne
      obtain ⟨q0, q1, q2, q3⟩ := HA.out a b c E
      refine ⟨by subst hE; exact q3, ?_, ?_, ?_, ⟨by omega, by omega, by omega, hne.1, hne.2.1, hne.2.2⟩, by omega, by omega, by omega, by omega⟩
      · rcases hl with ⟨rfl, rfl⟩ | ⟨rfl, rfl⟩ | ⟨rfl, rfl⟩
        · exact q0
        · exact q1
        · exact q2
      · rcases ht with ⟨rfl, rfl⟩ | ⟨rfl, rfl⟩ | ⟨rfl, rfl⟩
        · exact map_at q0
        · exact map_at q1
        · exact map_at q2
      · rcases hp with ⟨rfl, rfl⟩ | ⟨rfl, rfl⟩ | ⟨rfl, rfl⟩
        · exact map_at q0
        · exact map_at q1
        · exact map_at q2
    go_wp2_with fail
    refine wp_loop_rounds 1 ?_
    rw [rounds_succ]; go_wp2_with fail
    refine (segsF d _ (HF.out.mod0 (HMA.out _ _ _ _))).mono ?_
    rintro r w5 ⟨rfl, hm5⟩
    have HM5 := Lib.hid hm5
    have HM6 := Lib.hid ((HMA.out _ _ _ _).trans0 hm5)
    clear hm5
    go_wp2_with fail
    refine wp_loop_rounds 1 ?_
    rw [rounds_succ]; go_wp2_with fail
    go_ret2
    first
      | exact ⟨_, w3.heap.size, w3.heap.size + 1, w3.heap.size + 1 + 1, rfl, (hfin.out _ _ _ _ _ _ _ rfl (.inl ⟨rfl, rfl⟩) (.inr (.inl ⟨rfl, rfl⟩)) (.inr (.inr ⟨rfl, rfl⟩)) (by omega)).mod0 HM5.out, HM6.out⟩
      | exact ⟨_, w3.heap.size, w3.heap.size + 1 + 1, w3.heap.size + 1, rfl, (hfin.out _ _ _ _ _ _ _ rfl (.inl ⟨rfl, rfl⟩) (.inr (.inr ⟨rfl, rfl⟩)) (.inr (.inl ⟨rfl, rfl⟩)) (by omega)).mod0 HM5.out, HM6.out⟩
      | exact ⟨_, w3.heap.size + 1, w3.heap.size, w3.heap.size + 1 + 1, rfl, (hfin.out _ _ _ _ _ _ _ rfl (.inr (.inl ⟨rfl, rfl⟩)) (.inl ⟨rfl, rfl⟩) (.inr (.inr ⟨rfl, rfl⟩)) (by omega)).mod0 HM5.out, HM6.out⟩
      | exact ⟨_, w3.heap.size + 1, w3.heap.size + 1 + 1, w3.heap.size, rfl, (hfin.out _ _ _ _ _ _ _ rfl (.inr (.inl ⟨rfl, rfl⟩)) (.inr (.inr ⟨rfl, rfl⟩)) (.inl ⟨rfl, rfl⟩) (by omega)).mod0 HM5.out, HM6.out⟩
      | exact ⟨_, w3.heap.size + 1 + 1, w3.heap.size, w3.heap.size + 1, rfl, (hfin.out _ _ _ _ _ _ _ rfl (.inr (.inr ⟨rfl, rfl⟩)) (.inl ⟨rfl, rfl⟩) (.inr (.inl ⟨rfl, rfl⟩)) (by omega)).mod0 HM5.out, HM6.out⟩
      | exact ⟨_, w3.heap.size + 1 + 1, w3.heap.size + 1, w3.heap.size, rfl, (hfin.out _ _ _ _ _ _ _ rfl (.inr (.inr ⟨rfl, rfl⟩)) (.inr (.inl ⟨rfl, rfl⟩)) (.inl ⟨rfl, rfl⟩) (by omega)).mod0 HM5.out, HM6.out⟩

end Go.Proofs.YtgnpmmhpeianpaaGreatDoor
