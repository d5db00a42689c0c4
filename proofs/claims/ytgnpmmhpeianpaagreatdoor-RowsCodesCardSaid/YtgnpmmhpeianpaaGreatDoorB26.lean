/- rows: EncodeTree. -/
import Derived.Test.YtgnpmmhpeianpaaGreatDoorB17
import Derived.Test.YtgnpmmhpeianpaaGreatDoorB14
import Derived.Deep.RegionHeld3
namespace Go.Proofs.YtgnpmmhpeianpaaGreatDoor
open Go.RowKit

/-- a tree's bytes. -/
def encT (id st q : Int) (nm ky : ByteArray) : List UInt8 := (nBs [id, st, q] ++ textB nm.data.toList) ++ textB ky.data.toList
def EtPost (id st q : Int) (nm ky : ByteArray) (w : World) (e : Ending) (w' : World) : Prop :=
  if treeR id st q nm ky = true then ∃ A' n' c', e = .returned (.tuple #[.slice A' n' c', .int .i64 0]) ∧ n' = (encT id st q nm ky).length ∧ Rd w' A' n' (by8 (encT id st q nm ky)) ∧ n' ≤ c' ∧ c' ≤ 9223372036854775807 ∧ Mod Non w w'
  else e = .returned (.tuple #[.slice none 0 0, .int .i64 1]) ∧ Mod Non w w'
theorem treeR_len {id st q : Int} {nm ky : ByteArray} (h : treeR id st q nm ky = true) : nm.size ≤ 100 ∧ ky.size = 32 := by
  unfold treeR isH at h
  simp only [Bool.and_eq_true, decide_eq_true_eq] at h
  omega

set_option maxRecDepth 100000 in
set_option maxHeartbeats 4000000 in
theorem encTree_any (id st q : Int) (nm ky : ByteArray) (w : World) : Calls Tryz.prog 5 #[.agg (tCells id st q nm ky)] w (EtPost id st q nm ky w) := by
  obtain ⟨w0, hw0⟩ : ∃ w0, w0 = w.alloc (.cells (tCells id st q nm ky) 32) := ⟨_, rfl⟩
  have hb0 : Blk w0 w.heap.size 32 (tCells id st q nm ky) := by rw [hw0]; exact Blk.new _ _ _
  have hm0 : Mod Non w w0 := by rw [hw0]; exact (Mod.refl Non w).alloc _
  have HTR := Lib.hid (treeRight_any id st q nm ky w0)
  unfold tCells at hb0 hw0 HTR ⊢
  have c0 : w0.cell? ⟨w.heap.size, 0, none⟩ = some (.int .i64 id) := hb0.cell 0
  have c1 : w0.cell? ⟨w.heap.size, 1, none⟩ = some (.int .i64 st) := hb0.cell 1
  have c2 : w0.cell? ⟨w.heap.size, 2, none⟩ = some (.int .i64 q) := hb0.cell 2
  have c3 : w0.cell? ⟨w.heap.size, 3, none⟩ = some (.string nm) := hb0.cell 3
  have c4 : w0.cell? ⟨w.heap.size, 4, none⟩ = some (.string ky) := hb0.cell 4
  have HM := Lib.hid hm0
  have HB := Lib.hid hb0
  have HW0 := Lib.hid hw0
  clear hb0 hm0 hw0
  unfold EtPost
  obtain ⟨b, hb⟩ : ∃ b, treeR id st q nm ky = b := ⟨_, rfl⟩
  rw [hb] at HTR ⊢
  cases b with
  | false =>
    clear hb
    simp only [Bool.false_eq_true, if_false]
    go_enter Tryz.func5, Tryz.ntmps5
    go_wp2_with fail
    rw [← HW0.out]
    refine HTR.out.mono ?_
    rintro r w1 ⟨rfl, hm1⟩
    have HM1 := Lib.hid (HM.out.trans0 hm1)
    clear hm1
    go_wp2_with fail
    go_ret2
    exact ⟨rfl, HM1.out⟩
  | true =>
    obtain ⟨hl1, hl2⟩ := treeR_len hb
    clear hb
    simp only [if_true]
    go_enter Tryz.func5, Tryz.ntmps5
    go_wp2_with fail
    rw [← HW0.out]
    refine HTR.out.mono ?_
    rintro r w1 ⟨rfl, hm1⟩
    have HM1 := Lib.hid (HM.out.trans0 hm1)
    have HB1 := Lib.hid (HB.out.mod hm1 fun h => h)
    clear hm1 c0 c1 c2 c3 c4
    go_wp2_with fail
    have HKE : Hid (∀ W, Mod Non w1 W → W.cell? ⟨w.heap.size, 0, none⟩ = some (.int .i64 id) ∧ W.cell? ⟨w.heap.size, 1, none⟩ = some (.int .i64 st) ∧ W.cell? ⟨w.heap.size, 2, none⟩ = some (.int .i64 q) ∧ W.cell? ⟨w.heap.size, 3, none⟩ = some (.string nm) ∧ W.cell? ⟨w.heap.size, 4, none⟩ = some (.string ky)) :=
      fun W hW => ⟨(HB1.out.mod hW fun h => h).cell 0, (HB1.out.mod hW fun h => h).cell 1, (HB1.out.mod hW fun h => h).cell 2, (HB1.out.mod hW fun h => h).cell 3, (HB1.out.mod hW fun h => h).cell 4⟩
    have hke0 := HKE.out _ ((Mod.refl Non w1).drew)
    have HMA := Lib.hid (((Mod.refl Non w1).drew).alloc (.cells #[.int .i64 id, .int .i64 st, .int .i64 q] 3))
    have hke1 := HKE.out _ HMA.out
    have hrd := rd_new w1.drew 3 [.int .i64 id, .int .i64 st, .int .i64 q]
    have HRD := Lib.hid hrd
    clear hrd
    go_region_held3 (fun w' => w'.cell? ⟨w.heap.size, 0, none⟩ = some (.int .i64 id) ∧ w'.cell? ⟨w.heap.size, 1, none⟩ = some (.int .i64 st) ∧ w'.cell? ⟨w.heap.size, 2, none⟩ = some (.int .i64 q) ∧ w'.cell? ⟨w.heap.size, 3, none⟩ = some (.string nm) ∧ w'.cell? ⟨w.heap.size, 4, none⟩ = some (.string ky))
      (first | exact hke0 | exact hke1 | exact hke2 | exact hke3 | exact hke4)
      (first
        | (go_at_call 27
           refine (numsW_any _ 3 _ [id, st, q] _ HRD.out (by omega)).mono ?_
           rintro e w2 ⟨A2, n2, c2, rfl, hn2, hr2, hnc2, hcm2, hm2⟩
           have HM2 := Lib.hid (HMA.out.trans0 hm2)
           have hke2 := HKE.out w2 HM2.out
           have HR2 := Lib.hid hr2
           have HN2 := Lib.hid hn2
           have hn2b : n2 ≤ 1000 := by rw [hn2]; have := nBs_len [id, st, q]; simp only [List.length_cons, List.length_nil] at this; omega
           clear hn2 hr2 hm2)
        | (go_at_call 26
           (with_reducible refine (putText_any A2 n2 c2 _ nm _ HR2.out (by omega)).mono ?_)
           rintro e w3 ⟨A3, n3, c3, rfl, hn3, hr3, hnc3, hcm3, hm3⟩
           have HM3 := Lib.hid (HM2.out.trans0 hm3)
           have hke3 := HKE.out w3 HM3.out
           have HR3 := Lib.hid hr3
           have HN3 := Lib.hid hn3
           have hn3b : n3 ≤ 2000 := by
             rw [hn3, List.length_append]
             have h1 := nBs_len [id, st, q]
             have h2 := nB_len (nm.data.toList.length : Int)
             have h4 : nm.data.toList.length = nm.size := Array.length_toList
             unfold textB
             simp only [List.length_cons, List.length_nil, List.length_append] at h1 ⊢
             omega
           clear hn3 hr3 hm3)
        | (go_at_call 26
           (with_reducible refine (putText_any A3 n3 c3 _ ky _ HR3.out (by omega)).mono ?_)
           rintro e w4 ⟨A4, n4, c4, rfl, hn4, hr4, hnc4, hcm4, hm4⟩
           have HM4 := Lib.hid (HM3.out.trans0 hm4)
           have hke4 := HKE.out w4 HM4.out
           have HR4 := Lib.hid hr4
           have HN4 := Lib.hid hn4
           clear hn4 hr4 hm4)
        | fail)
    all_goals
      go_wp2_with fail
      go_ret2
      exact ⟨A4, n4, c4, rfl, HN4.out, HR4.out, hnc4, hcm4, HM1.out.trans0 HM4.out⟩

end Go.Proofs.YtgnpmmhpeianpaaGreatDoor
