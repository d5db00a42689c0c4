/- sawyerref18.EncodeTree. -/
import Derived.Test.YtgnpmmhpeianpaaGreatDoorB26
import Derived.Test.YtgnpmmhpeianpaaGreatDoorB17
import Derived.Test.YtgnpmmhpeianpaaGreatDoorB31
import Derived.Deep.RegionHeld3
import Derived.Test.YtgnpmmhpeianpaaGreatDoorB30
import Derived.Test.YtgnpmmhpeianpaaGreatDoorB33
namespace Go.Proofs.YtgnpmmhpeianpaaGreatDoor
open Go.RowKit

theorem numsQW_any (B : Option Addr) (m d : Nat) (xs : List Int) (w : World) (g : Rd w B m (xs.map (Value.int .i64))) (hm : m ≤ 1000) :
    Calls Tryz.prog 30 #[.slice B m d] w fun e w' => ∃ A' n' c', e = .returned (.slice A' n' c') ∧ n' = (nBs xs).length ∧ Rd w' A' n' (by8 (nBs xs)) ∧ n' ≤ c' ∧ c' ≤ 9223372036854775807 ∧ Mod Non w w' := by
  refine (numsQ_any B m d xs w g hm).mono ?_
  rintro e w' ⟨A', n', c', rfl, hn, ho, hb⟩
  obtain ⟨_, _, he, h1, h2⟩ := own_slice ho
  cases he
  exact ⟨A', n', c', rfl, hn, Rd.of_own ho, h1, by simpa [maxLen] using h2, Mod.of_below hb⟩

set_option maxRecDepth 100000 in
set_option maxHeartbeats 4000000 in
theorem encTreeQ_any (id st q : Int) (nm ky : ByteArray) (w : World) : Calls Tryz.prog 7 #[.agg (tCells id st q nm ky)] w (EtPost id st q nm ky w) := by
  obtain ⟨w0, hw0⟩ : ∃ w0, w0 = w.alloc (.cells (tCells id st q nm ky) 23) := ⟨_, rfl⟩
  have hb0 : Blk w0 w.heap.size 23 (tCells id st q nm ky) := by rw [hw0]; exact Blk.new _ _ _
  have hm0 : Mod Non w w0 := by rw [hw0]; exact (Mod.refl Non w).alloc _
  have HTR := Lib.hid (rightTree_any id st q nm ky w0)
  unfold tCells at hb0 hw0 HTR ⊢
  have c0 : w0.cell? ⟨w.heap.size, 0, none⟩ = some (.int .i64 id) := hb0.cell 0
  have c1 : w0.cell? ⟨w.heap.size, 1, none⟩ = some (.int .i64 st) := hb0.cell 1
  have c2 : w0.cell? ⟨w.heap.size, 2, none⟩ = some (.int .i64 q) := hb0.cell 2
  have c3 : w0.cell? ⟨w.heap.size, 3, none⟩ = some (.string nm) := hb0.cell 3
  have c4 : w0.cell? ⟨w.heap.size, 4, none⟩ = some (.string ky) := hb0.cell 4
  have HM := Lib.hid hm0
  have HB := Lib.hid hb0
  have HW0 := Lib.hid hw0
  clear hb0 hm0 hw0
  unfold EtPost
  obtain ⟨b, hb⟩ : ∃ b, treeR id st q nm ky = b := ⟨_, rfl⟩
  rw [hb] at HTR ⊢
  cases b with
  | false =>
    clear hb
    simp only [Bool.false_eq_true, if_false]
    go_enter Tryz.func7, Tryz.ntmps7
    go_wp2_with fail
    rw [← HW0.out]
    refine HTR.out.mono ?_
    rintro r w1 ⟨rfl, hm1⟩
    have HM1 := Lib.hid (HM.out.trans0 hm1)
    clear hm1
    go_wp2_with fail
    go_ret2
    exact ⟨rfl, HM1.out⟩
  | true =>
    obtain ⟨hl1, hl2⟩ := treeR_len hb
    clear hb
    simp only [if_true]
    go_enter Tryz.func7, Tryz.ntmps7
    go_wp2_with fail
    rw [← HW0.out]
    refine HTR.out.mono ?_
    rintro r w1 ⟨rfl, hm1⟩
    have HM1 := Lib.hid (HM.out.trans0 hm1)
    have HB1 := Lib.hid (HB.out.mod hm1 fun h => h)
    clear hm1 c0 c1 c2 c3 c4
    go_wp2_with fail
    have HKE : Hid (∀ W, Mod Non w1 W → W.cell? ⟨w.heap.size, 0, none⟩ = some (.int .i64 id) ∧ W.cell? ⟨w.heap.size, 1, none⟩ = some (.int .i64 st) ∧ W.cell? ⟨w.heap.size, 2, none⟩ = some (.int .i64 q) ∧ W.cell? ⟨w.heap.size, 3, none⟩ = some (.string nm) ∧ W.cell? ⟨w.heap.size, 4, none⟩ = some (.string ky)) :=
      fun W hW => ⟨(HB1.out.mod hW fun h => h).cell 0, (HB1.out.mod hW fun h => h).cell 1, (HB1.out.mod hW fun h => h).cell 2, (HB1.out.mod hW fun h => h).cell 3, (HB1.out.mod hW fun h => h).cell 4⟩
    have hke0 := HKE.out _ ((Mod.refl Non w1).drew)
    have HMA := Lib.hid (((Mod.refl Non w1).drew).alloc (.cells #[.int .i64 id, .int .i64 st, .int .i64 q] 3))
    have hke1 := HKE.out _ HMA.out
    have hrd := rd_new w1.drew 3 [.int .i64 id, .int .i64 st, .int .i64 q]
    have HRD := Lib.hid hrd
    clear hrd
    go_region_held3 (fun w' => w'.cell? ⟨w.heap.size, 0, none⟩ = some (.int .i64 id) ∧ w'.cell? ⟨w.heap.size, 1, none⟩ = some (.int .i64 st) ∧ w'.cell? ⟨w.heap.size, 2, none⟩ = some (.int .i64 q) ∧ w'.cell? ⟨w.heap.size, 3, none⟩ = some (.string nm) ∧ w'.cell? ⟨w.heap.size, 4, none⟩ = some (.string ky))
      (first | exact hke0 | exact hke1 | exact hke2 | exact hke3 | exact hke4)
      (first
        | (go_at_call 30
           refine (numsQW_any _ 3 _ [id, st, q] _ HRD.out (by omega)).mono ?_
           rintro e w2 ⟨A2, n2, c2, rfl, hn2, hr2, hnc2, hcm2, hm2⟩
           have HM2 := Lib.hid (HMA.out.trans0 hm2)
           have hke2 := HKE.out w2 HM2.out
           have HR2 := Lib.hid hr2
           have HN2 := Lib.hid hn2
           have hn2b : n2 ≤ 1000 := by rw [hn2]; have := nBs_len [id, st, q]; simp only [List.length_cons, List.length_nil] at this; omega
           clear hn2 hr2 hm2)
        | (go_at_call 29
           (with_reducible refine (putTextR_any A2 n2 c2 _ nm _ HR2.out (by omega)).mono ?_)
           rintro e w3 ⟨A3, n3, c3, rfl, hn3, -, hr3, hnc3, hcm3, hm3⟩
           have HM3 := Lib.hid (HM2.out.trans0 hm3)
           have hke3 := HKE.out w3 HM3.out
           have HR3 := Lib.hid hr3
           have HN3 := Lib.hid hn3
           have hn3b : n3 ≤ 2000 := by
             rw [hn3, List.length_append]
             have h1 := nBs_len [id, st, q]
             have h2 := nB_len (nm.data.toList.length : Int)
             have h4 : nm.data.toList.length = nm.size := Array.length_toList
             unfold textB
             simp only [List.length_cons, List.length_nil, List.length_append] at h1 ⊢
             omega
           clear hn3 hr3 hm3)
        | (go_at_call 29
           (with_reducible refine (putTextR_any A3 n3 c3 _ ky _ HR3.out (by omega)).mono ?_)
           rintro e w4 ⟨A4, n4, c4, rfl, hn4, -, hr4, hnc4, hcm4, hm4⟩
           have HM4 := Lib.hid (HM3.out.trans0 hm4)
           have hke4 := HKE.out w4 HM4.out
           have HR4 := Lib.hid hr4
           have HN4 := Lib.hid hn4
           clear hn4 hr4 hm4)
        | fail)
    all_goals
      go_wp2_with fail
      go_ret2
      exact ⟨A4, n4, c4, rfl, HN4.out, HR4.out, hnc4, hcm4, HM1.out.trans0 HM4.out⟩

end Go.Proofs.YtgnpmmhpeianpaaGreatDoor

/- sawyerref18.DecodeTree. -/
namespace Go.Proofs.YtgnpmmhpeianpaaGreatDoor
open Go.RowKit

set_option maxRecDepth 100000 in
set_option maxHeartbeats 4000000 in
theorem decTreeQ_any (A : Option Addr) (n c : Nat) (l : List UInt8) (w : World) (h : Rd w A n (by8 l)) (hnc : n ≤ c) (hn : n ≤ 140737488351232) (hcm : c ≤ 9223372036854775807) :
    Calls Tryz.prog 15 #[.slice A n c] w (DtPost l w) := by
  obtain ⟨w0, hw0⟩ : ∃ w0, w0 = w.alloc (.cells #[.int .i64 0, .int .i64 0, .int .i64 0, .string ⟨#[]⟩, .string ⟨#[]⟩] 23) := ⟨_, rfl⟩
  have hb0 : Blk w0 w.heap.size 23 #[.int .i64 0, .int .i64 0, .int .i64 0, .string ⟨#[]⟩, .string ⟨#[]⟩] := by rw [hw0]; exact Blk.new _ _ _
  have hm0 : Mod Non w w0 := by rw [hw0]; exact (Mod.refl Non w).alloc _
  have HM0 := Lib.hid hm0
  have HB0 := Lib.hid hb0
  have HW0 := Lib.hid hw0
  have ht := takeQ_any A n c l 3 w0 (h.mod0 hm0) hnc (by omega) hcm (by omega)
  unfold TkPost at ht
  unfold DtPost decT
  clear hb0 hm0 hw0
  cases htn : takeN 3 l with
  | none =>
    rw [htn] at ht
    have HT := Lib.hid ht
    clear ht htn
    unfold tCells
    simp only
    go_enter Tryz.func15, Tryz.ntmps15
    go_wp2_with fail
    rw [← HW0.out]
    refine HT.out.mono ?_
    rintro r w1 ⟨rfl, hm1⟩
    have HM1 := Lib.hid (HM0.out.trans0 hm1)
    have hb1 := HB0.out.mod hm1 fun h => h
    have HB1 := Lib.hid hb1
    have r0 : w1.cell? ⟨w.heap.size, 0, none⟩ = some (.int .i64 0) := hb1.cell 0
    have fr0 := hb1.frozen 0
    have r1 : w1.cell? ⟨w.heap.size, 1, none⟩ = some (.int .i64 0) := hb1.cell 1
    have fr1 := hb1.frozen 1
    have r2 : w1.cell? ⟨w.heap.size, 2, none⟩ = some (.int .i64 0) := hb1.cell 2
    have fr2 := hb1.frozen 2
    have r3 : w1.cell? ⟨w.heap.size, 3, none⟩ = some (.string ⟨#[]⟩) := hb1.cell 3
    have fr3 := hb1.frozen 3
    have r4 : w1.cell? ⟨w.heap.size, 4, none⟩ = some (.string ⟨#[]⟩) := hb1.cell 4
    have fr4 := hb1.frozen 4
    clear hm1 hb1
    go_wp2_with fail
    have HB4 := Lib.hid (((((HB1.out.set_ 0 (.int .i64 0)).set_ 1 (.int .i64 0)).set_ 2 (.int .i64 0)).set_ 3 (.string ⟨#[]⟩)).set_ 4 (.string ⟨#[]⟩))
    have HM4 := Lib.hid (((((HM1.out.setCell (p := ⟨w.heap.size, 0, none⟩) (.inr (by simp only; omega)) (.int .i64 0)).setCell (p := ⟨w.heap.size, 1, none⟩) (.inr (by simp only; omega)) (.int .i64 0)).setCell (p := ⟨w.heap.size, 2, none⟩) (.inr (by simp only; omega)) (.int .i64 0)).setCell (p := ⟨w.heap.size, 3, none⟩) (.inr (by simp only; omega)) (.string ⟨#[]⟩)).setCell (p := ⟨w.heap.size, 4, none⟩) (.inr (by simp only; omega)) (.string ⟨#[]⟩))
    refine bodyPost_ret (results_rowtmp rfl _ _ w.heap.size 23 _ _ rfl HB4.out Tryz.underlying23 rfl (by kernel_rfl) (.int .i64 2) rfl) rfl ?_
    exact ⟨rfl, HM4.out⟩
  | some p =>
    obtain ⟨ms, q⟩ := p
    rw [htn] at ht
    have hml := takeN_len htn
    have hql := takeN_rest htn
    have hll : l.length = n := by simpa using h.1
    obtain ⟨a, b, d, rfl⟩ : ∃ a b d, ms = [a, b, d] := by
      match ms, hml with
      | [a, b, d], _ => exact ⟨a, b, d, rfl⟩
    have HT := Lib.hid ht
    clear ht htn hml
    simp only [List.getD_cons_zero, List.getD_cons_succ]
    unfold tCells
    cases ht1 : takeText q 1000 with
    | none =>
      simp only
      have HT1 := Lib.hid ht1
      clear ht1
      go_enter Tryz.func15, Tryz.ntmps15
      go_wp2_with fail
      rw [← HW0.out]
      refine HT.out.mono ?_
      rintro r w1 ⟨A1, c1, A2, n2, c2, rfl, hr1, ⟨hc1, hc1'⟩, hq2, hr2, ⟨hc2, hc2', hc2''⟩, hm1⟩
      have HM1 := Lib.hid (HM0.out.trans0 hm1)
      have HB1 := Lib.hid (HB0.out.mod hm1 fun h => h)
      have HR1 := Lib.hid hr1
      have ht2 := takeTextR_any A2 n2 c2 q 1000 w1 hr2 hc2 (by omega) hc2'
      unfold TtPost at ht2
      rw [HT1.out] at ht2
      have HT2 := Lib.hid ht2
      clear hm1 hr1 hr2 ht2
      go_wp2_with fail
      refine HT2.out.mono ?_
      rintro r w2 ⟨rfl, hm2⟩
      have HM2 := Lib.hid (HM1.out.trans0 hm2)
      have HB2 := Lib.hid (HB1.out.mod hm2 fun h => h)
      have HR2 := Lib.hid (HR1.out.mod0 hm2)
      have ht3 := takeTextR_any none 0 0 [] 1000 w2 (Rd.nil _ _) (by omega) (by omega) (by omega)
      unfold TtPost at ht3
      rw [takeText_nil] at ht3
      have HT3 := Lib.hid ht3
      clear hm2 ht3
      go_wp2_with fail
      refine HT3.out.mono ?_
      rintro r w3 ⟨rfl, hm3⟩
      have HM3 := Lib.hid (HM2.out.trans0 hm3)
      have HB3 := Lib.hid (HB2.out.mod hm3 fun h => h)
      have hr3 := HR2.out.mod0 hm3
      obtain ⟨B, O, rfl, k0, k1, k2⟩ := rd3 hr3
      have hB := World.block_lt_of_cell? w3 _ k0
      simp only at hB
      have hB' : B ≠ w3.heap.size := by omega
      clear hm3 hr3
      go_wp2_with fail
      go_region_held3 (fun w' => w'.cell? ⟨B, O, none⟩ = some (.int .i64 (a : Int)) ∧ w'.cell? ⟨B, O + 1, none⟩ = some (.int .i64 (b : Int)) ∧ w'.cell? ⟨B, O + 2, none⟩ = some (.int .i64 (d : Int))) (first | go_keep) (first | fail)
      obtain ⟨w4, hw4⟩ : ∃ w4, w4 = (w3.alloc (.cells #[.int .i64 (a : Int), .int .i64 (b : Int), .int .i64 (d : Int), .string ⟨#[]⟩, .string ⟨#[]⟩] 23)).drew := ⟨_, rfl⟩
      have HM4 : Hid (Mod Non w w4) := by rw [hw4]; exact (HM3.out.alloc _).drew
      have hb4 : Blk w4 w.heap.size 23 #[.int .i64 0, .int .i64 0, .int .i64 0, .string ⟨#[]⟩, .string ⟨#[]⟩] := by rw [hw4]; exact (HB3.out.alloc _).drew
      have hx4 : Blk w4 w3.heap.size 23 #[.int .i64 (a : Int), .int .i64 (b : Int), .int .i64 (d : Int), .string ⟨#[]⟩, .string ⟨#[]⟩] := by rw [hw4]; exact (Blk.new w3 _ _).drew
      have HB4 := Lib.hid hb4
      rw [← hw4]
      clear hw4 k0 k1 k2
      have r0 : w4.cell? ⟨w.heap.size, 0, none⟩ = some (.int .i64 0) := hb4.cell 0
      have fr0 := hb4.frozen 0
      have r1 : w4.cell? ⟨w.heap.size, 1, none⟩ = some (.int .i64 0) := hb4.cell 1
      have fr1 := hb4.frozen 1
      have r2 : w4.cell? ⟨w.heap.size, 2, none⟩ = some (.int .i64 0) := hb4.cell 2
      have fr2 := hb4.frozen 2
      have r3 : w4.cell? ⟨w.heap.size, 3, none⟩ = some (.string ⟨#[]⟩) := hb4.cell 3
      have fr3 := hb4.frozen 3
      have r4 : w4.cell? ⟨w.heap.size, 4, none⟩ = some (.string ⟨#[]⟩) := hb4.cell 4
      have fr4 := hb4.frozen 4
      clear hb4 hx4
      go_wp2_with fail
      have HBZ := Lib.hid (((((HB4.out.set_ 0 (.int .i64 0)).set_ 1 (.int .i64 0)).set_ 2 (.int .i64 0)).set_ 3 (.string ⟨#[]⟩)).set_ 4 (.string ⟨#[]⟩))
      have HMZ := Lib.hid (((((HM4.out.setCell (p := ⟨w.heap.size, 0, none⟩) (.inr (by simp only; omega)) (.int .i64 0)).setCell (p := ⟨w.heap.size, 1, none⟩) (.inr (by simp only; omega)) (.int .i64 0)).setCell (p := ⟨w.heap.size, 2, none⟩) (.inr (by simp only; omega)) (.int .i64 0)).setCell (p := ⟨w.heap.size, 3, none⟩) (.inr (by simp only; omega)) (.string ⟨#[]⟩)).setCell (p := ⟨w.heap.size, 4, none⟩) (.inr (by simp only; omega)) (.string ⟨#[]⟩))
      refine bodyPost_ret (results_rowtmp rfl _ _ w.heap.size 23 _ _ rfl HBZ.out Tryz.underlying23 rfl (by kernel_rfl) (.int .i64 2) rfl) rfl ?_
      exact ⟨rfl, HMZ.out⟩
    | some p =>
      obtain ⟨nm, r1⟩ := p
      have HT1 := Lib.hid ht1
      have htl := takeText_len ht1
      simp only
      clear ht1
      obtain ⟨snm, hsnm⟩ : ∃ s : ByteArray, (⟨nm.toArray⟩ : ByteArray) = s := ⟨_, rfl⟩
      rw [hsnm]
      cases hs1 : takeText r1 1000 with
      | none =>
        simp only
        have HS1 := Lib.hid hs1
        clear hs1
        go_enter Tryz.func15, Tryz.ntmps15
        go_wp2_with fail
        rw [← HW0.out]
        refine HT.out.mono ?_
        rintro r w1 ⟨A1, c1, A2, n2, c2, rfl, hr1, ⟨hc1, hc1'⟩, hq2, hr2, ⟨hc2, hc2', hc2''⟩, hm1⟩
        have HM1 := Lib.hid (HM0.out.trans0 hm1)
        have HB1 := Lib.hid (HB0.out.mod hm1 fun h => h)
        have HR1 := Lib.hid hr1
        have ht2 := takeTextR_any A2 n2 c2 q 1000 w1 hr2 hc2 (by omega) hc2'
        unfold TtPost at ht2
        rw [HT1.out] at ht2
        simp only at ht2
        rw [hsnm] at ht2
        have HT2 := Lib.hid ht2
        clear hm1 hr1 hr2 ht2
        go_wp2_with fail
        refine HT2.out.mono ?_
        rintro r w2 ⟨A3, c3, rfl, hr3, -, hc3, hc3', hm2⟩
        have HM2 := Lib.hid (HM1.out.trans0 hm2)
        have HB2 := Lib.hid (HB1.out.mod hm2 fun h => h)
        have HR2 := Lib.hid (HR1.out.mod0 hm2)
        have ht3 := takeTextR_any A3 r1.length c3 r1 1000 w2 hr3 hc3 (by omega) hc3'
        unfold TtPost at ht3
        rw [HS1.out] at ht3
        simp only at ht3
        have HT3 := Lib.hid ht3
        clear hm2 ht3 hr3
        go_wp2_with fail
        refine HT3.out.mono ?_
        rintro r w3 ⟨rfl, hm3⟩
        have HM3 := Lib.hid (HM2.out.trans0 hm3)
        have HB3 := Lib.hid (HB2.out.mod hm3 fun h => h)
        have hr3 := HR2.out.mod0 hm3
        obtain ⟨B, O, rfl, k0, k1, k2⟩ := rd3 hr3
        have hB := World.block_lt_of_cell? w3 _ k0
        simp only at hB
        have hB' : B ≠ w3.heap.size := by omega
        clear hm3 hr3
        go_wp2_with fail
        go_region_held3 (fun w' => w'.cell? ⟨B, O, none⟩ = some (.int .i64 (a : Int)) ∧ w'.cell? ⟨B, O + 1, none⟩ = some (.int .i64 (b : Int)) ∧ w'.cell? ⟨B, O + 2, none⟩ = some (.int .i64 (d : Int))) (first | go_keep) (first | fail)
        obtain ⟨w4, hw4⟩ : ∃ w4, w4 = (w3.alloc (.cells #[.int .i64 (a : Int), .int .i64 (b : Int), .int .i64 (d : Int), .string snm, .string ⟨#[]⟩] 23)).drew := ⟨_, rfl⟩
        have HM4 : Hid (Mod Non w w4) := by rw [hw4]; exact (HM3.out.alloc _).drew
        have hb4 : Blk w4 w.heap.size 23 #[.int .i64 0, .int .i64 0, .int .i64 0, .string ⟨#[]⟩, .string ⟨#[]⟩] := by rw [hw4]; exact (HB3.out.alloc _).drew
        have hx4 : Blk w4 w3.heap.size 23 #[.int .i64 (a : Int), .int .i64 (b : Int), .int .i64 (d : Int), .string snm, .string ⟨#[]⟩] := by rw [hw4]; exact (Blk.new w3 _ _).drew
        have HB4 := Lib.hid hb4
        rw [← hw4]
        clear hw4 k0 k1 k2
        have r0 : w4.cell? ⟨w.heap.size, 0, none⟩ = some (.int .i64 0) := hb4.cell 0
        have fr0 := hb4.frozen 0
        have r1 : w4.cell? ⟨w.heap.size, 1, none⟩ = some (.int .i64 0) := hb4.cell 1
        have fr1 := hb4.frozen 1
        have r2 : w4.cell? ⟨w.heap.size, 2, none⟩ = some (.int .i64 0) := hb4.cell 2
        have fr2 := hb4.frozen 2
        have r3 : w4.cell? ⟨w.heap.size, 3, none⟩ = some (.string ⟨#[]⟩) := hb4.cell 3
        have fr3 := hb4.frozen 3
        have r4 : w4.cell? ⟨w.heap.size, 4, none⟩ = some (.string ⟨#[]⟩) := hb4.cell 4
        have fr4 := hb4.frozen 4
        clear hb4 hx4
        go_wp2_with fail
        have HBZ := Lib.hid (((((HB4.out.set_ 0 (.int .i64 0)).set_ 1 (.int .i64 0)).set_ 2 (.int .i64 0)).set_ 3 (.string ⟨#[]⟩)).set_ 4 (.string ⟨#[]⟩))
        have HMZ := Lib.hid (((((HM4.out.setCell (p := ⟨w.heap.size, 0, none⟩) (.inr (by simp only; omega)) (.int .i64 0)).setCell (p := ⟨w.heap.size, 1, none⟩) (.inr (by simp only; omega)) (.int .i64 0)).setCell (p := ⟨w.heap.size, 2, none⟩) (.inr (by simp only; omega)) (.int .i64 0)).setCell (p := ⟨w.heap.size, 3, none⟩) (.inr (by simp only; omega)) (.string ⟨#[]⟩)).setCell (p := ⟨w.heap.size, 4, none⟩) (.inr (by simp only; omega)) (.string ⟨#[]⟩))
        refine bodyPost_ret (results_rowtmp rfl _ _ w.heap.size 23 _ _ rfl HBZ.out Tryz.underlying23 rfl (by kernel_rfl) (.int .i64 2) rfl) rfl ?_
        exact ⟨rfl, HMZ.out⟩
      | some p =>
        obtain ⟨ky, r2⟩ := p
        have HS1 := Lib.hid hs1
        simp only
        clear hs1
        obtain ⟨sky, hsky⟩ : ∃ s : ByteArray, (⟨ky.toArray⟩ : ByteArray) = s := ⟨_, rfl⟩
        rw [hsky]
        by_cases hr0 : r2 = []
        · subst hr0
          obtain ⟨t, ht⟩ : ∃ t, treeR a b d snm sky = t := ⟨_, rfl⟩
          rw [ht]
          cases t with
          | false =>
            simp only [Bool.false_eq_true, and_false, if_false]
            have HTT := Lib.hid ht
            clear ht
            go_enter Tryz.func15, Tryz.ntmps15
            go_wp2_with fail
            rw [← HW0.out]
            refine HT.out.mono ?_
            rintro r w1 ⟨A1, c1, A2, n2, c2, rfl, hr1, ⟨hc1, hc1'⟩, hq2, hr2, ⟨hc2, hc2', hc2''⟩, hm1⟩
            have HM1 := Lib.hid (HM0.out.trans0 hm1)
            have HB1 := Lib.hid (HB0.out.mod hm1 fun h => h)
            have HR1 := Lib.hid hr1
            have ht2 := takeTextR_any A2 n2 c2 q 1000 w1 hr2 hc2 (by omega) hc2'
            unfold TtPost at ht2
            rw [HT1.out] at ht2
            simp only at ht2
            rw [hsnm] at ht2
            have HT2 := Lib.hid ht2
            clear hm1 hr1 hr2 ht2
            go_wp2_with fail
            refine HT2.out.mono ?_
            rintro r w2 ⟨A3, c3, rfl, hr3, -, hc3, hc3', hm2⟩
            have HM2 := Lib.hid (HM1.out.trans0 hm2)
            have HB2 := Lib.hid (HB1.out.mod hm2 fun h => h)
            have HR2 := Lib.hid (HR1.out.mod0 hm2)
            have ht3 := takeTextR_any A3 r1.length c3 r1 1000 w2 hr3 hc3 (by omega) hc3'
            unfold TtPost at ht3
            rw [HS1.out] at ht3
            simp only at ht3
            rw [hsky] at ht3
            have HT3 := Lib.hid ht3
            clear hm2 ht3 hr3
            go_wp2_with fail
            refine HT3.out.mono ?_
            rintro r w3 ⟨A5, c5, rfl, -, -, hc5, hc5', hm3⟩
            have HM3 := Lib.hid (HM2.out.trans0 hm3)
            have HB3 := Lib.hid (HB2.out.mod hm3 fun h => h)
            have hr3 := HR2.out.mod0 hm3
            obtain ⟨B, O, rfl, k0, k1, k2⟩ := rd3 hr3
            have hB := World.block_lt_of_cell? w3 _ k0
            simp only at hB
            have hB' : B ≠ w3.heap.size := by omega
            clear hm3 hr3
            go_wp2_with fail
            go_region_held3 (fun w' => w'.cell? ⟨B, O, none⟩ = some (.int .i64 (a : Int)) ∧ w'.cell? ⟨B, O + 1, none⟩ = some (.int .i64 (b : Int)) ∧ w'.cell? ⟨B, O + 2, none⟩ = some (.int .i64 (d : Int))) (first | go_keep) (first | fail)
            obtain ⟨w4, hw4⟩ : ∃ w4, w4 = (w3.alloc (.cells #[.int .i64 (a : Int), .int .i64 (b : Int), .int .i64 (d : Int), .string snm, .string sky] 23)).drew := ⟨_, rfl⟩
            have HM4 : Hid (Mod Non w w4) := by rw [hw4]; exact (HM3.out.alloc _).drew
            have hb4 : Blk w4 w.heap.size 23 #[.int .i64 0, .int .i64 0, .int .i64 0, .string ⟨#[]⟩, .string ⟨#[]⟩] := by rw [hw4]; exact (HB3.out.alloc _).drew
            have hx4 : Blk w4 w3.heap.size 23 #[.int .i64 (a : Int), .int .i64 (b : Int), .int .i64 (d : Int), .string snm, .string sky] := by rw [hw4]; exact (Blk.new w3 _ _).drew
            have HB4 := Lib.hid hb4
            rw [← hw4]
            clear hw4 k0 k1 k2
            have x0 : w4.cell? ⟨w3.heap.size, 0, none⟩ = some (.int .i64 (a : Int)) := hx4.cell 0
            have x1 : w4.cell? ⟨w3.heap.size, 1, none⟩ = some (.int .i64 (b : Int)) := hx4.cell 1
            have x2 : w4.cell? ⟨w3.heap.size, 2, none⟩ = some (.int .i64 (d : Int)) := hx4.cell 2
            have x3 : w4.cell? ⟨w3.heap.size, 3, none⟩ = some (.string snm) := hx4.cell 3
            have x4 : w4.cell? ⟨w3.heap.size, 4, none⟩ = some (.string sky) := hx4.cell 4
            have htr := rightTree_any a b d snm sky w4
            rw [HTT.out] at htr
            unfold tCells at htr
            have HTR := Lib.hid htr
            have HX4 := Lib.hid hx4
            clear hb4 hx4 htr
            go_wp2_with fail
            refine HTR.out.mono ?_
            rintro r w5 ⟨rfl, hm5⟩
            have HM5 := Lib.hid (HM4.out.trans0 hm5)
            have hb5 := HB4.out.mod hm5 fun h => h
            have hx5 := HX4.out.mod hm5 fun h => h
            have HB5 := Lib.hid hb5
            clear x0 x1 x2 x3 x4
            have r0 : w5.cell? ⟨w.heap.size, 0, none⟩ = some (.int .i64 0) := hb5.cell 0
            have fr0 := hb5.frozen 0
            have r1 : w5.cell? ⟨w.heap.size, 1, none⟩ = some (.int .i64 0) := hb5.cell 1
            have fr1 := hb5.frozen 1
            have r2 : w5.cell? ⟨w.heap.size, 2, none⟩ = some (.int .i64 0) := hb5.cell 2
            have fr2 := hb5.frozen 2
            have r3 : w5.cell? ⟨w.heap.size, 3, none⟩ = some (.string ⟨#[]⟩) := hb5.cell 3
            have fr3 := hb5.frozen 3
            have r4 : w5.cell? ⟨w.heap.size, 4, none⟩ = some (.string ⟨#[]⟩) := hb5.cell 4
            have fr4 := hb5.frozen 4
            clear hb5 hx5 hm5
            go_wp2_with fail
            have HBZ := Lib.hid (((((HB5.out.set_ 0 (.int .i64 0)).set_ 1 (.int .i64 0)).set_ 2 (.int .i64 0)).set_ 3 (.string ⟨#[]⟩)).set_ 4 (.string ⟨#[]⟩))
            have HMZ := Lib.hid (((((HM5.out.setCell (p := ⟨w.heap.size, 0, none⟩) (.inr (by simp only; omega)) (.int .i64 0)).setCell (p := ⟨w.heap.size, 1, none⟩) (.inr (by simp only; omega)) (.int .i64 0)).setCell (p := ⟨w.heap.size, 2, none⟩) (.inr (by simp only; omega)) (.int .i64 0)).setCell (p := ⟨w.heap.size, 3, none⟩) (.inr (by simp only; omega)) (.string ⟨#[]⟩)).setCell (p := ⟨w.heap.size, 4, none⟩) (.inr (by simp only; omega)) (.string ⟨#[]⟩))
            refine bodyPost_ret (results_rowtmp rfl _ _ w.heap.size 23 _ _ rfl HBZ.out Tryz.underlying23 rfl (by kernel_rfl) (.int .i64 2) rfl) rfl ?_
            exact ⟨rfl, HMZ.out⟩
          | true =>
            simp only [and_self, if_true]
            have HTT := Lib.hid ht
            clear ht
            go_enter Tryz.func15, Tryz.ntmps15
            go_wp2_with fail
            rw [← HW0.out]
            refine HT.out.mono ?_
            rintro r w1 ⟨A1, c1, A2, n2, c2, rfl, hr1, ⟨hc1, hc1'⟩, hq2, hr2, ⟨hc2, hc2', hc2''⟩, hm1⟩
            have HM1 := Lib.hid (HM0.out.trans0 hm1)
            have HB1 := Lib.hid (HB0.out.mod hm1 fun h => h)
            have HR1 := Lib.hid hr1
            have ht2 := takeTextR_any A2 n2 c2 q 1000 w1 hr2 hc2 (by omega) hc2'
            unfold TtPost at ht2
            rw [HT1.out] at ht2
            simp only at ht2
            rw [hsnm] at ht2
            have HT2 := Lib.hid ht2
            clear hm1 hr1 hr2 ht2
            go_wp2_with fail
            refine HT2.out.mono ?_
            rintro r w2 ⟨A3, c3, rfl, hr3, -, hc3, hc3', hm2⟩
            have HM2 := Lib.hid (HM1.out.trans0 hm2)
            have HB2 := Lib.hid (HB1.out.mod hm2 fun h => h)
            have HR2 := Lib.hid (HR1.out.mod0 hm2)
            have ht3 := takeTextR_any A3 r1.length c3 r1 1000 w2 hr3 hc3 (by omega) hc3'
            unfold TtPost at ht3
            rw [HS1.out] at ht3
            simp only at ht3
            rw [hsky] at ht3
            have HT3 := Lib.hid ht3
            clear hm2 ht3 hr3
            go_wp2_with fail
            refine HT3.out.mono ?_
            rintro r w3 ⟨A5, c5, rfl, -, -, hc5, hc5', hm3⟩
            have HM3 := Lib.hid (HM2.out.trans0 hm3)
            have HB3 := Lib.hid (HB2.out.mod hm3 fun h => h)
            have hr3 := HR2.out.mod0 hm3
            obtain ⟨B, O, rfl, k0, k1, k2⟩ := rd3 hr3
            have hB := World.block_lt_of_cell? w3 _ k0
            simp only at hB
            have hB' : B ≠ w3.heap.size := by omega
            clear hm3 hr3
            go_wp2_with fail
            go_region_held3 (fun w' => w'.cell? ⟨B, O, none⟩ = some (.int .i64 (a : Int)) ∧ w'.cell? ⟨B, O + 1, none⟩ = some (.int .i64 (b : Int)) ∧ w'.cell? ⟨B, O + 2, none⟩ = some (.int .i64 (d : Int))) (first | go_keep) (first | fail)
            obtain ⟨w4, hw4⟩ : ∃ w4, w4 = (w3.alloc (.cells #[.int .i64 (a : Int), .int .i64 (b : Int), .int .i64 (d : Int), .string snm, .string sky] 23)).drew := ⟨_, rfl⟩
            have HM4 : Hid (Mod Non w w4) := by rw [hw4]; exact (HM3.out.alloc _).drew
            have hb4 : Blk w4 w.heap.size 23 #[.int .i64 0, .int .i64 0, .int .i64 0, .string ⟨#[]⟩, .string ⟨#[]⟩] := by rw [hw4]; exact (HB3.out.alloc _).drew
            have hx4 : Blk w4 w3.heap.size 23 #[.int .i64 (a : Int), .int .i64 (b : Int), .int .i64 (d : Int), .string snm, .string sky] := by rw [hw4]; exact (Blk.new w3 _ _).drew
            have HB4 := Lib.hid hb4
            rw [← hw4]
            clear hw4 k0 k1 k2
            have x0 : w4.cell? ⟨w3.heap.size, 0, none⟩ = some (.int .i64 (a : Int)) := hx4.cell 0
            have x1 : w4.cell? ⟨w3.heap.size, 1, none⟩ = some (.int .i64 (b : Int)) := hx4.cell 1
            have x2 : w4.cell? ⟨w3.heap.size, 2, none⟩ = some (.int .i64 (d : Int)) := hx4.cell 2
            have x3 : w4.cell? ⟨w3.heap.size, 3, none⟩ = some (.string snm) := hx4.cell 3
            have x4 : w4.cell? ⟨w3.heap.size, 4, none⟩ = some (.string sky) := hx4.cell 4
            have htr := rightTree_any a b d snm sky w4
            rw [HTT.out] at htr
            unfold tCells at htr
            have HTR := Lib.hid htr
            have HX4 := Lib.hid hx4
            clear hb4 hx4 htr
            go_wp2_with fail
            refine HTR.out.mono ?_
            rintro r w5 ⟨rfl, hm5⟩
            have HM5 := Lib.hid (HM4.out.trans0 hm5)
            have hb5 := HB4.out.mod hm5 fun h => h
            have hx5 := HX4.out.mod hm5 fun h => h
            have HB5 := Lib.hid hb5
            clear x0 x1 x2 x3 x4
            have r0 : w5.cell? ⟨w.heap.size, 0, none⟩ = some (.int .i64 0) := hb5.cell 0
            have fr0 := hb5.frozen 0
            have r1 : w5.cell? ⟨w.heap.size, 1, none⟩ = some (.int .i64 0) := hb5.cell 1
            have fr1 := hb5.frozen 1
            have r2 : w5.cell? ⟨w.heap.size, 2, none⟩ = some (.int .i64 0) := hb5.cell 2
            have fr2 := hb5.frozen 2
            have r3 : w5.cell? ⟨w.heap.size, 3, none⟩ = some (.string ⟨#[]⟩) := hb5.cell 3
            have fr3 := hb5.frozen 3
            have r4 : w5.cell? ⟨w.heap.size, 4, none⟩ = some (.string ⟨#[]⟩) := hb5.cell 4
            have fr4 := hb5.frozen 4
            have x0 : w5.cell? ⟨w3.heap.size, 0, none⟩ = some (.int .i64 (a : Int)) := hx5.cell 0
            have x1 : w5.cell? ⟨w3.heap.size, 1, none⟩ = some (.int .i64 (b : Int)) := hx5.cell 1
            have x2 : w5.cell? ⟨w3.heap.size, 2, none⟩ = some (.int .i64 (d : Int)) := hx5.cell 2
            have x3 : w5.cell? ⟨w3.heap.size, 3, none⟩ = some (.string snm) := hx5.cell 3
            have x4 : w5.cell? ⟨w3.heap.size, 4, none⟩ = some (.string sky) := hx5.cell 4
            clear hb5 hx5 hm5
            go_wp2_with fail
            simp only [List.getD_cons_zero, List.getD_cons_succ, hsnm, hsky]
            have HBZ := Lib.hid (((((HB5.out.set_ 0 (.int .i64 (a : Int))).set_ 1 (.int .i64 (b : Int))).set_ 2 (.int .i64 (d : Int))).set_ 3 (.string snm)).set_ 4 (.string sky))
            have HMZ := Lib.hid (((((HM5.out.setCell (p := ⟨w.heap.size, 0, none⟩) (.inr (by simp only; omega)) (.int .i64 (a : Int))).setCell (p := ⟨w.heap.size, 1, none⟩) (.inr (by simp only; omega)) (.int .i64 (b : Int))).setCell (p := ⟨w.heap.size, 2, none⟩) (.inr (by simp only; omega)) (.int .i64 (d : Int))).setCell (p := ⟨w.heap.size, 3, none⟩) (.inr (by simp only; omega)) (.string snm)).setCell (p := ⟨w.heap.size, 4, none⟩) (.inr (by simp only; omega)) (.string sky))
            refine bodyPost_ret (results_rowtmp rfl _ _ w.heap.size 23 _ _ rfl HBZ.out Tryz.underlying23 rfl (by kernel_rfl) (.int .i64 0) rfl) rfl ?_
            exact ⟨rfl, HMZ.out⟩
        · have hrl : (r2.length : Int) ≠ 0 := by
            have : 0 < r2.length := List.length_pos_iff.2 hr0
            omega
          have hrl0 : decide ((0 : Int) < (r2.length : Int)) = true := decide_eq_true (by omega)
          simp only [hr0, false_and, if_false]
          obtain ⟨n5, hn5⟩ : ∃ n5, r2.length = n5 := ⟨_, rfl⟩
          rw [hn5] at hrl hrl0
          go_enter Tryz.func15, Tryz.ntmps15
          go_wp2_with fail
          rw [← HW0.out]
          refine HT.out.mono ?_
          rintro r w1 ⟨A1, c1, A2, n2, c2, rfl, hr1, ⟨hc1, hc1'⟩, hq2, hr2, ⟨hc2, hc2', hc2''⟩, hm1⟩
          have HM1 := Lib.hid (HM0.out.trans0 hm1)
          have HB1 := Lib.hid (HB0.out.mod hm1 fun h => h)
          have HR1 := Lib.hid hr1
          have ht2 := takeTextR_any A2 n2 c2 q 1000 w1 hr2 hc2 (by omega) hc2'
          unfold TtPost at ht2
          rw [HT1.out] at ht2
          simp only at ht2
          rw [hsnm] at ht2
          have HT2 := Lib.hid ht2
          clear hm1 hr1 hr2 ht2
          go_wp2_with fail
          refine HT2.out.mono ?_
          rintro r w2 ⟨A3, c3, rfl, hr3, -, hc3, hc3', hm2⟩
          have HM2 := Lib.hid (HM1.out.trans0 hm2)
          have HB2 := Lib.hid (HB1.out.mod hm2 fun h => h)
          have HR2 := Lib.hid (HR1.out.mod0 hm2)
          have ht3 := takeTextR_any A3 r1.length c3 r1 1000 w2 hr3 hc3 (by omega) hc3'
          unfold TtPost at ht3
          rw [HS1.out] at ht3
          simp only at ht3
          rw [hsky, hn5] at ht3
          have HT3 := Lib.hid ht3
          clear hm2 ht3 hr3
          go_wp2_with fail
          refine HT3.out.mono ?_
          rintro r w3 ⟨A5, c5, rfl, -, -, hc5, hc5', hm3⟩
          have HM3 := Lib.hid (HM2.out.trans0 hm3)
          have HB3 := Lib.hid (HB2.out.mod hm3 fun h => h)
          have hr3 := HR2.out.mod0 hm3
          obtain ⟨B, O, rfl, k0, k1, k2⟩ := rd3 hr3
          have hB := World.block_lt_of_cell? w3 _ k0
          simp only at hB
          have hB' : B ≠ w3.heap.size := by omega
          clear hm3 hr3
          go_wp2_with fail
          go_region_held3 (fun w' => w'.cell? ⟨B, O, none⟩ = some (.int .i64 (a : Int)) ∧ w'.cell? ⟨B, O + 1, none⟩ = some (.int .i64 (b : Int)) ∧ w'.cell? ⟨B, O + 2, none⟩ = some (.int .i64 (d : Int))) (first | go_keep) (first | fail)
          obtain ⟨w4, hw4⟩ : ∃ w4, w4 = (w3.alloc (.cells #[.int .i64 (a : Int), .int .i64 (b : Int), .int .i64 (d : Int), .string snm, .string sky] 23)).drew := ⟨_, rfl⟩
          have HM4 : Hid (Mod Non w w4) := by rw [hw4]; exact (HM3.out.alloc _).drew
          have hb4 : Blk w4 w.heap.size 23 #[.int .i64 0, .int .i64 0, .int .i64 0, .string ⟨#[]⟩, .string ⟨#[]⟩] := by rw [hw4]; exact (HB3.out.alloc _).drew
          have hx4 : Blk w4 w3.heap.size 23 #[.int .i64 (a : Int), .int .i64 (b : Int), .int .i64 (d : Int), .string snm, .string sky] := by rw [hw4]; exact (Blk.new w3 _ _).drew
          have HB4 := Lib.hid hb4
          rw [← hw4]
          clear hw4 k0 k1 k2
          have r0 : w4.cell? ⟨w.heap.size, 0, none⟩ = some (.int .i64 0) := hb4.cell 0
          have fr0 := hb4.frozen 0
          have r1 : w4.cell? ⟨w.heap.size, 1, none⟩ = some (.int .i64 0) := hb4.cell 1
          have fr1 := hb4.frozen 1
          have r2 : w4.cell? ⟨w.heap.size, 2, none⟩ = some (.int .i64 0) := hb4.cell 2
          have fr2 := hb4.frozen 2
          have r3 : w4.cell? ⟨w.heap.size, 3, none⟩ = some (.string ⟨#[]⟩) := hb4.cell 3
          have fr3 := hb4.frozen 3
          have r4 : w4.cell? ⟨w.heap.size, 4, none⟩ = some (.string ⟨#[]⟩) := hb4.cell 4
          have fr4 := hb4.frozen 4
          clear hb4 hx4
          go_wp2_with fail
          have HBZ := Lib.hid (((((HB4.out.set_ 0 (.int .i64 0)).set_ 1 (.int .i64 0)).set_ 2 (.int .i64 0)).set_ 3 (.string ⟨#[]⟩)).set_ 4 (.string ⟨#[]⟩))
          have HMZ := Lib.hid (((((HM4.out.setCell (p := ⟨w.heap.size, 0, none⟩) (.inr (by simp only; omega)) (.int .i64 0)).setCell (p := ⟨w.heap.size, 1, none⟩) (.inr (by simp only; omega)) (.int .i64 0)).setCell (p := ⟨w.heap.size, 2, none⟩) (.inr (by simp only; omega)) (.int .i64 0)).setCell (p := ⟨w.heap.size, 3, none⟩) (.inr (by simp only; omega)) (.string ⟨#[]⟩)).setCell (p := ⟨w.heap.size, 4, none⟩) (.inr (by simp only; omega)) (.string ⟨#[]⟩))
          refine bodyPost_ret (results_rowtmp rfl _ _ w.heap.size 23 _ _ rfl HBZ.out Tryz.underlying23 rfl (by kernel_rfl) (.int .i64 2) rfl) rfl ?_
          exact ⟨rfl, HMZ.out⟩

end Go.Proofs.YtgnpmmhpeianpaaGreatDoor
