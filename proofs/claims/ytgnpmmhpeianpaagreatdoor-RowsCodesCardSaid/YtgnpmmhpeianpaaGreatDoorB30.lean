/- rows: DecodeTree. -/
import Derived.Test.YtgnpmmhpeianpaaGreatDoorB17
import Derived.Test.YtgnpmmhpeianpaaGreatDoorB24
import Derived.Test.YtgnpmmhpeianpaaGreatDoorB18
import Derived.Deep.RegionHeld3
namespace Go.Proofs.YtgnpmmhpeianpaaGreatDoor
open Go.RowKit

/-- the tree of bytes: its three numbers, its two texts. -/
def decT (l : List UInt8) : Option (List Nat × List UInt8 × List UInt8) := match takeN 3 l with
  | none => none
  | some (ms, q) => match takeText q 1000 with
    | none => none
    | some (nm, r1) => match takeText r1 1000 with
      | none => none
      | some (ky, r2) => if r2 = [] ∧ treeR (ms.getD 0 0) (ms.getD 1 0) (ms.getD 2 0) ⟨nm.toArray⟩ ⟨ky.toArray⟩ = true then some (ms, nm, ky) else none
def DtPost (l : List UInt8) (w : World) (e : Ending) (w' : World) : Prop := match decT l with
  | none => e = .returned (.tuple #[.agg (tCells 0 0 0 ⟨#[]⟩ ⟨#[]⟩), .int .i64 2]) ∧ Mod Non w w'
  | some (ms, nm, ky) => e = .returned (.tuple #[.agg (tCells (ms.getD 0 0) (ms.getD 1 0) (ms.getD 2 0) ⟨nm.toArray⟩ ⟨ky.toArray⟩), .int .i64 0]) ∧ Mod Non w w'
theorem takeN_len {n : Nat} {l q : List UInt8} {ms : List Nat} (h : takeN n l = some (ms, q)) : ms.length = n := by
  induction n generalizing l ms with
  | zero => cases h; rfl
  | succ n ih =>
    rw [takeN] at h
    cases h1 : takeNum l with
    | none => rw [h1] at h; cases h
    | some p =>
      obtain ⟨m, r⟩ := p
      rw [h1] at h
      simp only at h
      cases h2 : takeN n r with
      | none => rw [h2] at h; cases h
      | some p2 =>
        obtain ⟨ms2, q2⟩ := p2
        rw [h2] at h
        cases h
        simp [ih h2]
theorem takeN_rest {n : Nat} {l q : List UInt8} {ms : List Nat} (h : takeN n l = some (ms, q)) : q.length ≤ l.length := by
  induction n generalizing l ms with
  | zero => cases h; exact Nat.le_refl _
  | succ n ih =>
    rw [takeN] at h
    cases h1 : takeNum l with
    | none => rw [h1] at h; cases h
    | some p =>
      obtain ⟨m, r⟩ := p
      rw [h1] at h
      simp only at h
      have h3 := (takeNum_spec h1).1
      cases h2 : takeN n r with
      | none => rw [h2] at h; cases h
      | some p2 =>
        obtain ⟨ms2, q2⟩ := p2
        rw [h2] at h
        cases h
        have := ih h2
        omega
theorem rd3 {w : World} {A : Option Addr} {a b d : Nat} (h : Rd w A 3 (i64s [a, b, d])) : ∃ B O, A = some ⟨B, O, none⟩ ∧ w.cell? ⟨B, O, none⟩ = some (.int .i64 (a : Int)) ∧ w.cell? ⟨B, O + 1, none⟩ = some (.int .i64 (b : Int)) ∧ w.cell? ⟨B, O + 2, none⟩ = some (.int .i64 (d : Int)) := by
  obtain ⟨B, O, rfl, u, hu, hc⟩ := h.at_ (k := 0) (by omega)
  obtain ⟨_, _, e1, u1, hu1, hc1⟩ := h.at_ (k := 1) (by omega)
  obtain ⟨_, _, e2, u2, hu2, hc2⟩ := h.at_ (k := 2) (by omega)
  cases e1
  cases e2
  cases hu
  cases hu1
  cases hu2
  exact ⟨B, O, rfl, hc, hc1, hc2⟩
theorem takeText_nil (most : Int) : takeText [] most = none := by rfl

set_option maxRecDepth 100000 in
set_option maxHeartbeats 4000000 in
theorem decTree_any (A : Option Addr) (n c : Nat) (l : List UInt8) (w : World) (h : Rd w A n (by8 l)) (hnc : n ≤ c) (hn : n ≤ 140737488351232) (hcm : c ≤ 9223372036854775807) :
    Calls Tryz.prog 14 #[.slice A n c] w (DtPost l w) := by
  obtain ⟨w0, hw0⟩ : ∃ w0, w0 = w.alloc (.cells #[.int .i64 0, .int .i64 0, .int .i64 0, .string ⟨#[]⟩, .string ⟨#[]⟩] 32) := ⟨_, rfl⟩
  have hb0 : Blk w0 w.heap.size 32 #[.int .i64 0, .int .i64 0, .int .i64 0, .string ⟨#[]⟩, .string ⟨#[]⟩] := by rw [hw0]; exact Blk.new _ _ _
  have hm0 : Mod Non w w0 := by rw [hw0]; exact (Mod.refl Non w).alloc _
  have HM0 := Lib.hid hm0
  have HB0 := Lib.hid hb0
  have HW0 := Lib.hid hw0
  have ht := takeW_any A n c l 3 w0 (h.mod0 hm0) hnc (by omega) hcm (by omega)
  unfold TkPost at ht
  unfold DtPost decT
  clear hb0 hm0 hw0
  cases htn : takeN 3 l with
  | none =>
    rw [htn] at ht
    have HT := Lib.hid ht
    clear ht htn
    unfold tCells
    simp only
    go_enter Tryz.func14, Tryz.ntmps14
    go_wp2_with fail
    rw [← HW0.out]
    refine HT.out.mono ?_
    rintro r w1 ⟨rfl, hm1⟩
    have HM1 := Lib.hid (HM0.out.trans0 hm1)
    have hb1 := HB0.out.mod hm1 fun h => h
    have HB1 := Lib.hid hb1
    have r0 : w1.cell? ⟨w.heap.size, 0, none⟩ = some (.int .i64 0) := hb1.cell 0
    have fr0 := hb1.frozen 0
    have r1 : w1.cell? ⟨w.heap.size, 1, none⟩ = some (.int .i64 0) := hb1.cell 1
    have fr1 := hb1.frozen 1
    have r2 : w1.cell? ⟨w.heap.size, 2, none⟩ = some (.int .i64 0) := hb1.cell 2
    have fr2 := hb1.frozen 2
    have r3 : w1.cell? ⟨w.heap.size, 3, none⟩ = some (.string ⟨#[]⟩) := hb1.cell 3
    have fr3 := hb1.frozen 3
    have r4 : w1.cell? ⟨w.heap.size, 4, none⟩ = some (.string ⟨#[]⟩) := hb1.cell 4
    have fr4 := hb1.frozen 4
    clear hm1 hb1
    go_wp2_with fail
    have HB4 := Lib.hid (((((HB1.out.set_ 0 (.int .i64 0)).set_ 1 (.int .i64 0)).set_ 2 (.int .i64 0)).set_ 3 (.string ⟨#[]⟩)).set_ 4 (.string ⟨#[]⟩))
    have HM4 := Lib.hid (((((HM1.out.setCell (p := ⟨w.heap.size, 0, none⟩) (.inr (by simp only; omega)) (.int .i64 0)).setCell (p := ⟨w.heap.size, 1, none⟩) (.inr (by simp only; omega)) (.int .i64 0)).setCell (p := ⟨w.heap.size, 2, none⟩) (.inr (by simp only; omega)) (.int .i64 0)).setCell (p := ⟨w.heap.size, 3, none⟩) (.inr (by simp only; omega)) (.string ⟨#[]⟩)).setCell (p := ⟨w.heap.size, 4, none⟩) (.inr (by simp only; omega)) (.string ⟨#[]⟩))
    refine bodyPost_ret (results_rowtmp rfl _ _ w.heap.size 32 _ _ rfl HB4.out Tryz.underlying32 rfl (by kernel_rfl) (.int .i64 2) rfl) rfl ?_
    exact ⟨rfl, HM4.out⟩
  | some p =>
    obtain ⟨ms, q⟩ := p
    rw [htn] at ht
    have hml := takeN_len htn
    have hql := takeN_rest htn
    have hll : l.length = n := by simpa using h.1
    obtain ⟨a, b, d, rfl⟩ : ∃ a b d, ms = [a, b, d] := by
      match ms, hml with
      | [a, b, d], _ => exact ⟨a, b, d, rfl⟩
    have HT := Lib.hid ht
    clear ht htn hml
    simp only [List.getD_cons_zero, List.getD_cons_succ]
    unfold tCells
    cases ht1 : takeText q 1000 with
    | none =>
      simp only
      have HT1 := Lib.hid ht1
      clear ht1
      go_enter Tryz.func14, Tryz.ntmps14
      go_wp2_with fail
      rw [← HW0.out]
      refine HT.out.mono ?_
      rintro r w1 ⟨A1, c1, A2, n2, c2, rfl, hr1, ⟨hc1, hc1'⟩, hq2, hr2, ⟨hc2, hc2', hc2''⟩, hm1⟩
      have HM1 := Lib.hid (HM0.out.trans0 hm1)
      have HB1 := Lib.hid (HB0.out.mod hm1 fun h => h)
      have HR1 := Lib.hid hr1
      have ht2 := takeText_any A2 n2 c2 q 1000 w1 hr2 hc2 (by omega) hc2'
      unfold TtPost at ht2
      rw [HT1.out] at ht2
      have HT2 := Lib.hid ht2
      clear hm1 hr1 hr2 ht2
      go_wp2_with fail
      refine HT2.out.mono ?_
      rintro r w2 ⟨rfl, hm2⟩
      have HM2 := Lib.hid (HM1.out.trans0 hm2)
      have HB2 := Lib.hid (HB1.out.mod hm2 fun h => h)
      have HR2 := Lib.hid (HR1.out.mod0 hm2)
      have ht3 := takeText_any none 0 0 [] 1000 w2 (Rd.nil _ _) (by omega) (by omega) (by omega)
      unfold TtPost at ht3
      rw [takeText_nil] at ht3
      have HT3 := Lib.hid ht3
      clear hm2 ht3
      go_wp2_with fail
      refine HT3.out.mono ?_
      rintro r w3 ⟨rfl, hm3⟩
      have HM3 := Lib.hid (HM2.out.trans0 hm3)
      have HB3 := Lib.hid (HB2.out.mod hm3 fun h => h)
      have hr3 := HR2.out.mod0 hm3
      obtain ⟨B, O, rfl, k0, k1, k2⟩ := rd3 hr3
      have hB := World.block_lt_of_cell? w3 _ k0
      simp only at hB
      have hB' : B ≠ w3.heap.size := by omega
      clear hm3 hr3
      go_wp2_with fail
      go_region_held3 (fun w' => w'.cell? ⟨B, O, none⟩ = some (.int .i64 (a : Int)) ∧ w'.cell? ⟨B, O + 1, none⟩ = some (.int .i64 (b : Int)) ∧ w'.cell? ⟨B, O + 2, none⟩ = some (.int .i64 (d : Int))) (first | go_keep) (first | fail)
      obtain ⟨w4, hw4⟩ : ∃ w4, w4 = (w3.alloc (.cells #[.int .i64 (a : Int), .int .i64 (b : Int), .int .i64 (d : Int), .string ⟨#[]⟩, .string ⟨#[]⟩] 32)).drew := ⟨_, rfl⟩
      have HM4 : Hid (Mod Non w w4) := by rw [hw4]; exact (HM3.out.alloc _).drew
      have hb4 : Blk w4 w.heap.size 32 #[.int .i64 0, .int .i64 0, .int .i64 0, .string ⟨#[]⟩, .string ⟨#[]⟩] := by rw [hw4]; exact (HB3.out.alloc _).drew
      have hx4 : Blk w4 w3.heap.size 32 #[.int .i64 (a : Int), .int .i64 (b : Int), .int .i64 (d : Int), .string ⟨#[]⟩, .string ⟨#[]⟩] := by rw [hw4]; exact (Blk.new w3 _ _).drew
      have HB4 := Lib.hid hb4
      rw [← hw4]
      clear hw4 k0 k1 k2
      have r0 : w4.cell? ⟨w.heap.size, 0, none⟩ = some (.int .i64 0) := hb4.cell 0
      have fr0 := hb4.frozen 0
      have r1 : w4.cell? ⟨w.heap.size, 1, none⟩ = some (.int .i64 0) := hb4.cell 1
      have fr1 := hb4.frozen 1
      have r2 : w4.cell? ⟨w.heap.size, 2, none⟩ = some (.int .i64 0) := hb4.cell 2
      have fr2 := hb4.frozen 2
      have r3 : w4.cell? ⟨w.heap.size, 3, none⟩ = some (.string ⟨#[]⟩) := hb4.cell 3
      have fr3 := hb4.frozen 3
      have r4 : w4.cell? ⟨w.heap.size, 4, none⟩ = some (.string ⟨#[]⟩) := hb4.cell 4
      have fr4 := hb4.frozen 4
      clear hb4 hx4
      go_wp2_with fail
      have HBZ := Lib.hid (((((HB4.out.set_ 0 (.int .i64 0)).set_ 1 (.int .i64 0)).set_ 2 (.int .i64 0)).set_ 3 (.string ⟨#[]⟩)).set_ 4 (.string ⟨#[]⟩))
      have HMZ := Lib.hid (((((HM4.out.setCell (p := ⟨w.heap.size, 0, none⟩) (.inr (by simp only; omega)) (.int .i64 0)).setCell (p := ⟨w.heap.size, 1, none⟩) (.inr (by simp only; omega)) (.int .i64 0)).setCell (p := ⟨w.heap.size, 2, none⟩) (.inr (by simp only; omega)) (.int .i64 0)).setCell (p := ⟨w.heap.size, 3, none⟩) (.inr (by simp only; omega)) (.string ⟨#[]⟩)).setCell (p := ⟨w.heap.size, 4, none⟩) (.inr (by simp only; omega)) (.string ⟨#[]⟩))
      refine bodyPost_ret (results_rowtmp rfl _ _ w.heap.size 32 _ _ rfl HBZ.out Tryz.underlying32 rfl (by kernel_rfl) (.int .i64 2) rfl) rfl ?_
      exact ⟨rfl, HMZ.out⟩
    | some p =>
      obtain ⟨nm, r1⟩ := p
      have HT1 := Lib.hid ht1
      have htl := takeText_len ht1
      simp only
      clear ht1
      obtain ⟨snm, hsnm⟩ : ∃ s : ByteArray, (⟨nm.toArray⟩ : ByteArray) = s := ⟨_, rfl⟩
      rw [hsnm]
      cases hs1 : takeText r1 1000 with
      | none =>
        simp only
        have HS1 := Lib.hid hs1
        clear hs1
        go_enter Tryz.func14, Tryz.ntmps14
        go_wp2_with fail
        rw [← HW0.out]
        refine HT.out.mono ?_
        rintro r w1 ⟨A1, c1, A2, n2, c2, rfl, hr1, ⟨hc1, hc1'⟩, hq2, hr2, ⟨hc2, hc2', hc2''⟩, hm1⟩
        have HM1 := Lib.hid (HM0.out.trans0 hm1)
        have HB1 := Lib.hid (HB0.out.mod hm1 fun h => h)
        have HR1 := Lib.hid hr1
        have ht2 := takeText_any A2 n2 c2 q 1000 w1 hr2 hc2 (by omega) hc2'
        unfold TtPost at ht2
        rw [HT1.out] at ht2
        simp only at ht2
        rw [hsnm] at ht2
        have HT2 := Lib.hid ht2
        clear hm1 hr1 hr2 ht2
        go_wp2_with fail
        refine HT2.out.mono ?_
        rintro r w2 ⟨A3, c3, rfl, hr3, -, hc3, hc3', hm2⟩
        have HM2 := Lib.hid (HM1.out.trans0 hm2)
        have HB2 := Lib.hid (HB1.out.mod hm2 fun h => h)
        have HR2 := Lib.hid (HR1.out.mod0 hm2)
        have ht3 := takeText_any A3 r1.length c3 r1 1000 w2 hr3 hc3 (by omega) hc3'
        unfold TtPost at ht3
        rw [HS1.out] at ht3
        simp only at ht3
        have HT3 := Lib.hid ht3
        clear hm2 ht3 hr3
        go_wp2_with fail
        refine HT3.out.mono ?_
        rintro r w3 ⟨rfl, hm3⟩
        have HM3 := Lib.hid (HM2.out.trans0 hm3)
        have HB3 := Lib.hid (HB2.out.mod hm3 fun h => h)
        have hr3 := HR2.out.mod0 hm3
        obtain ⟨B, O, rfl, k0, k1, k2⟩ := rd3 hr3
        have hB := World.block_lt_of_cell? w3 _ k0
        simp only at hB
        have hB' : B ≠ w3.heap.size := by omega
        clear hm3 hr3
        go_wp2_with fail
        go_region_held3 (fun w' => w'.cell? ⟨B, O, none⟩ = some (.int .i64 (a : Int)) ∧ w'.cell? ⟨B, O + 1, none⟩ = some (.int .i64 (b : Int)) ∧ w'.cell? ⟨B, O + 2, none⟩ = some (.int .i64 (d : Int))) (first | go_keep) (first | fail)
        obtain ⟨w4, hw4⟩ : ∃ w4, w4 = (w3.alloc (.cells #[.int .i64 (a : Int), .int .i64 (b : Int), .int .i64 (d : Int), .string snm, .string ⟨#[]⟩] 32)).drew := ⟨_, rfl⟩
        have HM4 : Hid (Mod Non w w4) := by rw [hw4]; exact (HM3.out.alloc _).drew
        have hb4 : Blk w4 w.heap.size 32 #[.int .i64 0, .int .i64 0, .int .i64 0, .string ⟨#[]⟩, .string ⟨#[]⟩] := by rw [hw4]; exact (HB3.out.alloc _).drew
        have hx4 : Blk w4 w3.heap.size 32 #[.int .i64 (a : Int), .int .i64 (b : Int), .int .i64 (d : Int), .string snm, .string ⟨#[]⟩] := by rw [hw4]; exact (Blk.new w3 _ _).drew
        have HB4 := Lib.hid hb4
        rw [← hw4]
        clear hw4 k0 k1 k2
        have r0 : w4.cell? ⟨w.heap.size, 0, none⟩ = some (.int .i64 0) := hb4.cell 0
        have fr0 := hb4.frozen 0
        have r1 : w4.cell? ⟨w.heap.size, 1, none⟩ = some (.int .i64 0) := hb4.cell 1
        have fr1 := hb4.frozen 1
        have r2 : w4.cell? ⟨w.heap.size, 2, none⟩ = some (.int .i64 0) := hb4.cell 2
        have fr2 := hb4.frozen 2
        have r3 : w4.cell? ⟨w.heap.size, 3, none⟩ = some (.string ⟨#[]⟩) := hb4.cell 3
        have fr3 := hb4.frozen 3
        have r4 : w4.cell? ⟨w.heap.size, 4, none⟩ = some (.string ⟨#[]⟩) := hb4.cell 4
        have fr4 := hb4.frozen 4
        clear hb4 hx4
        go_wp2_with fail
        have HBZ := Lib.hid (((((HB4.out.set_ 0 (.int .i64 0)).set_ 1 (.int .i64 0)).set_ 2 (.int .i64 0)).set_ 3 (.string ⟨#[]⟩)).set_ 4 (.string ⟨#[]⟩))
        have HMZ := Lib.hid (((((HM4.out.setCell (p := ⟨w.heap.size, 0, none⟩) (.inr (by simp only; omega)) (.int .i64 0)).setCell (p := ⟨w.heap.size, 1, none⟩) (.inr (by simp only; omega)) (.int .i64 0)).setCell (p := ⟨w.heap.size, 2, none⟩) (.inr (by simp only; omega)) (.int .i64 0)).setCell (p := ⟨w.heap.size, 3, none⟩) (.inr (by simp only; omega)) (.string ⟨#[]⟩)).setCell (p := ⟨w.heap.size, 4, none⟩) (.inr (by simp only; omega)) (.string ⟨#[]⟩))
        refine bodyPost_ret (results_rowtmp rfl _ _ w.heap.size 32 _ _ rfl HBZ.out Tryz.underlying32 rfl (by kernel_rfl) (.int .i64 2) rfl) rfl ?_
        exact ⟨rfl, HMZ.out⟩
      | some p =>
        obtain ⟨ky, r2⟩ := p
        have HS1 := Lib.hid hs1
        simp only
        clear hs1
        obtain ⟨sky, hsky⟩ : ∃ s : ByteArray, (⟨ky.toArray⟩ : ByteArray) = s := ⟨_, rfl⟩
        rw [hsky]
        by_cases hr0 : r2 = []
        · subst hr0
          obtain ⟨t, ht⟩ : ∃ t, treeR a b d snm sky = t := ⟨_, rfl⟩
          rw [ht]
          cases t with
          | false =>
            simp only [Bool.false_eq_true, and_false, if_false]
            have HTT := Lib.hid ht
            clear ht
            go_enter Tryz.func14, Tryz.ntmps14
            go_wp2_with fail
            rw [← HW0.out]
            refine HT.out.mono ?_
            rintro r w1 ⟨A1, c1, A2, n2, c2, rfl, hr1, ⟨hc1, hc1'⟩, hq2, hr2, ⟨hc2, hc2', hc2''⟩, hm1⟩
            have HM1 := Lib.hid (HM0.out.trans0 hm1)
            have HB1 := Lib.hid (HB0.out.mod hm1 fun h => h)
            have HR1 := Lib.hid hr1
            have ht2 := takeText_any A2 n2 c2 q 1000 w1 hr2 hc2 (by omega) hc2'
            unfold TtPost at ht2
            rw [HT1.out] at ht2
            simp only at ht2
            rw [hsnm] at ht2
            have HT2 := Lib.hid ht2
            clear hm1 hr1 hr2 ht2
            go_wp2_with fail
            refine HT2.out.mono ?_
            rintro r w2 ⟨A3, c3, rfl, hr3, -, hc3, hc3', hm2⟩
            have HM2 := Lib.hid (HM1.out.trans0 hm2)
            have HB2 := Lib.hid (HB1.out.mod hm2 fun h => h)
            have HR2 := Lib.hid (HR1.out.mod0 hm2)
            have ht3 := takeText_any A3 r1.length c3 r1 1000 w2 hr3 hc3 (by omega) hc3'
            unfold TtPost at ht3
            rw [HS1.out] at ht3
            simp only at ht3
            rw [hsky] at ht3
            have HT3 := Lib.hid ht3
            clear hm2 ht3 hr3
            go_wp2_with fail
            refine HT3.out.mono ?_
            rintro r w3 ⟨A5, c5, rfl, -, -, hc5, hc5', hm3⟩
            have HM3 := Lib.hid (HM2.out.trans0 hm3)
            have HB3 := Lib.hid (HB2.out.mod hm3 fun h => h)
            have hr3 := HR2.out.mod0 hm3
            obtain ⟨B, O, rfl, k0, k1, k2⟩ := rd3 hr3
            have hB := World.block_lt_of_cell? w3 _ k0
            simp only at hB
            have hB' : B ≠ w3.heap.size := by omega
            clear hm3 hr3
            go_wp2_with fail
            go_region_held3 (fun w' => w'.cell? ⟨B, O, none⟩ = some (.int .i64 (a : Int)) ∧ w'.cell? ⟨B, O + 1, none⟩ = some (.int .i64 (b : Int)) ∧ w'.cell? ⟨B, O + 2, none⟩ = some (.int .i64 (d : Int))) (first | go_keep) (first | fail)
            obtain ⟨w4, hw4⟩ : ∃ w4, w4 = (w3.alloc (.cells #[.int .i64 (a : Int), .int .i64 (b : Int), .int .i64 (d : Int), .string snm, .string sky] 32)).drew := ⟨_, rfl⟩
            have HM4 : Hid (Mod Non w w4) := by rw [hw4]; exact (HM3.out.alloc _).drew
            have hb4 : Blk w4 w.heap.size 32 #[.int .i64 0, .int .i64 0, .int .i64 0, .string ⟨#[]⟩, .string ⟨#[]⟩] := by rw [hw4]; exact (HB3.out.alloc _).drew
            have hx4 : Blk w4 w3.heap.size 32 #[.int .i64 (a : Int), .int .i64 (b : Int), .int .i64 (d : Int), .string snm, .string sky] := by rw [hw4]; exact (Blk.new w3 _ _).drew
            have HB4 := Lib.hid hb4
            rw [← hw4]
            clear hw4 k0 k1 k2
            have x0 : w4.cell? ⟨w3.heap.size, 0, none⟩ = some (.int .i64 (a : Int)) := hx4.cell 0
            have x1 : w4.cell? ⟨w3.heap.size, 1, none⟩ = some (.int .i64 (b : Int)) := hx4.cell 1
            have x2 : w4.cell? ⟨w3.heap.size, 2, none⟩ = some (.int .i64 (d : Int)) := hx4.cell 2
            have x3 : w4.cell? ⟨w3.heap.size, 3, none⟩ = some (.string snm) := hx4.cell 3
            have x4 : w4.cell? ⟨w3.heap.size, 4, none⟩ = some (.string sky) := hx4.cell 4
            have htr := treeRight_any a b d snm sky w4
            rw [HTT.out] at htr
            unfold tCells at htr
            have HTR := Lib.hid htr
            have HX4 := Lib.hid hx4
            clear hb4 hx4 htr
            go_wp2_with fail
            refine HTR.out.mono ?_
            rintro r w5 ⟨rfl, hm5⟩
            have HM5 := Lib.hid (HM4.out.trans0 hm5)
            have hb5 := HB4.out.mod hm5 fun h => h
            have hx5 := HX4.out.mod hm5 fun h => h
            have HB5 := Lib.hid hb5
            clear x0 x1 x2 x3 x4
            have r0 : w5.cell? ⟨w.heap.size, 0, none⟩ = some (.int .i64 0) := hb5.cell 0
            have fr0 := hb5.frozen 0
            have r1 : w5.cell? ⟨w.heap.size, 1, none⟩ = some (.int .i64 0) := hb5.cell 1
            have fr1 := hb5.frozen 1
            have r2 : w5.cell? ⟨w.heap.size, 2, none⟩ = some (.int .i64 0) := hb5.cell 2
            have fr2 := hb5.frozen 2
            have r3 : w5.cell? ⟨w.heap.size, 3, none⟩ = some (.string ⟨#[]⟩) := hb5.cell 3
            have fr3 := hb5.frozen 3
            have r4 : w5.cell? ⟨w.heap.size, 4, none⟩ = some (.string ⟨#[]⟩) := hb5.cell 4
            have fr4 := hb5.frozen 4
            clear hb5 hx5 hm5
            go_wp2_with fail
            have HBZ := Lib.hid (((((HB5.out.set_ 0 (.int .i64 0)).set_ 1 (.int .i64 0)).set_ 2 (.int .i64 0)).set_ 3 (.string ⟨#[]⟩)).set_ 4 (.string ⟨#[]⟩))
            have HMZ := Lib.hid (((((HM5.out.setCell (p := ⟨w.heap.size, 0, none⟩) (.inr (by simp only; omega)) (.int .i64 0)).setCell (p := ⟨w.heap.size, 1, none⟩) (.inr (by simp only; omega)) (.int .i64 0)).setCell (p := ⟨w.heap.size, 2, none⟩) (.inr (by simp only; omega)) (.int .i64 0)).setCell (p := ⟨w.heap.size, 3, none⟩) (.inr (by simp only; omega)) (.string ⟨#[]⟩)).setCell (p := ⟨w.heap.size, 4, none⟩) (.inr (by simp only; omega)) (.string ⟨#[]⟩))
            refine bodyPost_ret (results_rowtmp rfl _ _ w.heap.size 32 _ _ rfl HBZ.out Tryz.underlying32 rfl (by kernel_rfl) (.int .i64 2) rfl) rfl ?_
            exact ⟨rfl, HMZ.out⟩
          | true =>
            simp only [and_self, if_true]
            have HTT := Lib.hid ht
            clear ht
            go_enter Tryz.func14, Tryz.ntmps14
            go_wp2_with fail
            rw [← HW0.out]
            refine HT.out.mono ?_
            rintro r w1 ⟨A1, c1, A2, n2, c2, rfl, hr1, ⟨hc1, hc1'⟩, hq2, hr2, ⟨hc2, hc2', hc2''⟩, hm1⟩
            have HM1 := Lib.hid (HM0.out.trans0 hm1)
            have HB1 := Lib.hid (HB0.out.mod hm1 fun h => h)
            have HR1 := Lib.hid hr1
            have ht2 := takeText_any A2 n2 c2 q 1000 w1 hr2 hc2 (by omega) hc2'
            unfold TtPost at ht2
            rw [HT1.out] at ht2
            simp only at ht2
            rw [hsnm] at ht2
            have HT2 := Lib.hid ht2
            clear hm1 hr1 hr2 ht2
            go_wp2_with fail
            refine HT2.out.mono ?_
            rintro r w2 ⟨A3, c3, rfl, hr3, -, hc3, hc3', hm2⟩
            have HM2 := Lib.hid (HM1.out.trans0 hm2)
            have HB2 := Lib.hid (HB1.out.mod hm2 fun h => h)
            have HR2 := Lib.hid (HR1.out.mod0 hm2)
            have ht3 := takeText_any A3 r1.length c3 r1 1000 w2 hr3 hc3 (by omega) hc3'
            unfold TtPost at ht3
            rw [HS1.out] at ht3
            simp only at ht3
            rw [hsky] at ht3
            have HT3 := Lib.hid ht3
            clear hm2 ht3 hr3
            go_wp2_with fail
            refine HT3.out.mono ?_
            rintro r w3 ⟨A5, c5, rfl, -, -, hc5, hc5', hm3⟩
            have HM3 := Lib.hid (HM2.out.trans0 hm3)
            have HB3 := Lib.hid (HB2.out.mod hm3 fun h => h)
            have hr3 := HR2.out.mod0 hm3
            obtain ⟨B, O, rfl, k0, k1, k2⟩ := rd3 hr3
            have hB := World.block_lt_of_cell? w3 _ k0
            simp only at hB
            have hB' : B ≠ w3.heap.size := by omega
            clear hm3 hr3
            go_wp2_with fail
            go_region_held3 (fun w' => w'.cell? ⟨B, O, none⟩ = some (.int .i64 (a : Int)) ∧ w'.cell? ⟨B, O + 1, none⟩ = some (.int .i64 (b : Int)) ∧ w'.cell? ⟨B, O + 2, none⟩ = some (.int .i64 (d : Int))) (first | go_keep) (first | fail)
            obtain ⟨w4, hw4⟩ : ∃ w4, w4 = (w3.alloc (.cells #[.int .i64 (a : Int), .int .i64 (b : Int), .int .i64 (d : Int), .string snm, .string sky] 32)).drew := ⟨_, rfl⟩
            have HM4 : Hid (Mod Non w w4) := by rw [hw4]; exact (HM3.out.alloc _).drew
            have hb4 : Blk w4 w.heap.size 32 #[.int .i64 0, .int .i64 0, .int .i64 0, .string ⟨#[]⟩, .string ⟨#[]⟩] := by rw [hw4]; exact (HB3.out.alloc _).drew
            have hx4 : Blk w4 w3.heap.size 32 #[.int .i64 (a : Int), .int .i64 (b : Int), .int .i64 (d : Int), .string snm, .string sky] := by rw [hw4]; exact (Blk.new w3 _ _).drew
            have HB4 := Lib.hid hb4
            rw [← hw4]
            clear hw4 k0 k1 k2
            have x0 : w4.cell? ⟨w3.heap.size, 0, none⟩ = some (.int .i64 (a : Int)) := hx4.cell 0
            have x1 : w4.cell? ⟨w3.heap.size, 1, none⟩ = some (.int .i64 (b : Int)) := hx4.cell 1
            have x2 : w4.cell? ⟨w3.heap.size, 2, none⟩ = some (.int .i64 (d : Int)) := hx4.cell 2
            have x3 : w4.cell? ⟨w3.heap.size, 3, none⟩ = some (.string snm) := hx4.cell 3
            have x4 : w4.cell? ⟨w3.heap.size, 4, none⟩ = some (.string sky) := hx4.cell 4
            have htr := treeRight_any a b d snm sky w4
            rw [HTT.out] at htr
            unfold tCells at htr
            have HTR := Lib.hid htr
            have HX4 := Lib.hid hx4
            clear hb4 hx4 htr
            go_wp2_with fail
            refine HTR.out.mono ?_
            rintro r w5 ⟨rfl, hm5⟩
            have HM5 := Lib.hid (HM4.out.trans0 hm5)
            have hb5 := HB4.out.mod hm5 fun h => h
            have hx5 := HX4.out.mod hm5 fun h => h
            have HB5 := Lib.hid hb5
            clear x0 x1 x2 x3 x4
            have r0 : w5.cell? ⟨w.heap.size, 0, none⟩ = some (.int .i64 0) := hb5.cell 0
            have fr0 := hb5.frozen 0
            have r1 : w5.cell? ⟨w.heap.size, 1, none⟩ = some (.int .i64 0) := hb5.cell 1
            have fr1 := hb5.frozen 1
            have r2 : w5.cell? ⟨w.heap.size, 2, none⟩ = some (.int .i64 0) := hb5.cell 2
            have fr2 := hb5.frozen 2
            have r3 : w5.cell? ⟨w.heap.size, 3, none⟩ = some (.string ⟨#[]⟩) := hb5.cell 3
            have fr3 := hb5.frozen 3
            have r4 : w5.cell? ⟨w.heap.size, 4, none⟩ = some (.string ⟨#[]⟩) := hb5.cell 4
            have fr4 := hb5.frozen 4
            have x0 : w5.cell? ⟨w3.heap.size, 0, none⟩ = some (.int .i64 (a : Int)) := hx5.cell 0
            have x1 : w5.cell? ⟨w3.heap.size, 1, none⟩ = some (.int .i64 (b : Int)) := hx5.cell 1
            have x2 : w5.cell? ⟨w3.heap.size, 2, none⟩ = some (.int .i64 (d : Int)) := hx5.cell 2
            have x3 : w5.cell? ⟨w3.heap.size, 3, none⟩ = some (.string snm) := hx5.cell 3
            have x4 : w5.cell? ⟨w3.heap.size, 4, none⟩ = some (.string sky) := hx5.cell 4
            clear hb5 hx5 hm5
            go_wp2_with fail
            simp only [List.getD_cons_zero, List.getD_cons_succ, hsnm, hsky]
            have HBZ := Lib.hid (((((HB5.out.set_ 0 (.int .i64 (a : Int))).set_ 1 (.int .i64 (b : Int))).set_ 2 (.int .i64 (d : Int))).set_ 3 (.string snm)).set_ 4 (.string sky))
            have HMZ := Lib.hid (((((HM5.out.setCell (p := ⟨w.heap.size, 0, none⟩) (.inr (by simp only; omega)) (.int .i64 (a : Int))).setCell (p := ⟨w.heap.size, 1, none⟩) (.inr (by simp only; omega)) (.int .i64 (b : Int))).setCell (p := ⟨w.heap.size, 2, none⟩) (.inr (by simp only; omega)) (.int .i64 (d : Int))).setCell (p := ⟨w.heap.size, 3, none⟩) (.inr (by simp only; omega)) (.string snm)).setCell (p := ⟨w.heap.size, 4, none⟩) (.inr (by simp only; omega)) (.string sky))
            refine bodyPost_ret (results_rowtmp rfl _ _ w.heap.size 32 _ _ rfl HBZ.out Tryz.underlying32 rfl (by kernel_rfl) (.int .i64 0) rfl) rfl ?_
            exact ⟨rfl, HMZ.out⟩
        · have hrl : (r2.length : Int) ≠ 0 := by
            have : 0 < r2.length := List.length_pos_iff.2 hr0
            omega
          have hrl0 : decide ((0 : Int) < (r2.length : Int)) = true := decide_eq_true (by omega)
          simp only [hr0, false_and, if_false]
          obtain ⟨n5, hn5⟩ : ∃ n5, r2.length = n5 := ⟨_, rfl⟩
          rw [hn5] at hrl hrl0
          go_enter Tryz.func14, Tryz.ntmps14
          go_wp2_with fail
          rw [← HW0.out]
          refine HT.out.mono ?_
          rintro r w1 ⟨A1, c1, A2, n2, c2, rfl, hr1, ⟨hc1, hc1'⟩, hq2, hr2, ⟨hc2, hc2', hc2''⟩, hm1⟩
          have HM1 := Lib.hid (HM0.out.trans0 hm1)
          have HB1 := Lib.hid (HB0.out.mod hm1 fun h => h)
          have HR1 := Lib.hid hr1
          have ht2 := takeText_any A2 n2 c2 q 1000 w1 hr2 hc2 (by omega) hc2'
          unfold TtPost at ht2
          rw [HT1.out] at ht2
          simp only at ht2
          rw [hsnm] at ht2
          have HT2 := Lib.hid ht2
          clear hm1 hr1 hr2 ht2
          go_wp2_with fail
          refine HT2.out.mono ?_
          rintro r w2 ⟨A3, c3, rfl, hr3, -, hc3, hc3', hm2⟩
          have HM2 := Lib.hid (HM1.out.trans0 hm2)
          have HB2 := Lib.hid (HB1.out.mod hm2 fun h => h)
          have HR2 := Lib.hid (HR1.out.mod0 hm2)
          have ht3 := takeText_any A3 r1.length c3 r1 1000 w2 hr3 hc3 (by omega) hc3'
          unfold TtPost at ht3
          rw [HS1.out] at ht3
          simp only at ht3
          rw [hsky, hn5] at ht3
          have HT3 := Lib.hid ht3
          clear hm2 ht3 hr3
          go_wp2_with fail
          refine HT3.out.mono ?_
          rintro r w3 ⟨A5, c5, rfl, -, -, hc5, hc5', hm3⟩
          have HM3 := Lib.hid (HM2.out.trans0 hm3)
          have HB3 := Lib.hid (HB2.out.mod hm3 fun h => h)
          have hr3 := HR2.out.mod0 hm3
          obtain ⟨B, O, rfl, k0, k1, k2⟩ := rd3 hr3
          have hB := World.block_lt_of_cell? w3 _ k0
          simp only at hB
          have hB' : B ≠ w3.heap.size := by omega
          clear hm3 hr3
          go_wp2_with fail
          go_region_held3 (fun w' => w'.cell? ⟨B, O, none⟩ = some (.int .i64 (a : Int)) ∧ w'.cell? ⟨B, O + 1, none⟩ = some (.int .i64 (b : Int)) ∧ w'.cell? ⟨B, O + 2, none⟩ = some (.int .i64 (d : Int))) (first | go_keep) (first | fail)
          obtain ⟨w4, hw4⟩ : ∃ w4, w4 = (w3.alloc (.cells #[.int .i64 (a : Int), .int .i64 (b : Int), .int .i64 (d : Int), .string snm, .string sky] 32)).drew := ⟨_, rfl⟩
          have HM4 : Hid (Mod Non w w4) := by rw [hw4]; exact (HM3.out.alloc _).drew
          have hb4 : Blk w4 w.heap.size 32 #[.int .i64 0, .int .i64 0, .int .i64 0, .string ⟨#[]⟩, .string ⟨#[]⟩] := by rw [hw4]; exact (HB3.out.alloc _).drew
          have hx4 : Blk w4 w3.heap.size 32 #[.int .i64 (a : Int), .int .i64 (b : Int), .int .i64 (d : Int), .string snm, .string sky] := by rw [hw4]; exact (Blk.new w3 _ _).drew
          have HB4 := Lib.hid hb4
          rw [← hw4]
          clear hw4 k0 k1 k2
          have r0 : w4.cell? ⟨w.heap.size, 0, none⟩ = some (.int .i64 0) := hb4.cell 0
          have fr0 := hb4.frozen 0
          have r1 : w4.cell? ⟨w.heap.size, 1, none⟩ = some (.int .i64 0) := hb4.cell 1
          have fr1 := hb4.frozen 1
          have r2 : w4.cell? ⟨w.heap.size, 2, none⟩ = some (.int .i64 0) := hb4.cell 2
          have fr2 := hb4.frozen 2
          have r3 : w4.cell? ⟨w.heap.size, 3, none⟩ = some (.string ⟨#[]⟩) := hb4.cell 3
          have fr3 := hb4.frozen 3
          have r4 : w4.cell? ⟨w.heap.size, 4, none⟩ = some (.string ⟨#[]⟩) := hb4.cell 4
          have fr4 := hb4.frozen 4
          clear hb4 hx4
          go_wp2_with fail
          have HBZ := Lib.hid (((((HB4.out.set_ 0 (.int .i64 0)).set_ 1 (.int .i64 0)).set_ 2 (.int .i64 0)).set_ 3 (.string ⟨#[]⟩)).set_ 4 (.string ⟨#[]⟩))
          have HMZ := Lib.hid (((((HM4.out.setCell (p := ⟨w.heap.size, 0, none⟩) (.inr (by simp only; omega)) (.int .i64 0)).setCell (p := ⟨w.heap.size, 1, none⟩) (.inr (by simp only; omega)) (.int .i64 0)).setCell (p := ⟨w.heap.size, 2, none⟩) (.inr (by simp only; omega)) (.int .i64 0)).setCell (p := ⟨w.heap.size, 3, none⟩) (.inr (by simp only; omega)) (.string ⟨#[]⟩)).setCell (p := ⟨w.heap.size, 4, none⟩) (.inr (by simp only; omega)) (.string ⟨#[]⟩))
          refine bodyPost_ret (results_rowtmp rfl _ _ w.heap.size 32 _ _ rfl HBZ.out Tryz.underlying32 rfl (by kernel_rfl) (.int .i64 2) rfl) rfl ?_
          exact ⟨rfl, HMZ.out⟩

end Go.Proofs.YtgnpmmhpeianpaaGreatDoor
