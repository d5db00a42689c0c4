/- rows: (Tree).right. -/
import Derived.Test.YtgnpmmhpeianpaaGreatDoorB09
import Derived.Test.YtgnpmmhpeianpaaGreatDoorB01
import Derived.Test.YtgnpmmhpeianpaaGreatDoorB10
namespace Go.Proofs.YtgnpmmhpeianpaaGreatDoor
open Go.RowKit

/-- may a tree be? -/
def treeR (id st q : Int) (nm ky : ByteArray) : Bool := decide (1 ≤ id ∧ id ≤ 64) && (decide (1 ≤ st) && (decide (st ≤ 3) && (decide (0 ≤ q) && (decide (q ≤ 1000) && (decide (1 ≤ (nm.size : Int)) && (decide ((nm.size : Int) ≤ 100) && isH ky))))))
def tCells (id st q : Int) (nm ky : ByteArray) : Array Value := #[.int .i64 id, .int .i64 st, .int .i64 q, .string nm, .string ky]

set_option maxRecDepth 100000 in
set_option maxHeartbeats 4000000 in
theorem treeRight_any (id st q : Int) (nm ky : ByteArray) (w : World) : Calls Tryz.prog 25 #[.agg (tCells id st q nm ky)] w fun e w' => e = .returned (.bool (treeR id st q nm ky)) ∧ Mod Non w w' := by
  obtain ⟨w0, hw0⟩ : ∃ w0, w0 = w.alloc (.cells (tCells id st q nm ky) 32) := ⟨_, rfl⟩
  have hb0 : Blk w0 w.heap.size 32 (tCells id st q nm ky) := by rw [hw0]; exact Blk.new _ _ _
  have hm0 : Mod Non w w0 := by rw [hw0]; exact (Mod.refl Non w).alloc _
  unfold tCells at hb0 hw0 ⊢
  have c0 : w0.cell? ⟨w.heap.size, 0, none⟩ = some (.int .i64 id) := hb0.cell 0
  have c1 : w0.cell? ⟨w.heap.size, 1, none⟩ = some (.int .i64 st) := hb0.cell 1
  have c2 : w0.cell? ⟨w.heap.size, 2, none⟩ = some (.int .i64 q) := hb0.cell 2
  have c3 : w0.cell? ⟨w.heap.size, 3, none⟩ = some (.string nm) := hb0.cell 3
  have c4 : w0.cell? ⟨w.heap.size, 4, none⟩ = some (.string ky) := hb0.cell 4
  have HT := Lib.hid (isTree_any id w0)
  have HM := Lib.hid hm0
  have HMK := Lib.hid (hm0.alloc (.cells #[.string ky] 9))
  have hrd := rd_new w0 9 [.string ky]
  have HK := Lib.hid (isHash_any (some ⟨w0.heap.size, 0, none⟩) 1 1 [ky] _ hrd (by omega))
  have HW0 := Lib.hid hw0
  clear hb0 hm0 hw0 hrd
  unfold treeR
  obtain ⟨b0, e0⟩ : ∃ b, decide (1 ≤ id ∧ id ≤ 64) = b := ⟨_, rfl⟩
  rw [e0] at HT ⊢
  clear e0
  have hka : hashAll [ky] = isH ky := by unfold hashAll; simp
  rw [hka] at HK
  clear hka
  obtain ⟨b7, e7⟩ : ∃ b, isH ky = b := ⟨_, rfl⟩
  rw [e7] at HK ⊢
  clear e7
  obtain ⟨b1, e1⟩ : ∃ b, decide (1 ≤ st) = b := ⟨_, rfl⟩
  obtain ⟨b2, e2⟩ : ∃ b, decide (st ≤ 3) = b := ⟨_, rfl⟩
  obtain ⟨b3, e3⟩ : ∃ b, decide (0 ≤ q) = b := ⟨_, rfl⟩
  obtain ⟨b4, e4⟩ : ∃ b, decide (q ≤ 1000) = b := ⟨_, rfl⟩
  obtain ⟨b5, e5⟩ : ∃ b, decide (1 ≤ (nm.size : Int)) = b := ⟨_, rfl⟩
  obtain ⟨b6, e6⟩ : ∃ b, decide ((nm.size : Int) ≤ 100) = b := ⟨_, rfl⟩
  rw [e1, e2, e3, e4, e5, e6]
  cases b0 with
  | false =>
    go_enter Tryz.func25, Tryz.ntmps25
    go_wp2_with (go_at_call 48; rw [← HW0.out]; refine HT.out.mono ?_; rintro r w9 ⟨rfl, rfl⟩)
    go_ret
    exact ⟨rfl, HM.out⟩
  | true =>
    cases b1 with
    | false =>
      go_enter Tryz.func25, Tryz.ntmps25
      go_wp2_with (go_at_call 48; rw [← HW0.out]; refine HT.out.mono ?_; rintro r w9 ⟨rfl, rfl⟩)
      go_ret
      exact ⟨rfl, HM.out⟩
    | true =>
      cases b2 with
      | false =>
        go_enter Tryz.func25, Tryz.ntmps25
        go_wp2_with (go_at_call 48; rw [← HW0.out]; refine HT.out.mono ?_; rintro r w9 ⟨rfl, rfl⟩)
        go_ret
        exact ⟨rfl, HM.out⟩
      | true =>
        cases b3 with
        | false =>
          go_enter Tryz.func25, Tryz.ntmps25
          go_wp2_with (go_at_call 48; rw [← HW0.out]; refine HT.out.mono ?_; rintro r w9 ⟨rfl, rfl⟩)
          go_ret
          exact ⟨rfl, HM.out⟩
        | true =>
          cases b4 with
          | false =>
            go_enter Tryz.func25, Tryz.ntmps25
            go_wp2_with (go_at_call 48; rw [← HW0.out]; refine HT.out.mono ?_; rintro r w9 ⟨rfl, rfl⟩)
            go_ret
            exact ⟨rfl, HM.out⟩
          | true =>
            cases b5 with
            | false =>
              go_enter Tryz.func25, Tryz.ntmps25
              go_wp2_with (go_at_call 48; rw [← HW0.out]; refine HT.out.mono ?_; rintro r w9 ⟨rfl, rfl⟩)
              go_ret
              exact ⟨rfl, HM.out⟩
            | true =>
              cases b6 with
              | false =>
                go_enter Tryz.func25, Tryz.ntmps25
                go_wp2_with (go_at_call 48; rw [← HW0.out]; refine HT.out.mono ?_; rintro r w9 ⟨rfl, rfl⟩)
                go_ret
                exact ⟨rfl, HM.out⟩
              | true =>
                go_enter Tryz.func25, Tryz.ntmps25
                go_wp2_with (go_at_call 48; rw [← HW0.out]; refine HT.out.mono ?_; rintro r w9 ⟨rfl, rfl⟩)
                refine HK.out.mono ?_
                rintro r w9 ⟨rfl, rfl⟩
                go_wp2_with fail
                go_ret
                exact ⟨by cases b7 <;> rfl, HMK.out⟩

end Go.Proofs.YtgnpmmhpeianpaaGreatDoor

/- sawyerref18.rightTree. -/
namespace Go.Proofs.YtgnpmmhpeianpaaGreatDoor
open Go.RowKit

theorem treeR_eq (id st q : Int) (nm ky : ByteArray) : treeR id st q nm ky = (decide (1 ≤ id) && (decide (id ≤ 64) && (decide (1 ≤ st) && (decide (st ≤ 3) && (decide (0 ≤ q) && (decide (q ≤ 1000) && (decide (1 ≤ (nm.size : Int)) && (decide ((nm.size : Int) ≤ 100) && ((ky.size : Int) == 32))))))))) := by
  have h : isH ky = ((ky.size : Int) == 32) := by
    unfold isH
    by_cases h0 : ky.size = 32
    · rw [h0]; rfl
    · rw [decide_eq_false h0]
      symm
      rw [beq_eq_false_iff_ne]
      omega
  unfold treeR
  rw [h]
  by_cases h1 : 1 ≤ id <;> by_cases h2 : id ≤ 64 <;> simp [h1, h2]

set_option maxRecDepth 100000 in
set_option maxHeartbeats 4000000 in
theorem rightTree_any (id st q : Int) (nm ky : ByteArray) (w : World) : Calls Tryz.prog 28 #[.agg (tCells id st q nm ky)] w fun e w' => e = .returned (.bool (treeR id st q nm ky)) ∧ Mod Non w w' := by
  obtain ⟨w0, hw0⟩ : ∃ w0, w0 = w.alloc (.cells (tCells id st q nm ky) 23) := ⟨_, rfl⟩
  have hb0 : Blk w0 w.heap.size 23 (tCells id st q nm ky) := by rw [hw0]; exact Blk.new _ _ _
  have hm0 : Mod Non w w0 := by rw [hw0]; exact (Mod.refl Non w).alloc _
  rw [hw0] at hb0 hm0
  clear hw0 w0
  unfold tCells at hb0 hm0 ⊢
  have HM := Lib.hid hm0
  rw [treeR_eq]
  clear hb0 hm0
  obtain ⟨b0, eb0⟩ : ∃ b, decide (1 ≤ id) = b := ⟨_, rfl⟩
  obtain ⟨b1, eb1⟩ : ∃ b, decide (id ≤ 64) = b := ⟨_, rfl⟩
  obtain ⟨b2, eb2⟩ : ∃ b, decide (1 ≤ st) = b := ⟨_, rfl⟩
  obtain ⟨b3, eb3⟩ : ∃ b, decide (st ≤ 3) = b := ⟨_, rfl⟩
  obtain ⟨b4, eb4⟩ : ∃ b, decide (0 ≤ q) = b := ⟨_, rfl⟩
  obtain ⟨b5, eb5⟩ : ∃ b, decide (q ≤ 1000) = b := ⟨_, rfl⟩
  obtain ⟨b6, eb6⟩ : ∃ b, decide (1 ≤ (nm.size : Int)) = b := ⟨_, rfl⟩
  obtain ⟨b7, eb7⟩ : ∃ b, decide ((nm.size : Int) ≤ 100) = b := ⟨_, rfl⟩
  obtain ⟨b8, eb8⟩ : ∃ b, ((ky.size : Int) == 32) = b := ⟨_, rfl⟩
  rw [eb0, eb1, eb2, eb3, eb4, eb5, eb6, eb7, eb8]
  cases b0 with
  | false =>
    go_enter Tryz.func28, Tryz.ntmps28
    go_wp2_with fail
    go_ret
    exact ⟨rfl, HM.out⟩
  | true =>
    cases b1 with
    | false =>
      go_enter Tryz.func28, Tryz.ntmps28
      go_wp2_with fail
      go_ret
      exact ⟨rfl, HM.out⟩
    | true =>
      cases b2 with
      | false =>
        go_enter Tryz.func28, Tryz.ntmps28
        go_wp2_with fail
        go_ret
        exact ⟨rfl, HM.out⟩
      | true =>
        cases b3 with
        | false =>
          go_enter Tryz.func28, Tryz.ntmps28
          go_wp2_with fail
          go_ret
          exact ⟨rfl, HM.out⟩
        | true =>
          cases b4 with
          | false =>
            go_enter Tryz.func28, Tryz.ntmps28
            go_wp2_with fail
            go_ret
            exact ⟨rfl, HM.out⟩
          | true =>
            cases b5 with
            | false =>
              go_enter Tryz.func28, Tryz.ntmps28
              go_wp2_with fail
              go_ret
              exact ⟨rfl, HM.out⟩
            | true =>
              cases b6 with
              | false =>
                go_enter Tryz.func28, Tryz.ntmps28
                go_wp2_with fail
                go_ret
                exact ⟨rfl, HM.out⟩
              | true =>
                cases b7 with
                | false =>
                  go_enter Tryz.func28, Tryz.ntmps28
                  go_wp2_with fail
                  go_ret
                  exact ⟨rfl, HM.out⟩
                | true =>
                  go_enter Tryz.func28, Tryz.ntmps28
                  go_wp2_with fail
                  go_ret
                  exact ⟨by cases b8 <;> rfl, HM.out⟩

end Go.Proofs.YtgnpmmhpeianpaaGreatDoor
