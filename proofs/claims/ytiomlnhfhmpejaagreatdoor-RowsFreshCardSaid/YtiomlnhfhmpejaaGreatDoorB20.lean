/- lsm.Open on a disk without files. -/
import Derived.Test.YtiomlnhfhmpejaaGreatDoorB19
import Derived.Test.YtiomlnhfhmpejaaGreatDoorB05
import Derived.Deep.RegionHeld3
namespace Go.Proofs.YtiomlnhfhmpejaaGreatDoor
open Go.RowKit

/-- a new engine's cells. -/
def egZ (d l tm pm : Nat) : Array Value := #[.pointer (some ⟨d, 0, none⟩), .int .i64 0, .int .i64 0, .int .i64 0, .int .i64 0, .slice none 0 0, .map (some tm), .pointer (some ⟨l, 0, none⟩), .int .i64 0, .int .i64 0, .map (some pm)]

theorem alloc4 (w : World) (a b c E : Obj) : ((((w.alloc a).alloc b).alloc c).alloc E).heap[w.heap.size]? = some a ∧ ((((w.alloc a).alloc b).alloc c).alloc E).heap[w.heap.size + 1]? = some b ∧ ((((w.alloc a).alloc b).alloc c).alloc E).heap[w.heap.size + 1 + 1]? = some c ∧ ((((w.alloc a).alloc b).alloc c).alloc E).heap[w.heap.size + 1 + 1 + 1]? = some E := by
  have h0 : w.heap.size < (w.alloc a).heap.size := by simp
  have s1 : (w.alloc a).heap.size = w.heap.size + 1 := by simp
  have s2 : ((w.alloc a).alloc b).heap.size = w.heap.size + 1 + 1 := by simp
  have s3 : (((w.alloc a).alloc b).alloc c).heap.size = w.heap.size + 1 + 1 + 1 := by simp
  refine ⟨?_, ?_, ?_, ?_⟩
  · rw [heap_alloc_old _ _ (by omega), heap_alloc_old _ _ (by omega), heap_alloc_old _ _ (by omega), heap_alloc_new]
  · rw [heap_alloc_old _ _ (by omega), heap_alloc_old _ _ (by omega), ← s1, heap_alloc_new]
  · rw [heap_alloc_old _ _ (by omega), ← s2, heap_alloc_new]
  · rw [← s3, heap_alloc_new]
theorem map_at {w : World} {m : Nat} (h : w.heap[m]? = some (.map #[] 0)) : MapAt (Value.int .i64) w m [] := ⟨#[], 0, h, Go.MapKept.stamped_empty 0, rfl⟩

/-- what the maps, the list and the engine are, wherever they lie. -/
def NewE (W : World) (d n e l tm pm : Nat) : Prop := Blk W e 106 (egZ d l tm pm) ∧ Blk W l 176 (lsCells [] 0 0) ∧
    MapAt (Value.int .i64) W tm [] ∧ MapAt (Value.int .i64) W pm [] ∧ (e ≠ l ∧ e ≠ tm ∧ e ≠ pm ∧ l ≠ tm ∧ l ≠ pm ∧ tm ≠ pm) ∧ (n ≤ e ∧ n ≤ l ∧ n ≤ tm ∧ n ≤ pm)
theorem NewE.mod0 {W W' : World} {d n e l tm pm : Nat} (h : NewE W d n e l tm pm) (hm : Mod Non W W') : NewE W' d n e l tm pm :=
  ⟨h.1.mod hm fun h => h, h.2.1.mod hm fun h => h, h.2.2.1.mod0' hm, h.2.2.2.1.mod0' hm, h.2.2.2.2⟩

set_option maxRecDepth 100000 in
set_option maxHeartbeats 8000000 in
theorem openF (d : Nat) (w : World) (h : FrD w d) : Calls Tryz.prog 15 #[.pointer (some ⟨d, 0, none⟩)] w fun r w' => ∃ e l tm pm, r = .returned (.tuple #[.pointer (some ⟨e, 0, none⟩), .int .i64 0]) ∧ NewE w' d w.heap.size e l tm pm ∧ Mod Non w w' := by
  have hmm := @run_makeMap Tryz.prog
  have HL := Lib.hid (loadF d w h)
  have HF := Lib.hid h
  have HC := Lib.hid cleanF
  clear h
  unfold zeroPv at HL HC
  go_enter Tryz.func15, Tryz.ntmps15
  go_wp2_with fail
  refine HL.out.mono ?_
  rintro e w1 ⟨rfl, hm1⟩
  obtain ⟨w2, hw2⟩ : ∃ w2, w2 = w1.alloc (.cells #[.int .i64 0, .int .i64 0, .int .i64 0, .int .i64 0, .slice none 0 0] 97) := ⟨_, rfl⟩
  have hm2 : Mod Non w w2 := by rw [hw2]; exact hm1.alloc _
  have hb2 : Blk w2 w1.heap.size 97 #[.int .i64 0, .int .i64 0, .int .i64 0, .int .i64 0, .slice none 0 0] := by rw [hw2]; exact Blk.new _ _ _
  have HM2 := Lib.hid hm2
  have HB2 := Lib.hid hb2
  have hs1 := hm1.size
  clear hm1
  go_wp2_with fail
  rw [← hw2]
  have HW2 := Lib.hid hw2
  clear hw2 hm2 hb2
  refine (HC.out d w2 (HF.out.mod0 HM2.out)).mono ?_
  rintro e w3 ⟨rfl, hm3⟩
  have hb3 := HB2.out.mod hm3 fun h => h
  have v0 : w3.cell? ⟨w1.heap.size, 0, none⟩ = some (.int .i64 0) := hb3.cell 0
  have v1 : w3.cell? ⟨w1.heap.size, 1, none⟩ = some (.int .i64 0) := hb3.cell 1
  have v2 : w3.cell? ⟨w1.heap.size, 2, none⟩ = some (.int .i64 0) := hb3.cell 2
  have v3 : w3.cell? ⟨w1.heap.size, 3, none⟩ = some (.int .i64 0) := hb3.cell 3
  have v4 : w3.cell? ⟨w1.heap.size, 4, none⟩ = some (.slice none 0 0) := hb3.cell 4
  have HM3 := Lib.hid (HM2.out.trans0 hm3)
  have hs3 := HM3.out.size
  have HB3 := Lib.hid hb3
  have HS : Hid (∀ W, Mod Non w3 W → Mod Non w3 W ∧ W.cell? ⟨w1.heap.size, 0, none⟩ = some (.int .i64 0) ∧ W.cell? ⟨w1.heap.size, 1, none⟩ = some (.int .i64 0) ∧ W.cell? ⟨w1.heap.size, 2, none⟩ = some (.int .i64 0) ∧ W.cell? ⟨w1.heap.size, 3, none⟩ = some (.int .i64 0) ∧ W.cell? ⟨w1.heap.size, 4, none⟩ = some (.slice none 0 0)) :=
    fun W hm => ⟨hm, hm.cell v0 fun h => h, hm.cell v1 fun h => h, hm.cell v2 fun h => h, hm.cell v3 fun h => h, hm.cell v4 fun h => h⟩
  obtain ⟨hmr, -⟩ := HS.out w3 (Mod.refl _ _)
  clear hm3 hb3
  go_wp2_with fail
  go_region_held3 (fun w' => Mod Non w3 w' ∧ w'.cell? ⟨w1.heap.size, 0, none⟩ = some (.int .i64 0) ∧ w'.cell? ⟨w1.heap.size, 1, none⟩ = some (.int .i64 0) ∧ w'.cell? ⟨w1.heap.size, 2, none⟩ = some (.int .i64 0) ∧ w'.cell? ⟨w1.heap.size, 3, none⟩ = some (.int .i64 0) ∧ w'.cell? ⟨w1.heap.size, 4, none⟩ = some (.slice none 0 0))
    (first | (exact HS.out _ (Mod.drew (by first | assumption | exact Mod.refl _ _))) | (exact HS.out _ (Mod.alloc (by first | assumption | exact Mod.refl _ _) _)) | (exact HS.out _ (by repeat (first | assumption | exact Mod.refl _ _ | refine Mod.drew ?_ | refine Mod.alloc ?_ _))) | go_keep)
    (first | (go_at_call 31; refine (newL_any _).mono ?_; rintro r w9 ⟨rfl, rfl⟩))
  all_goals
    have hv4 : ∀ a b c E : Obj, ((((w3.alloc a).alloc b).alloc c).alloc E).cell? ⟨w1.heap.size, 4, none⟩ = some (.slice none 0 0) := fun a b c E => (((((Mod.refl Non w3).alloc a).alloc b).alloc c).alloc E).cell v4 fun h => h
    have HA := Lib.hid (alloc4 w3)
    have HMA : Hid (∀ a b c E : Obj, Mod Non w ((((w3.alloc a).alloc b).alloc c).alloc E).drew) := fun a b c E => ((((HM3.out.alloc a).alloc b).alloc c).alloc E).drew
    have hfin : Hid (∀ a b c E : Obj, ∀ l tm pm : Nat, (E = .cells (egZ d l tm pm) 106) → ((l = w3.heap.size ∧ a = .cells (lsCells [] 0 0) 176) ∨ (l = w3.heap.size + 1 ∧ b = .cells (lsCells [] 0 0) 176) ∨ (l = w3.heap.size + 1 + 1 ∧ c = .cells (lsCells [] 0 0) 176)) →
        ((tm = w3.heap.size ∧ a = .map #[] 0) ∨ (tm = w3.heap.size + 1 ∧ b = .map #[] 0) ∨ (tm = w3.heap.size + 1 + 1 ∧ c = .map #[] 0)) → ((pm = w3.heap.size ∧ a = .map #[] 0) ∨ (pm = w3.heap.size + 1 ∧ b = .map #[] 0) ∨ (pm = w3.heap.size + 1 + 1 ∧ c = .map #[] 0)) → l ≠ tm ∧ l ≠ pm ∧ tm ≠ pm →
        NewE ((((w3.alloc a).alloc b).alloc c).alloc E).drew d w.heap.size (w3.heap.size + 1 + 1 + 1) l tm pm) := by
      intro a b c E l tm pm hE hl ht hp hne
      obtain ⟨q0, q1, q2, q3⟩ := HA.out a b c E
      refine ⟨by subst hE; exact q3, ?_, ?_, ?_, ⟨by omega, by omega, by omega, hne.1, hne.2.1, hne.2.2⟩, by omega, by omega, by omega, by omega⟩
      · rcases hl with ⟨rfl, rfl⟩ | ⟨rfl, rfl⟩ | ⟨rfl, rfl⟩
        · exact q0
        · exact q1
        · exact q2
      · rcases ht with ⟨rfl, rfl⟩ | ⟨rfl, rfl⟩ | ⟨rfl, rfl⟩
        · exact map_at q0
        · exact map_at q1
        · exact map_at q2
      · rcases hp with ⟨rfl, rfl⟩ | ⟨rfl, rfl⟩ | ⟨rfl, rfl⟩
        · exact map_at q0
        · exact map_at q1
        · exact map_at q2
    go_wp2_with fail
    refine wp_loop_rounds 1 ?_
    rw [rounds_succ]; go_wp2_with fail
    refine (segsF d _ (HF.out.mod0 (HMA.out _ _ _ _))).mono ?_
    rintro r w5 ⟨rfl, hm5⟩
    have HM5 := Lib.hid hm5
    have HM6 := Lib.hid ((HMA.out _ _ _ _).trans0 hm5)
    clear hm5
    go_wp2_with fail
    refine wp_loop_rounds 1 ?_
    rw [rounds_succ]; go_wp2_with fail
    go_ret2
    first
      | exact ⟨_, w3.heap.size, w3.heap.size + 1, w3.heap.size + 1 + 1, rfl, (hfin.out _ _ _ _ _ _ _ rfl (.inl ⟨rfl, rfl⟩) (.inr (.inl ⟨rfl, rfl⟩)) (.inr (.inr ⟨rfl, rfl⟩)) (by omega)).mod0 HM5.out, HM6.out⟩
      | exact ⟨_, w3.heap.size, w3.heap.size + 1 + 1, w3.heap.size + 1, rfl, (hfin.out _ _ _ _ _ _ _ rfl (.inl ⟨rfl, rfl⟩) (.inr (.inr ⟨rfl, rfl⟩)) (.inr (.inl ⟨rfl, rfl⟩)) (by omega)).mod0 HM5.out, HM6.out⟩
      | exact ⟨_, w3.heap.size + 1, w3.heap.size, w3.heap.size + 1 + 1, rfl, (hfin.out _ _ _ _ _ _ _ rfl (.inr (.inl ⟨rfl, rfl⟩)) (.inl ⟨rfl, rfl⟩) (.inr (.inr ⟨rfl, rfl⟩)) (by omega)).mod0 HM5.out, HM6.out⟩
      | exact ⟨_, w3.heap.size + 1, w3.heap.size + 1 + 1, w3.heap.size, rfl, (hfin.out _ _ _ _ _ _ _ rfl (.inr (.inl ⟨rfl, rfl⟩)) (.inr (.inr ⟨rfl, rfl⟩)) (.inl ⟨rfl, rfl⟩) (by omega)).mod0 HM5.out, HM6.out⟩
      | exact ⟨_, w3.heap.size + 1 + 1, w3.heap.size, w3.heap.size + 1, rfl, (hfin.out _ _ _ _ _ _ _ rfl (.inr (.inr ⟨rfl, rfl⟩)) (.inl ⟨rfl, rfl⟩) (.inr (.inl ⟨rfl, rfl⟩)) (by omega)).mod0 HM5.out, HM6.out⟩
      | exact ⟨_, w3.heap.size + 1 + 1, w3.heap.size + 1, w3.heap.size, rfl, (hfin.out _ _ _ _ _ _ _ rfl (.inr (.inr ⟨rfl, rfl⟩)) (.inr (.inl ⟨rfl, rfl⟩)) (.inl ⟨rfl, rfl⟩) (by omega)).mod0 HM5.out, HM6.out⟩

end Go.Proofs.YtiomlnhfhmpejaaGreatDoor
