/- rows.Sign. -/
import Derived.Test.YtgnpmmhpeianpaaGreatDoorB36
import Derived.Test.YtgnpmmhpeianpaaGreatDoorB26
import Derived.Test.YtgnpmmhpeianpaaGreatDoorB23
import Derived.Test.YtgnpmmhpeianpaaGreatDoorB09
import Derived.Test.YtgnpmmhpeianpaaGreatDoorB31
import Derived.Deep.RegionHeldLaw
import Derived.Test.YtgnpmmhpeianpaaGreatDoorB43
import Derived.Test.YtgnpmmhpeianpaaGreatDoorB40
namespace Go.Proofs.YtgnpmmhpeianpaaGreatDoor
open Go.RowKit

/-- a head's code. -/
def signP (id : Int) (ky : ByteArray) (sz : Int) (root : ByteArray) (tk ep : Int) : List UInt8 := macB ky.data.toList (nBs [id, sz, tk, ep] ++ textB root.data.toList)
theorem rd_bytesW {w : World} {e : TypeId} {s : ByteArray} {g : Nat} (hg : g = w.heap.size) : Rd (Lib.bytesWorld w e s) (some ⟨g, 0, none⟩) s.size (by8 s.data.toList) := by
  rw [hg]
  exact rd_bytesWorld w e s
theorem blk_ints {w : World} {g : Nat} {t : TypeId} {a b c d : Int} (h : Blk w g t #[.int .i64 a, .int .i64 b, .int .i64 c, .int .i64 d]) : Rd w (some ⟨g, 0, none⟩) 4 ([a, b, c, d].map (Value.int .i64)) := by
  refine ⟨rfl, fun _ => ⟨g, 0, rfl, fun j u hu => ?_⟩⟩
  rw [Nat.zero_add, h.cell j]
  match j, hu with
  | 0, hu => exact hu
  | 1, hu => exact hu
  | 2, hu => exact hu
  | 3, hu => exact hu

set_option maxRecDepth 100000 in
set_option maxHeartbeats 4000000 in
theorem sign_any (id st q : Int) (nm ky : ByteArray) (sz : Int) (root : ByteArray) (tk ep : Int) (A : Option Addr) (n c : Nat) (sig : ByteArray) (w : World) (hk : ky.size ≤ 140737488351232) (hr : root.size ≤ 140737488351232) :
    Calls Tryz.prog 9 #[.agg (tCells id st q nm ky), .agg (hCells sz root tk ep A n c sig)] w fun e w' => e = .returned (.string ⟨(signP id ky sz root tk ep).toArray⟩) ∧ Mod Non w w' := by
  have hcs := fun (w : World) (s : ByteArray) => Lib.run_convert_string_bytes (P := Tryz.prog) w 9 27 5 s Tryz.underlying9 Tryz.underlying27 Tryz.underlying5
  obtain ⟨w0, hw0⟩ : ∃ w0, w0 = (w.alloc (.cells (tCells id st q nm ky) 32)).alloc (.cells (hCells sz root tk ep A n c sig) 37) := ⟨_, rfl⟩
  have hb0 : Blk w0 w.heap.size 32 (tCells id st q nm ky) := by rw [hw0]; exact (Blk.new _ _ _).alloc _
  have hb1 : Blk w0 (w.heap.size + 1) 37 (hCells sz root tk ep A n c sig) := by
    have h9 := Blk.new (w.alloc (.cells (tCells id st q nm ky) 32)) 37 (hCells sz root tk ep A n c sig)
    rw [World.size_alloc] at h9
    rw [hw0]
    exact h9
  have hm0 : Mod Non w w0 := by rw [hw0]; exact ((Mod.refl Non w).alloc _).alloc _
  have HM0 := Lib.hid hm0
  unfold tCells at hb0 hw0
  unfold hCells at hb1 hw0
  have HCE : Hid (∀ W, Mod Non w0 W → W.cell? ⟨w.heap.size, 0, none⟩ = some (.int .i64 id) ∧ W.cell? ⟨w.heap.size, 4, none⟩ = some (.string ky) ∧ W.cell? ⟨w.heap.size + 1, 0, none⟩ = some (.int .i64 sz) ∧ W.cell? ⟨w.heap.size + 1, 1, none⟩ = some (.string root) ∧ W.cell? ⟨w.heap.size + 1, 2, none⟩ = some (.int .i64 tk) ∧ W.cell? ⟨w.heap.size + 1, 3, none⟩ = some (.int .i64 ep)) := fun W hW =>
    ⟨(hb0.mod hW fun h => h).cell 0, (hb0.mod hW fun h => h).cell 4, (hb1.mod hW fun h => h).cell 0, (hb1.mod hW fun h => h).cell 1, (hb1.mod hW fun h => h).cell 2, (hb1.mod hW fun h => h).cell 3⟩
  have HW0 := Lib.hid hw0
  unfold tCells hCells
  clear hb0 hb1 hw0 hm0
  go_enter Tryz.func9, Tryz.ntmps9
  go_wp2_with fail
  rw [← HW0.out]
  obtain ⟨ws, hws⟩ : ∃ ws, ws = (w0.alloc (.cells #[.int .i64 id, .int .i64 sz, .int .i64 tk, .int .i64 ep] 3)) := ⟨_, rfl⟩
  have HB1 : Hid (Blk (w0.drew.alloc (.cells #[.int .i64 id, .int .i64 sz, .int .i64 tk, .int .i64 ep] 3)) w0.heap.size 3 #[.int .i64 id, .int .i64 sz, .int .i64 tk, .int .i64 ep]) := Blk.new w0.drew _ _
  have HB2 : Hid (Blk (w0.alloc (.cells #[.int .i64 id, .int .i64 sz, .int .i64 tk, .int .i64 ep] 3)).drew w0.heap.size 3 #[.int .i64 id, .int .i64 sz, .int .i64 tk, .int .i64 ep]) := (Blk.new w0 _ _).drew
  have HKC1 : Hid (Rd (Lib.bytesWorld w0.drew 5 ky) (some ⟨w0.heap.size, 0, none⟩) ky.size (by8 ky.data.toList)) := rd_bytesWorld w0.drew 5 ky
  have HKC2 : Hid (Rd (Lib.bytesWorld (w0.drew.alloc (.cells #[.int .i64 id, .int .i64 sz, .int .i64 tk, .int .i64 ep] 3)) 5 ky) (some ⟨w0.heap.size + 1, 0, none⟩) ky.size (by8 ky.data.toList)) := rd_bytesW (by rw [World.size_alloc, World.size_drew])
  have HKC3 : Hid (Rd (Lib.bytesWorld (w0.alloc (.cells #[.int .i64 id, .int .i64 sz, .int .i64 tk, .int .i64 ep] 3)).drew 5 ky) (some ⟨w0.heap.size + 1, 0, none⟩) ky.size (by8 ky.data.toList)) := rd_bytesW (by rw [World.size_drew, World.size_alloc])
  have HB3 := HB1
  have HB4 := HB2
  clear hws ws
  go_region_held_law (fun W => W.cell? ⟨w.heap.size, 0, none⟩ = some (.int .i64 id) ∧ W.cell? ⟨w.heap.size, 4, none⟩ = some (.string ky) ∧ W.cell? ⟨w.heap.size + 1, 0, none⟩ = some (.int .i64 sz) ∧ W.cell? ⟨w.heap.size + 1, 1, none⟩ = some (.string root) ∧ W.cell? ⟨w.heap.size + 1, 2, none⟩ = some (.int .i64 tk) ∧ W.cell? ⟨w.heap.size + 1, 3, none⟩ = some (.int .i64 ep))
    (first | (refine HCE.out _ ?_; repeat (first | (with_reducible exact Mod.refl _ _) | (with_reducible exact HM7.out) | (with_reducible exact HM6.out) | (with_reducible exact HM5.out) | (with_reducible apply Mod.drew) | (with_reducible apply Mod.alloc) | (with_reducible refine Mod.trans0 ?_ (mod_bytesWorld _ _ _)))) | fail)
    (first
      | (go_simp
         first
         | (go_at_call 27
            refine (numsW_any _ 4 _ [id, sz, tk, ep] _ (blk_ints (by first | (with_reducible exact Blk.new _ _ _) | (with_reducible exact HB1.out) | (with_reducible exact HB2.out) | (with_reducible exact HB3.out.mod (mod_bytesWorld _ _ _) (fun h => h)) | (with_reducible exact HB4.out.mod (mod_bytesWorld _ _ _) (fun h => h)) | (trace_state; fail))) (by omega)).mono ?_
            rintro e w5 ⟨A5, n5, c5, rfl, hn5, hr5, hc5, hc5', hm5⟩
            have HR5 := Lib.hid hr5
            have HN5 := Lib.hid hn5
            have HM5L := Lib.hid hm5
            have HM5 : Hid (Mod Non w0 w5) := Lib.hid (Mod.trans0 (by repeat (first | (with_reducible exact Mod.refl _ _) | (with_reducible apply Mod.drew) | (with_reducible apply Mod.alloc) | (with_reducible refine Mod.trans0 ?_ (mod_bytesWorld _ _ _)))) hm5)
            clear hr5 hn5 hc5 hc5' hm5)
         | (go_at_call 26
            refine (putText_big A5 n5 c5 (nBs [id, sz, tk, ep]) root _ (by first | (with_reducible exact HR5.out) | (with_reducible exact HR5.out.mod0 (mod_bytesWorld _ _ _))) (by have h1 := HN5.out; have h2 := nBs_len [id, sz, tk, ep]; simp only [List.length_cons, List.length_nil] at h2; omega) (by have h1 := HN5.out; have h2 := nBs_len [id, sz, tk, ep]; simp only [List.length_cons, List.length_nil] at h2; omega)).mono ?_
            rintro e w6 ⟨A6, n6, c6, rfl, hn6, hr6, hc6, hc6', hm6⟩
            have HR6 := Lib.hid hr6
            have HN6 := Lib.hid hn6
            have HM6L := Lib.hid hm6
            have HM6 : Hid (Mod Non w0 w6) := Lib.hid (Mod.trans0 (by repeat (first | (with_reducible exact HM5.out) | (with_reducible refine Mod.trans0 ?_ (mod_bytesWorld _ _ _)))) hm6)
            clear hr6 hn6 hc6 hc6' hm6)
         | (go_at_call 31
            refine (mac_any _ ky.size _ ky.data.toList A6 n6 c6 _ _ (by first
              | (with_reducible exact ((HKC1.out.alloc _).mod0 HM5L.out).mod0 HM6L.out)
              | (with_reducible exact (HKC2.out.mod0 HM5L.out).mod0 HM6L.out)
              | (with_reducible exact (HKC3.out.mod0 HM5L.out).mod0 HM6L.out)
              | (with_reducible exact (rd_bytesWorld w5 5 ky).mod0 HM6L.out)
              | (with_reducible exact rd_bytesWorld w6 5 ky)
              | (trace_state; fail)) (by omega) (by first | (with_reducible exact HR6.out) | (with_reducible exact HR6.out.mod0 (mod_bytesWorld _ _ _))) (by
                have h1 := HN6.out
                have h2 := nBs_len [id, sz, tk, ep]
                have h3 := nB_len (root.data.toList.length : Int)
                have h4 : root.data.toList.length = root.size := Array.length_toList
                simp only [List.length_cons, List.length_nil] at h2
                unfold textB at h1
                rw [List.length_append, List.length_append] at h1
                omega)).mono ?_
            rintro e w7 ⟨rfl, hm7⟩
            have HM7 : Hid (Mod Non w0 w7) := Lib.hid (Mod.trans0 (by repeat (first | (with_reducible exact HM6.out) | (with_reducible refine Mod.trans0 ?_ (mod_bytesWorld _ _ _)))) hm7)
            clear hm7)
         | fail)
      | fail)
  all_goals
    go_wp2_with fail
    go_ret
    exact ⟨rfl, HM0.out.trans0 HM7.out⟩

end Go.Proofs.YtgnpmmhpeianpaaGreatDoor

/- sawyerref18.Sign. -/
namespace Go.Proofs.YtgnpmmhpeianpaaGreatDoor
open Go.RowKit

set_option maxRecDepth 100000 in
set_option maxHeartbeats 4000000 in
theorem signQ_any (id st q : Int) (nm ky : ByteArray) (sz : Int) (root : ByteArray) (tk ep : Int) (A : Option Addr) (n c : Nat) (sig : ByteArray) (w : World) (hk : ky.size ≤ 140737488351232) (hr : root.size ≤ 140737488351232) :
    Calls Tryz.prog 11 #[.agg (tCells id st q nm ky), .agg (hCells sz root tk ep A n c sig)] w fun e w' => e = .returned (.string ⟨(signP id ky sz root tk ep).toArray⟩) ∧ Mod Non w w' := by
  have hcs := fun (w : World) (s : ByteArray) => Lib.run_convert_string_bytes (P := Tryz.prog) w 9 27 5 s Tryz.underlying9 Tryz.underlying27 Tryz.underlying5
  obtain ⟨w0, hw0⟩ : ∃ w0, w0 = (w.alloc (.cells (tCells id st q nm ky) 23)).alloc (.cells (hCells sz root tk ep A n c sig) 26) := ⟨_, rfl⟩
  have hb0 : Blk w0 w.heap.size 23 (tCells id st q nm ky) := by rw [hw0]; exact (Blk.new _ _ _).alloc _
  have hb1 : Blk w0 (w.heap.size + 1) 26 (hCells sz root tk ep A n c sig) := by
    have h9 := Blk.new (w.alloc (.cells (tCells id st q nm ky) 23)) 26 (hCells sz root tk ep A n c sig)
    rw [World.size_alloc] at h9
    rw [hw0]
    exact h9
  have hm0 : Mod Non w w0 := by rw [hw0]; exact ((Mod.refl Non w).alloc _).alloc _
  have HM0 := Lib.hid hm0
  unfold tCells at hb0 hw0
  unfold hCells at hb1 hw0
  have HCE : Hid (∀ W, Mod Non w0 W → W.cell? ⟨w.heap.size, 0, none⟩ = some (.int .i64 id) ∧ W.cell? ⟨w.heap.size, 4, none⟩ = some (.string ky) ∧ W.cell? ⟨w.heap.size + 1, 0, none⟩ = some (.int .i64 sz) ∧ W.cell? ⟨w.heap.size + 1, 1, none⟩ = some (.string root) ∧ W.cell? ⟨w.heap.size + 1, 2, none⟩ = some (.int .i64 tk) ∧ W.cell? ⟨w.heap.size + 1, 3, none⟩ = some (.int .i64 ep)) := fun W hW =>
    ⟨(hb0.mod hW fun h => h).cell 0, (hb0.mod hW fun h => h).cell 4, (hb1.mod hW fun h => h).cell 0, (hb1.mod hW fun h => h).cell 1, (hb1.mod hW fun h => h).cell 2, (hb1.mod hW fun h => h).cell 3⟩
  have HW0 := Lib.hid hw0
  unfold tCells hCells
  clear hb0 hb1 hw0 hm0
  go_enter Tryz.func11, Tryz.ntmps11
  go_wp2_with fail
  rw [← HW0.out]
  obtain ⟨ws, hws⟩ : ∃ ws, ws = (w0.alloc (.cells #[.int .i64 id, .int .i64 sz, .int .i64 tk, .int .i64 ep] 3)) := ⟨_, rfl⟩
  have HB1 : Hid (Blk (w0.drew.alloc (.cells #[.int .i64 id, .int .i64 sz, .int .i64 tk, .int .i64 ep] 3)) w0.heap.size 3 #[.int .i64 id, .int .i64 sz, .int .i64 tk, .int .i64 ep]) := Blk.new w0.drew _ _
  have HB2 : Hid (Blk (w0.alloc (.cells #[.int .i64 id, .int .i64 sz, .int .i64 tk, .int .i64 ep] 3)).drew w0.heap.size 3 #[.int .i64 id, .int .i64 sz, .int .i64 tk, .int .i64 ep]) := (Blk.new w0 _ _).drew
  have HKC1 : Hid (Rd (Lib.bytesWorld w0.drew 5 ky) (some ⟨w0.heap.size, 0, none⟩) ky.size (by8 ky.data.toList)) := rd_bytesWorld w0.drew 5 ky
  have HKC2 : Hid (Rd (Lib.bytesWorld (w0.drew.alloc (.cells #[.int .i64 id, .int .i64 sz, .int .i64 tk, .int .i64 ep] 3)) 5 ky) (some ⟨w0.heap.size + 1, 0, none⟩) ky.size (by8 ky.data.toList)) := rd_bytesW (by rw [World.size_alloc, World.size_drew])
  have HKC3 : Hid (Rd (Lib.bytesWorld (w0.alloc (.cells #[.int .i64 id, .int .i64 sz, .int .i64 tk, .int .i64 ep] 3)).drew 5 ky) (some ⟨w0.heap.size + 1, 0, none⟩) ky.size (by8 ky.data.toList)) := rd_bytesW (by rw [World.size_drew, World.size_alloc])
  have HB3 := HB1
  have HB4 := HB2
  clear hws ws
  go_region_held_law (fun W => W.cell? ⟨w.heap.size, 0, none⟩ = some (.int .i64 id) ∧ W.cell? ⟨w.heap.size, 4, none⟩ = some (.string ky) ∧ W.cell? ⟨w.heap.size + 1, 0, none⟩ = some (.int .i64 sz) ∧ W.cell? ⟨w.heap.size + 1, 1, none⟩ = some (.string root) ∧ W.cell? ⟨w.heap.size + 1, 2, none⟩ = some (.int .i64 tk) ∧ W.cell? ⟨w.heap.size + 1, 3, none⟩ = some (.int .i64 ep))
    (first | (refine HCE.out _ ?_; repeat (first | (with_reducible exact Mod.refl _ _) | (with_reducible exact HM7.out) | (with_reducible exact HM6.out) | (with_reducible exact HM5.out) | (with_reducible apply Mod.drew) | (with_reducible apply Mod.alloc) | (with_reducible refine Mod.trans0 ?_ (mod_bytesWorld _ _ _)))) | fail)
    (first
      | (go_simp
         first
         | (go_at_call 30
            refine (numsQW_any _ 4 _ [id, sz, tk, ep] _ (blk_ints (by first | (with_reducible exact Blk.new _ _ _) | (with_reducible exact HB1.out) | (with_reducible exact HB2.out) | (with_reducible exact HB3.out.mod (mod_bytesWorld _ _ _) (fun h => h)) | (with_reducible exact HB4.out.mod (mod_bytesWorld _ _ _) (fun h => h)) | (trace_state; fail))) (by omega)).mono ?_
            rintro e w5 ⟨A5, n5, c5, rfl, hn5, hr5, hc5, hc5', hm5⟩
            have HR5 := Lib.hid hr5
            have HN5 := Lib.hid hn5
            have HM5L := Lib.hid hm5
            have HM5 : Hid (Mod Non w0 w5) := Lib.hid (Mod.trans0 (by repeat (first | (with_reducible exact Mod.refl _ _) | (with_reducible apply Mod.drew) | (with_reducible apply Mod.alloc) | (with_reducible refine Mod.trans0 ?_ (mod_bytesWorld _ _ _)))) hm5)
            clear hr5 hn5 hc5 hc5' hm5)
         | (go_at_call 29
            refine (putTextR_big A5 n5 c5 (nBs [id, sz, tk, ep]) root _ (by first | (with_reducible exact HR5.out) | (with_reducible exact HR5.out.mod0 (mod_bytesWorld _ _ _))) (by have h1 := HN5.out; have h2 := nBs_len [id, sz, tk, ep]; simp only [List.length_cons, List.length_nil] at h2; omega) (by have h1 := HN5.out; have h2 := nBs_len [id, sz, tk, ep]; simp only [List.length_cons, List.length_nil] at h2; omega)).mono ?_
            rintro e w6 ⟨A6, n6, c6, rfl, hn6, -, hr6, hc6, hc6', hm6⟩
            have HR6 := Lib.hid hr6
            have HN6 := Lib.hid hn6
            have HM6L := Lib.hid hm6
            have HM6 : Hid (Mod Non w0 w6) := Lib.hid (Mod.trans0 (by repeat (first | (with_reducible exact HM5.out) | (with_reducible refine Mod.trans0 ?_ (mod_bytesWorld _ _ _)))) hm6)
            clear hr6 hn6 hc6 hc6' hm6)
         | (go_at_call 32
            refine (macQ_any _ ky.size _ ky.data.toList A6 n6 c6 _ _ (by first
              | (with_reducible exact ((HKC1.out.alloc _).mod0 HM5L.out).mod0 HM6L.out)
              | (with_reducible exact (HKC2.out.mod0 HM5L.out).mod0 HM6L.out)
              | (with_reducible exact (HKC3.out.mod0 HM5L.out).mod0 HM6L.out)
              | (with_reducible exact (rd_bytesWorld w5 5 ky).mod0 HM6L.out)
              | (with_reducible exact rd_bytesWorld w6 5 ky)
              | (trace_state; fail)) (by omega) (by first | (with_reducible exact HR6.out) | (with_reducible exact HR6.out.mod0 (mod_bytesWorld _ _ _))) (by
                have h1 := HN6.out
                have h2 := nBs_len [id, sz, tk, ep]
                have h3 := nB_len (root.data.toList.length : Int)
                have h4 : root.data.toList.length = root.size := Array.length_toList
                simp only [List.length_cons, List.length_nil] at h2
                unfold textB at h1
                rw [List.length_append, List.length_append] at h1
                omega)).mono ?_
            rintro e w7 ⟨rfl, hm7⟩
            have HM7 : Hid (Mod Non w0 w7) := Lib.hid (Mod.trans0 (by repeat (first | (with_reducible exact HM6.out) | (with_reducible refine Mod.trans0 ?_ (mod_bytesWorld _ _ _)))) hm7)
            clear hm7)
         | fail)
      | fail)
  all_goals
    go_wp2_with fail
    go_ret
    exact ⟨rfl, HM0.out.trans0 HM7.out⟩

end Go.Proofs.YtgnpmmhpeianpaaGreatDoor
