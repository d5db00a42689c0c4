/- sha.table, sha.expand. -/
import Derived.Test.YtgnpmmhpeianpaaGreatDoorB06
import Derived.Test.YtgnpmmhpeianpaaGreatDoorB01
import Derived.Deep.WholeRow
import Derived.Deep.RegionHeld3
namespace Go.Proofs.YtgnpmmhpeianpaaGreatDoor
open Go.RowKit

def v32s (l : List B32) : Array Value := (l.map v32).toArray
theorem v32s_size (l : List B32) : (v32s l).size = l.length := by simp [v32s]
theorem v32s_one (l : List B32) : (v32s l).all (·.oneCell') = true := by
  simp only [v32s, List.all_toArray, List.all_map]
  rw [List.all_eq_true]
  intro x _
  rfl
theorem v32s_get (l : List B32) (k : Nat) (h : k < l.length) : (v32s l)[k]? = some (v32 (l.getD k 0)) := by
  simp [v32s, h]
theorem v32s_set (l : List B32) (k : Nat) (x : B32) : (v32s l).setIfInBounds k (v32 x) = v32s (l.set k x) := by
  apply Array.ext'
  simp [v32s, List.map_set]

/-- the table as it lies. -/
def kVals : Array Value := #[.int .u32 1116352408, .int .u32 1899447441, .int .u32 3049323471, .int .u32 3921009573, .int .u32 961987163, .int .u32 1508970993, .int .u32 2453635748, .int .u32 2870763221, .int .u32 3624381080, .int .u32 310598401, .int .u32 607225278, .int .u32 1426881987, .int .u32 1925078388, .int .u32 2162078206, .int .u32 2614888103, .int .u32 3248222580, .int .u32 3835390401, .int .u32 4022224774, .int .u32 264347078, .int .u32 604807628, .int .u32 770255983, .int .u32 1249150122, .int .u32 1555081692, .int .u32 1996064986, .int .u32 2554220882, .int .u32 2821834349, .int .u32 2952996808, .int .u32 3210313671, .int .u32 3336571891, .int .u32 3584528711, .int .u32 113926993, .int .u32 338241895, .int .u32 666307205, .int .u32 773529912, .int .u32 1294757372, .int .u32 1396182291, .int .u32 1695183700, .int .u32 1986661051, .int .u32 2177026350, .int .u32 2456956037, .int .u32 2730485921, .int .u32 2820302411, .int .u32 3259730800, .int .u32 3345764771, .int .u32 3516065817, .int .u32 3600352804, .int .u32 4094571909, .int .u32 275423344, .int .u32 430227734, .int .u32 506948616, .int .u32 659060556, .int .u32 883997877, .int .u32 958139571, .int .u32 1322822218, .int .u32 1537002063, .int .u32 1747873779, .int .u32 1955562222, .int .u32 2024104815, .int .u32 2227730452, .int .u32 2361852424, .int .u32 2428436474, .int .u32 2756734187, .int .u32 3204031479, .int .u32 3329325298]
theorem kVals_eq : kVals = v32s kTab := by kernel_rfl
theorem hi64 : (Tryz.prog.info? 265).map (·.size) = some 64 := by kernel_rfl
theorem zero64 : ∃ Z : Array Value, (∀ w, (zeroValue 265).run Tryz.prog w = .ok (.agg Z) w) ∧ Z = v32s (List.replicate 64 0) := ⟨_, Tryz.zeroValue265, by rfl⟩

theorem size_kVals : kVals.size = 64 := by rfl
set_option maxRecDepth 100000 in
set_option maxHeartbeats 1000000 in
theorem table_any (w : World) : Calls Tryz.prog 161 #[] w fun e w' => e = .returned (.agg (v32s kTab)) ∧ Mod Non w w' := by
  have hi := hi64
  have h1 := v32s_one kTab
  have hks : (v32s kTab).size = 64 := by rw [v32s_size]; rfl
  obtain ⟨V, hV⟩ : ∃ V, v32s kTab = V := ⟨_, rfl⟩
  rw [hV] at h1 hks ⊢
  rw [← hks] at hi
  have HI := Lib.hid hi
  have H1 := Lib.hid h1
  have HK := Lib.hid hks
  have HV := Lib.hid hV
  clear hi h1 hks hV
  go_enter Tryz.func161, Tryz.ntmps161
  iterate 12 go_step
  refine wp_build _ _ rfl (by kernel_rfl) ?_
  generalize hbv : (Program.built _ _ _).getD #[] = U
  obtain rfl : U = V := by rw [← hbv, ← HV.out, ← kVals_eq]; kernel_rfl
  clear hbv
  iterate 2 go_step
  refine wp_store_row 265 (.tmp 0) (.tmp 1) rfl w.heap.size U rfl rfl 265 _ (Blk.new _ _ _) HI.out (by rw [HK.out]; rfl) H1.out ?_
  go_wp2_with fail
  refine bodyPost_ret (results_cell_row rfl _ _ w.heap.size 265 _ (0, 0) _ rfl ((Blk.new w _ _).row U) Tryz.underlying265 rfl HI.out) rfl ?_
  exact ⟨rfl, ((Mod.refl Non w).alloc _).setRow (.inr (Nat.le_refl _)) _⟩

end Go.Proofs.YtgnpmmhpeianpaaGreatDoor
