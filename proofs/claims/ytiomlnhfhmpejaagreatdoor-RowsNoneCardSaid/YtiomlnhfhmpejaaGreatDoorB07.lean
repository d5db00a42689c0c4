/- the table of the library's that strconv.Itoa reads. -/
import Derived.Test.YtiomlnhfhmpejaaGreatDoorB01
import Derived.Test.YtiomlnhfhmpejaaGreatDoorChecked
import Derived.Lib.LaidTab
import Derived.Lib.ItoaNum
namespace Go.Proofs.YtiomlnhfhmpejaaGreatDoor
open Go.RowKit

/-- the table of the library's that strconv.Itoa reads. -/
def Lay (w : World) : Prop := Lib.TabIs Tryz.prog w "internal/strconv.uint64pow10" .u64 Lib.pow10Tab
/-- the block of that table. -/
def powG : Nat := 3
theorem powG_is : Tryz.prog.globalNamed "internal/strconv.uint64pow10" = some powG := by kernel_rfl

theorem Lay.lt {w : World} (h : Lay w) : powG < w.heap.size := World.block_lt_of_cell? w ⟨powG, 0, none⟩ (Lib.TabIs.cell h powG_is 0 (by decide))
theorem Lay.mod {S : Nat → Prop} {w w' : World} (h : Lay w) (hm : Mod S w w') (hS : ¬ S powG) : Lay w' := by
  have hb := hm.block powG h.lt hS
  unfold Lay Lib.TabIs at h ⊢
  unfold World.var? at h ⊢
  rw [powG_is] at h ⊢
  simpa [hb] using h
theorem Lay.mod0 {w w' : World} (h : Lay w) (hm : Mod Non w w') : Lay w' := h.mod hm fun h => h

end Go.Proofs.YtiomlnhfhmpejaaGreatDoor
