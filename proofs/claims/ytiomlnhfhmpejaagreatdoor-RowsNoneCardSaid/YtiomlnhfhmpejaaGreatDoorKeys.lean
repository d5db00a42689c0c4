/-
  DERIVED: THE SHELF's CONTRACTS AT THIS DUMP, IN PLAIN WORDS (tools/lay-plain.mjs out of 'TryzKeys.lean', which tools/lay-shelf.mjs wrote): THE SAME DECLARATIONS UNDER THE SAME NAMES: 'import', 'namespace', 'open', 'def', 'theorem' AND NOTHING ELSE: no command of the shelf's: FOR A HAND-IN. Each laying: the table of numbers ('.._ren') and one theorem, a field a fact of the dump's own or the kernel's comparison; each contract: ONE APPLICATION.
-/
import Derived.Shelf.SlGeneric
import Derived.Shelf.SlIter.Nil
import Derived.Ground.GgzProg
import Derived.Test.YtiomlnhfhmpejaaGreatDoorProg
namespace Go.Proofs
open Go.Shelf
def Tryz.keys149_ren : Go.Shelf.Ren := ⟨fun | 7 => 149 | 10 => 211 | n => n, fun | 23 => 87 | 26 => 9 | 3 => 240 | 28 => 266 | 0 => 0 | 27 => 265 | 33 => 158 | 4 => 4 | n => n, fun | n => n⟩
theorem Tryz.keys149 : Go.Proofs.SlLaysZ.n7 Tryz.prog Tryz.keys149_ren := {
  mixed := by kernel_rfl
  f7 := ⟨Tryz.f149.name, by decide, Tryz.func149.trans (congrArg some (by kernel_rfl))⟩
  f10 := ⟨Tryz.f211.name, by decide, Tryz.func211.trans (congrArg some (by kernel_rfl))⟩
  t0 := Tryz.underlying0
  a0 := Tryz.isAgg0
  z0 := Tryz.sizeOf0
  v0 := Tryz.zeroValue0
  t4 := Tryz.underlying4
  a4 := Tryz.isAgg4
  z4 := Tryz.sizeOf4
  v4 := Tryz.zeroValue4
  t23 := Tryz.underlying87
  a23 := Tryz.isAgg87
  z23 := Tryz.sizeOf87
  v23 := Tryz.zeroValue87
  t26 := Tryz.underlying9
  a26 := Tryz.isAgg9
  z26 := Tryz.sizeOf9
  v26 := Tryz.zeroValue9
  t27 := Tryz.underlying265
  a27 := Tryz.isAgg265
  z27 := Tryz.sizeOf265
  v27 := Tryz.zeroValue265
  t28 := Tryz.underlying266
  a28 := Tryz.isAgg266
  z28 := Tryz.sizeOf266
  v28 := Tryz.zeroValue266
  t33 := Tryz.underlying158
  a33 := Tryz.isAgg158
  z33 := Tryz.sizeOf158
  v33 := Tryz.zeroValue158 }
def Tryz.sorted148_ren : Go.Shelf.Ren := ⟨fun | 6 => 148 | 8 => 209 | 9 => 210 | 11 => 259 | 13 => 261 | 12 => 260 | 23 => 290 | 24 => 291 | 14 => 281 | 15 => 282 | 16 => 283 | 17 => 284 | 18 => 285 | 19 => 286 | 20 => 287 | 21 => 288 | 22 => 289 | 25 => 306 | 26 => 307 | 27 => 308 | 28 => 309 | 29 => 310 | 30 => 311 | 31 => 324 | n => n, fun | 26 => 9 | 28 => 266 | 24 => 43 | 0 => 0 | 3 => 3 | 37 => 276 | 48 => 251 | 50 => 239 | 4 => 4 | 40 => 380 | 39 => 379 | 45 => 167 | 5 => 5 | 9 => 9 | 51 => 399 | 55 => 403 | 57 => 415 | 58 => 416 | 33 => 158 | n => n, fun | n => n⟩
theorem Tryz.sorted148 : Go.Proofs.SlLaysZ.n6 Tryz.prog Tryz.sorted148_ren := {
  mixed := by kernel_rfl
  f6 := ⟨Tryz.f148.name, by decide, Tryz.func148.trans (congrArg some (by kernel_rfl))⟩
  f8 := ⟨Tryz.f209.name, by decide, Tryz.func209.trans (congrArg some (by kernel_rfl))⟩
  f11 := ⟨Tryz.f259.name, by decide, Tryz.func259.trans (congrArg some (by kernel_rfl))⟩
  t0 := Tryz.underlying0
  a0 := Tryz.isAgg0
  z0 := Tryz.sizeOf0
  v0 := Tryz.zeroValue0
  t24 := Tryz.underlying43
  a24 := Tryz.isAgg43
  z24 := Tryz.sizeOf43
  v24 := Tryz.zeroValue43
  t26 := Tryz.underlying9
  a26 := Tryz.isAgg9
  z26 := Tryz.sizeOf9
  v26 := Tryz.zeroValue9
  t28 := Tryz.underlying266
  a28 := Tryz.isAgg266
  z28 := Tryz.sizeOf266
  v28 := Tryz.zeroValue266
  i26 := by kernel_rfl }
end Go.Proofs
