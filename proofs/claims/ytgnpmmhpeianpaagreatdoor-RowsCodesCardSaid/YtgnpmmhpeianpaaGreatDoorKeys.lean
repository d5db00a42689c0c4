/-
  DERIVED: THE SHELF's CONTRACTS AT THIS DUMP, IN PLAIN WORDS (tools/lay-plain.mjs out of 'TryzKeys.lean', which tools/lay-shelf.mjs wrote): THE SAME DECLARATIONS UNDER THE SAME NAMES: 'import', 'namespace', 'open', 'def', 'theorem' AND NOTHING ELSE: no command of the shelf's: FOR A HAND-IN. Each laying: the table of numbers ('.._ren') and one theorem, a field a fact of the dump's own or the kernel's comparison; each contract: ONE APPLICATION.
-/
import Derived.Shelf.SlGeneric
import Derived.Shelf.SlIter.Nil
import Derived.Ground.GgzProg
import Derived.Test.YtgnpmmhpeianpaaGreatDoorProg
namespace Go.Proofs
open Go.Shelf
def Tryz.keys184_ren : Go.Shelf.Ren := ⟨fun | 7 => 184 | 10 => 240 | n => n, fun | 23 => 114 | 26 => 9 | 3 => 273 | 28 => 298 | 0 => 0 | 27 => 297 | 33 => 180 | 4 => 4 | n => n, fun | n => n⟩
theorem Tryz.keys184 : Go.Proofs.SlLaysZ.n7 Tryz.prog Tryz.keys184_ren := {
  mixed := by kernel_rfl
  f7 := ⟨Tryz.f184.name, by decide, Tryz.func184.trans (congrArg some (by kernel_rfl))⟩
  f10 := ⟨Tryz.f240.name, by decide, Tryz.func240.trans (congrArg some (by kernel_rfl))⟩
  t0 := Tryz.underlying0
  a0 := Tryz.isAgg0
  z0 := Tryz.sizeOf0
  v0 := Tryz.zeroValue0
  t4 := Tryz.underlying4
  a4 := Tryz.isAgg4
  z4 := Tryz.sizeOf4
  v4 := Tryz.zeroValue4
  t23 := Tryz.underlying114
  a23 := Tryz.isAgg114
  z23 := Tryz.sizeOf114
  v23 := Tryz.zeroValue114
  t26 := Tryz.underlying9
  a26 := Tryz.isAgg9
  z26 := Tryz.sizeOf9
  v26 := Tryz.zeroValue9
  t27 := Tryz.underlying297
  a27 := Tryz.isAgg297
  z27 := Tryz.sizeOf297
  v27 := Tryz.zeroValue297
  t28 := Tryz.underlying298
  a28 := Tryz.isAgg298
  z28 := Tryz.sizeOf298
  v28 := Tryz.zeroValue298
  t33 := Tryz.underlying180
  a33 := Tryz.isAgg180
  z33 := Tryz.sizeOf180
  v33 := Tryz.zeroValue180 }
def Tryz.sorted183_ren : Go.Shelf.Ren := ⟨fun | 6 => 183 | 8 => 238 | 9 => 239 | 11 => 284 | 13 => 286 | 12 => 285 | 23 => 314 | 24 => 315 | 14 => 305 | 15 => 306 | 16 => 307 | 17 => 308 | 18 => 309 | 19 => 310 | 20 => 311 | 21 => 312 | 22 => 313 | 25 => 330 | 26 => 331 | 27 => 332 | 28 => 333 | 29 => 334 | 30 => 335 | 31 => 348 | n => n, fun | 26 => 9 | 28 => 298 | 24 => 24 | 0 => 0 | 3 => 3 | 37 => 107 | 48 => 183 | 50 => 186 | 4 => 4 | 40 => 403 | 39 => 402 | 45 => 201 | 5 => 5 | 9 => 9 | 51 => 422 | 55 => 426 | 57 => 437 | 58 => 438 | 33 => 180 | n => n, fun | n => n⟩
theorem Tryz.sorted183 : Go.Proofs.SlLaysZ.n6 Tryz.prog Tryz.sorted183_ren := {
  mixed := by kernel_rfl
  f6 := ⟨Tryz.f183.name, by decide, Tryz.func183.trans (congrArg some (by kernel_rfl))⟩
  f8 := ⟨Tryz.f238.name, by decide, Tryz.func238.trans (congrArg some (by kernel_rfl))⟩
  f11 := ⟨Tryz.f284.name, by decide, Tryz.func284.trans (congrArg some (by kernel_rfl))⟩
  t0 := Tryz.underlying0
  a0 := Tryz.isAgg0
  z0 := Tryz.sizeOf0
  v0 := Tryz.zeroValue0
  t24 := Tryz.underlying24
  a24 := Tryz.isAgg24
  z24 := Tryz.sizeOf24
  v24 := Tryz.zeroValue24
  t26 := Tryz.underlying9
  a26 := Tryz.isAgg9
  z26 := Tryz.sizeOf9
  v26 := Tryz.zeroValue9
  t28 := Tryz.underlying298
  a28 := Tryz.isAgg298
  z28 := Tryz.sizeOf298
  v28 := Tryz.zeroValue298
  i26 := by kernel_rfl }
end Go.Proofs
