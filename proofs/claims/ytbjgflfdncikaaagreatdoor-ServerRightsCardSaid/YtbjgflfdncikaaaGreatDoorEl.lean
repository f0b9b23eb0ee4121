/-
  DERIVED: THE SHELF's CONTRACTS AT THIS DUMP, IN PLAIN WORDS (tools/lay-plain.mjs out of 'TryzLayIn.lean', which tools/lay-shelf.mjs wrote): THE SAME DECLARATIONS UNDER THE SAME NAMES: 'import', 'namespace', 'open', 'def', 'theorem' AND NOTHING ELSE: no command of the shelf's: FOR A HAND-IN. Each laying: the table of numbers ('.._ren') and one theorem, a field a fact of the dump's own or the kernel's comparison; each contract: ONE APPLICATION.
-/
import Derived.Shelf.SlIterI.Nil
import Derived.Shelf.SortM.Plain
import Derived.Shelf.SortM.SortNone
import Derived.Ground.GgzProg
import Derived.Ground.SlgmProg
import Derived.Shelf.SlGeneric
import Derived.Test.YtbjgflfdncikaaaGreatDoorProg
namespace Go.Proofs
open Go.Shelf
def Tryz.keysA_ren : Go.Shelf.Ren := ⟨fun | 7 => 72 | 10 => 123 | n => n, fun | 23 => 105 | 26 => 3 | 3 => 24 | 28 => 150 | 0 => 0 | 27 => 149 | 33 => 56 | 4 => 4 | n => n, fun | n => n⟩
theorem Tryz.keysA : Go.Proofs.SlLaysZI.n7 Tryz.prog Tryz.keysA_ren := {
  mixed := by kernel_rfl
  f7 := ⟨Tryz.f72.name, by decide, Tryz.func72.trans (congrArg some (by kernel_rfl))⟩
  f10 := ⟨Tryz.f123.name, by decide, Tryz.func123.trans (congrArg some (by kernel_rfl))⟩
  t0 := Tryz.underlying0
  a0 := Tryz.isAgg0
  z0 := Tryz.sizeOf0
  v0 := Tryz.zeroValue0
  t4 := Tryz.underlying4
  a4 := Tryz.isAgg4
  z4 := Tryz.sizeOf4
  v4 := Tryz.zeroValue4
  t23 := Tryz.underlying105
  a23 := Tryz.isAgg105
  z23 := Tryz.sizeOf105
  v23 := Tryz.zeroValue105
  t26 := Tryz.underlying3
  a26 := Tryz.isAgg3
  z26 := Tryz.sizeOf3
  v26 := Tryz.zeroValue3
  t27 := Tryz.underlying149
  a27 := Tryz.isAgg149
  z27 := Tryz.sizeOf149
  v27 := Tryz.zeroValue149
  t28 := Tryz.underlying150
  a28 := Tryz.isAgg150
  z28 := Tryz.sizeOf150
  v28 := Tryz.zeroValue150
  t33 := Tryz.underlying56
  a33 := Tryz.isAgg56
  z33 := Tryz.sizeOf56
  v33 := Tryz.zeroValue56 }
def Tryz.sortedA_ren : Go.Shelf.Ren := ⟨fun | 6 => 71 | 8 => 121 | 9 => 122 | 11 => 206 | 13 => 208 | 12 => 207 | 23 => 280 | 24 => 281 | 14 => 271 | 15 => 272 | 16 => 273 | 17 => 274 | 18 => 275 | 19 => 276 | 20 => 277 | 21 => 278 | 22 => 279 | 25 => 325 | 26 => 326 | 27 => 327 | 28 => 328 | 29 => 329 | 30 => 232 | 31 => 347 | n => n, fun | 26 => 3 | 28 => 150 | 24 => 93 | 0 => 0 | 3 => 3 | 37 => 60 | 48 => 336 | 50 => 338 | 4 => 4 | 40 => 329 | 39 => 328 | 45 => 81 | 5 => 5 | 9 => 9 | 51 => 374 | 55 => 378 | 57 => 393 | 58 => 394 | 33 => 56 | n => n, fun | n => n⟩
theorem Tryz.sortedA : Go.Proofs.SlLaysZI.n6 Tryz.prog Tryz.sortedA_ren := {
  mixed := by kernel_rfl
  f6 := ⟨Tryz.f71.name, by decide, Tryz.func71.trans (congrArg some (by kernel_rfl))⟩
  f8 := ⟨Tryz.f121.name, by decide, Tryz.func121.trans (congrArg some (by kernel_rfl))⟩
  f11 := ⟨Tryz.f206.name, by decide, Tryz.func206.trans (congrArg some (by kernel_rfl))⟩
  t0 := Tryz.underlying0
  a0 := Tryz.isAgg0
  z0 := Tryz.sizeOf0
  v0 := Tryz.zeroValue0
  t24 := Tryz.underlying93
  a24 := Tryz.isAgg93
  z24 := Tryz.sizeOf93
  v24 := Tryz.zeroValue93
  t26 := Tryz.underlying3
  a26 := Tryz.isAgg3
  z26 := Tryz.sizeOf3
  v26 := Tryz.zeroValue3
  t28 := Tryz.underlying150
  a28 := Tryz.isAgg150
  z28 := Tryz.sizeOf150
  v28 := Tryz.zeroValue150
  i26 := by kernel_rfl }
def Tryz.sortA_ren : Go.Shelf.Ren := ⟨fun | 5 => 122 | 8 => 208 | 7 => 207 | 19 => 280 | 20 => 281 | 10 => 271 | 11 => 272 | 12 => 273 | 13 => 274 | 14 => 275 | 15 => 276 | 16 => 277 | 17 => 278 | 18 => 279 | 30 => 325 | 31 => 326 | 32 => 327 | 33 => 328 | 34 => 329 | 35 => 232 | 40 => 347 | n => n, fun | 23 => 93 | 25 => 3 | 3 => 3 | 32 => 60 | 22 => 93 | 0 => 0 | 44 => 336 | 46 => 338 | 4 => 4 | 36 => 329 | 35 => 328 | 41 => 81 | 5 => 5 | 9 => 9 | 53 => 374 | 57 => 378 | 63 => 393 | 64 => 394 | n => n, fun | n => n⟩
theorem Tryz.sortA : Go.Proofs.SlLaysM.n5 Tryz.prog Tryz.sortA_ren := {
  mixed := by kernel_rfl
  f5 := ⟨Tryz.f122.name, by decide, Tryz.func122.trans (congrArg some (by kernel_rfl))⟩
  f7 := ⟨Tryz.f207.name, by decide, Tryz.func207.trans (congrArg some (by kernel_rfl))⟩
  f8 := Tryz.func208.trans (congrArg some (by kernel_rfl))
  f10 := ⟨Tryz.f271.name, by decide, Tryz.func271.trans (congrArg some (by kernel_rfl))⟩
  f11 := ⟨Tryz.f272.name, by decide, Tryz.func272.trans (congrArg some (by kernel_rfl))⟩
  f12 := ⟨Tryz.f273.name, by decide, Tryz.func273.trans (congrArg some (by kernel_rfl))⟩
  f13 := ⟨Tryz.f274.name, by decide, Tryz.func274.trans (congrArg some (by kernel_rfl))⟩
  f14 := ⟨Tryz.f275.name, by decide, Tryz.func275.trans (congrArg some (by kernel_rfl))⟩
  f15 := ⟨Tryz.f276.name, by decide, Tryz.func276.trans (congrArg some (by kernel_rfl))⟩
  f16 := ⟨Tryz.f277.name, by decide, Tryz.func277.trans (congrArg some (by kernel_rfl))⟩
  f17 := ⟨Tryz.f278.name, by decide, Tryz.func278.trans (congrArg some (by kernel_rfl))⟩
  f18 := ⟨Tryz.f279.name, by decide, Tryz.func279.trans (congrArg some (by kernel_rfl))⟩
  f19 := Tryz.func280.trans (congrArg some (by kernel_rfl))
  f20 := Tryz.func281.trans (congrArg some (by kernel_rfl))
  f30 := ⟨Tryz.f325.name, by decide, Tryz.func325.trans (congrArg some (by kernel_rfl))⟩
  f31 := Tryz.func326.trans (congrArg some (by kernel_rfl))
  f32 := Tryz.func327.trans (congrArg some (by kernel_rfl))
  f33 := ⟨Tryz.f328.name, by decide, Tryz.func328.trans (congrArg some (by kernel_rfl))⟩
  f34 := ⟨Tryz.f329.name, by decide, Tryz.func329.trans (congrArg some (by kernel_rfl))⟩
  f35 := ⟨Tryz.f232.name, by decide, Tryz.func232.trans (congrArg some (by kernel_rfl))⟩
  f40 := ⟨Tryz.f347.name, by decide, Tryz.func347.trans (congrArg some (by kernel_rfl))⟩
  t0 := Tryz.underlying0
  a0 := Tryz.isAgg0
  z0 := Tryz.sizeOf0
  v0 := Tryz.zeroValue0
  t3 := Tryz.underlying3
  a3 := Tryz.isAgg3
  z3 := Tryz.sizeOf3
  v3 := Tryz.zeroValue3
  t4 := Tryz.underlying4
  a4 := Tryz.isAgg4
  z4 := Tryz.sizeOf4
  v4 := Tryz.zeroValue4
  t5 := Tryz.underlying5
  a5 := Tryz.isAgg5
  z5 := Tryz.sizeOf5
  v5 := Tryz.zeroValue5
  t9 := Tryz.underlying9
  a9 := Tryz.isAgg9
  z9 := Tryz.sizeOf9
  v9 := Tryz.zeroValue9
  t22 := Tryz.underlying93
  a22 := Tryz.isAgg93
  z22 := Tryz.sizeOf93
  v22 := Tryz.zeroValue93
  t23 := Tryz.underlying93
  a23 := Tryz.isAgg93
  z23 := Tryz.sizeOf93
  v23 := Tryz.zeroValue93
  t25 := Tryz.underlying3
  a25 := Tryz.isAgg3
  z25 := Tryz.sizeOf3
  v25 := Tryz.zeroValue3
  t32 := Tryz.underlying60
  a32 := Tryz.isAgg60
  z32 := Tryz.sizeOf60
  v32 := Tryz.zeroValue60
  t35 := Tryz.underlying328
  a35 := Tryz.isAgg328
  z35 := Tryz.sizeOf328
  v35 := Tryz.zeroValue328
  t36 := Tryz.underlying329
  a36 := Tryz.isAgg329
  z36 := Tryz.sizeOf329
  v36 := Tryz.zeroValue329
  t41 := Tryz.underlying81
  a41 := Tryz.isAgg81
  z41 := Tryz.sizeOf81
  v41 := Tryz.zeroValue81
  t44 := Tryz.underlying336
  a44 := Tryz.isAgg336
  z44 := Tryz.sizeOf336
  v44 := Tryz.zeroValue336
  t46 := Tryz.underlying338
  a46 := Tryz.isAgg338
  z46 := Tryz.sizeOf338
  v46 := Tryz.zeroValue338
  t53 := Tryz.underlying374
  a53 := Tryz.isAgg374
  z53 := Tryz.sizeOf374
  v53 := Tryz.zeroValue374
  t57 := Tryz.underlying378
  a57 := Tryz.isAgg378
  z57 := Tryz.sizeOf378
  v57 := Tryz.zeroValue378
  t63 := Tryz.underlying393
  a63 := Tryz.isAgg393
  z63 := Tryz.sizeOf393
  v63 := Tryz.zeroValue393
  t64 := Tryz.underlying394
  a64 := Tryz.isAgg394
  z64 := Tryz.sizeOf394
  v64 := Tryz.zeroValue394 }
end Go.Proofs
