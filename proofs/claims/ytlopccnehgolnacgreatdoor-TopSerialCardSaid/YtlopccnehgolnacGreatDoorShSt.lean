import Derived.Shelf.Small.Strs
import Derived.Shelf.Slices.Clone
import Derived.Shelf.Spec.SearchS
import Derived.Shelf.Spec.SlicesInsert
import Derived.Shelf.Spec.SlicesInsertGrow
import Derived.Test.YtlopccnehgolnacGreatDoorProg
namespace Go.Proofs
open Go.Shelf
def Tryz.stCmp_ren : Go.Shelf.Ren := ⟨fun | 106 => 82 | 213 => 110 | 265 => 133 | n => n,fun | 9 => 9 | 3 => 3 | n => n,fun | n => n⟩
theorem Tryz.stCmp : Go.Proofs.Lays.n106 Tryz.prog Tryz.stCmp_ren := {
 mixed := by kernel_rfl
 f106 := Tryz.func82.trans (congrArg some (by kernel_rfl))
 f213 := Tryz.func110.trans (congrArg some (by kernel_rfl))
 f265 := Tryz.func133.trans (congrArg some (by kernel_rfl))
 t3 := Tryz.underlying3
 a3 := Tryz.isAgg3
 z3 := Tryz.sizeOf3
 v3 := Tryz.zeroValue3
 t9 := Tryz.underlying9
 a9 := Tryz.isAgg9
 z9 := Tryz.sizeOf9
 v9 := Tryz.zeroValue9 }
def Tryz.stSearch_ren : Go.Shelf.Ren := ⟨fun | 26 => 60 | 33 => 91 | 34 => 92 | 38 => 115 | n => n,fun | 24 => 39 | 9 => 9 | 3 => 3 | 4 => 4 | 40 => 158 | 0 => 0 | n => n,fun | n => n⟩
theorem Tryz.stSearch : Go.Proofs.Lays2.n26 Tryz.prog Tryz.stSearch_ren := {
 mixed := by kernel_rfl
 f26 := Tryz.func60.trans (congrArg some (by kernel_rfl))
 f33 := Tryz.func91.trans (congrArg some (by kernel_rfl))
 f34 := Tryz.func92.trans (congrArg some (by kernel_rfl))
 f38 := Tryz.func115.trans (congrArg some (by kernel_rfl))
 t0 := Tryz.underlying0
 a0 := Tryz.isAgg0
 z0 := Tryz.sizeOf0
 v0 := Tryz.zeroValue0
 t3 := Tryz.underlying3
 a3 := Tryz.isAgg3
 z3 := Tryz.sizeOf3
 v3 := Tryz.zeroValue3
 t4 := Tryz.underlying4
 a4 := Tryz.isAgg4
 z4 := Tryz.sizeOf4
 v4 := Tryz.zeroValue4
 t9 := Tryz.underlying9
 a9 := Tryz.isAgg9
 z9 := Tryz.sizeOf9
 v9 := Tryz.zeroValue9
 t24 := Tryz.underlying39
 a24 := Tryz.isAgg39
 z24 := Tryz.sizeOf39
 v24 := Tryz.zeroValue39
 t40 := Tryz.underlying158
 a40 := Tryz.isAgg158
 z40 := Tryz.sizeOf158
 v40 := Tryz.zeroValue158 }
def Tryz.stInsert_ren : Go.Shelf.Ren := ⟨fun | 22 => 61 | 29 => 93 | 30 => 94 | 36 => 116 | 17 => 140 | n => n,fun | 24 => 39 | 9 => 9 | 3 => 3 | 4 => 4 | 0 => 0 | n => n,fun | n => n⟩
theorem Tryz.stInsert : Go.Proofs.Lays2.n22 Tryz.prog Tryz.stInsert_ren := {
 mixed := by kernel_rfl
 f17 := Tryz.func140.trans (congrArg some (by kernel_rfl))
 f22 := Tryz.func61.trans (congrArg some (by kernel_rfl))
 f29 := Tryz.func93.trans (congrArg some (by kernel_rfl))
 f30 := Tryz.func94.trans (congrArg some (by kernel_rfl))
 f36 := Tryz.func116.trans (congrArg some (by kernel_rfl))
 t0 := Tryz.underlying0
 a0 := Tryz.isAgg0
 z0 := Tryz.sizeOf0
 v0 := Tryz.zeroValue0
 t3 := Tryz.underlying3
 a3 := Tryz.isAgg3
 z3 := Tryz.sizeOf3
 v3 := Tryz.zeroValue3
 t4 := Tryz.underlying4
 a4 := Tryz.isAgg4
 z4 := Tryz.sizeOf4
 v4 := Tryz.zeroValue4
 t9 := Tryz.underlying9
 a9 := Tryz.isAgg9
 z9 := Tryz.sizeOf9
 v9 := Tryz.zeroValue9
 t24 := Tryz.underlying39
 a24 := Tryz.isAgg39
 z24 := Tryz.sizeOf39
 v24 := Tryz.zeroValue39
 i9 := by kernel_rfl }
