import Derived.Shelf.Small.Strs
import Derived.Shelf.Slices.Clone
import Derived.Shelf.Spec.SearchS
import Derived.Shelf.Spec.SlicesInsert
import Derived.Shelf.Spec.SlicesInsertGrow
import Derived.Test.YtlopccnehgolnadGreatDoorProg
namespace Go.Proofs
open Go.Shelf
def Tryz.stCmp_ren : Go.Shelf.Ren := ⟨fun | 106 => 54 | 213 => 80 | 265 => 104 | n => n,fun | 9 => 9 | 3 => 3 | n => n,fun | n => n⟩
theorem Tryz.stCmp : Go.Proofs.Lays.n106 Tryz.prog Tryz.stCmp_ren := {
 mixed := by kernel_rfl
 f106 := Tryz.func54.trans (congrArg some (by kernel_rfl))
 f213 := Tryz.func80.trans (congrArg some (by kernel_rfl))
 f265 := Tryz.func104.trans (congrArg some (by kernel_rfl))
 t3 := Tryz.underlying3
 a3 := Tryz.isAgg3
 z3 := Tryz.sizeOf3
 v3 := Tryz.zeroValue3
 t9 := Tryz.underlying9
 a9 := Tryz.isAgg9
 z9 := Tryz.sizeOf9
 v9 := Tryz.zeroValue9 }
def Tryz.stSearch_ren : Go.Shelf.Ren := ⟨fun | 26 => 30 | 33 => 59 | 34 => 60 | 38 => 82 | n => n,fun | 24 => 47 | 9 => 9 | 3 => 3 | 4 => 4 | 40 => 125 | 0 => 0 | n => n,fun | n => n⟩
theorem Tryz.stSearch : Go.Proofs.Lays2.n26 Tryz.prog Tryz.stSearch_ren := {
 mixed := by kernel_rfl
 f26 := Tryz.func30.trans (congrArg some (by kernel_rfl))
 f33 := Tryz.func59.trans (congrArg some (by kernel_rfl))
 f34 := Tryz.func60.trans (congrArg some (by kernel_rfl))
 f38 := Tryz.func82.trans (congrArg some (by kernel_rfl))
 t0 := Tryz.underlying0
 a0 := Tryz.isAgg0
 z0 := Tryz.sizeOf0
 v0 := Tryz.zeroValue0
 t3 := Tryz.underlying3
 a3 := Tryz.isAgg3
 z3 := Tryz.sizeOf3
 v3 := Tryz.zeroValue3
 t4 := Tryz.underlying4
 a4 := Tryz.isAgg4
 z4 := Tryz.sizeOf4
 v4 := Tryz.zeroValue4
 t9 := Tryz.underlying9
 a9 := Tryz.isAgg9
 z9 := Tryz.sizeOf9
 v9 := Tryz.zeroValue9
 t24 := Tryz.underlying47
 a24 := Tryz.isAgg47
 z24 := Tryz.sizeOf47
 v24 := Tryz.zeroValue47
 t40 := Tryz.underlying125
 a40 := Tryz.isAgg125
 z40 := Tryz.sizeOf125
 v40 := Tryz.zeroValue125 }
def Tryz.stInsert_ren : Go.Shelf.Ren := ⟨fun | 22 => 31 | 29 => 61 | 30 => 62 | 36 => 83 | 17 => 107 | n => n,fun | 24 => 47 | 9 => 9 | 3 => 3 | 4 => 4 | 0 => 0 | n => n,fun | n => n⟩
theorem Tryz.stInsert : Go.Proofs.Lays2.n22 Tryz.prog Tryz.stInsert_ren := {
 mixed := by kernel_rfl
 f17 := Tryz.func107.trans (congrArg some (by kernel_rfl))
 f22 := Tryz.func31.trans (congrArg some (by kernel_rfl))
 f29 := Tryz.func61.trans (congrArg some (by kernel_rfl))
 f30 := Tryz.func62.trans (congrArg some (by kernel_rfl))
 f36 := Tryz.func83.trans (congrArg some (by kernel_rfl))
 t0 := Tryz.underlying0
 a0 := Tryz.isAgg0
 z0 := Tryz.sizeOf0
 v0 := Tryz.zeroValue0
 t3 := Tryz.underlying3
 a3 := Tryz.isAgg3
 z3 := Tryz.sizeOf3
 v3 := Tryz.zeroValue3
 t4 := Tryz.underlying4
 a4 := Tryz.isAgg4
 z4 := Tryz.sizeOf4
 v4 := Tryz.zeroValue4
 t9 := Tryz.underlying9
 a9 := Tryz.isAgg9
 z9 := Tryz.sizeOf9
 v9 := Tryz.zeroValue9
 t24 := Tryz.underlying47
 a24 := Tryz.isAgg47
 z24 := Tryz.sizeOf47
 v24 := Tryz.zeroValue47
 i9 := by kernel_rfl }
