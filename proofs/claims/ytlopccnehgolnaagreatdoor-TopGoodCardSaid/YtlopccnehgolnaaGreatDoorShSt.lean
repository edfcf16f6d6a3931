import Derived.Shelf.Small.Strs
import Derived.Shelf.Slices.Clone
import Derived.Shelf.Spec.SearchS
import Derived.Shelf.Spec.SlicesInsert
import Derived.Shelf.Spec.SlicesInsertGrow
import Derived.Test.YtlopccnehgolnaaGreatDoorProg
namespace Go.Proofs
open Go.Shelf
def Tryz.stCmp_ren : Go.Shelf.Ren := ⟨fun | 106 => 79 | 213 => 103 | 265 => 121 | n => n,fun | 9 => 9 | 3 => 3 | n => n,fun | n => n⟩
theorem Tryz.stCmp : Go.Proofs.Lays.n106 Tryz.prog Tryz.stCmp_ren := {
 mixed := by kernel_rfl
 f106 := Tryz.func79.trans (congrArg some (by kernel_rfl))
 f213 := Tryz.func103.trans (congrArg some (by kernel_rfl))
 f265 := Tryz.func121.trans (congrArg some (by kernel_rfl))
 t3 := Tryz.underlying3
 a3 := Tryz.isAgg3
 z3 := Tryz.sizeOf3
 v3 := Tryz.zeroValue3
 t9 := Tryz.underlying9
 a9 := Tryz.isAgg9
 z9 := Tryz.sizeOf9
 v9 := Tryz.zeroValue9 }
def Tryz.stSearch_ren : Go.Shelf.Ren := ⟨fun | 26 => 52 | 33 => 84 | 34 => 85 | 38 => 105 | n => n,fun | 24 => 46 | 9 => 9 | 3 => 3 | 4 => 4 | 40 => 148 | 0 => 0 | n => n,fun | n => n⟩
theorem Tryz.stSearch : Go.Proofs.Lays2.n26 Tryz.prog Tryz.stSearch_ren := {
 mixed := by kernel_rfl
 f26 := Tryz.func52.trans (congrArg some (by kernel_rfl))
 f33 := Tryz.func84.trans (congrArg some (by kernel_rfl))
 f34 := Tryz.func85.trans (congrArg some (by kernel_rfl))
 f38 := Tryz.func105.trans (congrArg some (by kernel_rfl))
 t0 := Tryz.underlying0
 a0 := Tryz.isAgg0
 z0 := Tryz.sizeOf0
 v0 := Tryz.zeroValue0
 t3 := Tryz.underlying3
 a3 := Tryz.isAgg3
 z3 := Tryz.sizeOf3
 v3 := Tryz.zeroValue3
 t4 := Tryz.underlying4
 a4 := Tryz.isAgg4
 z4 := Tryz.sizeOf4
 v4 := Tryz.zeroValue4
 t9 := Tryz.underlying9
 a9 := Tryz.isAgg9
 z9 := Tryz.sizeOf9
 v9 := Tryz.zeroValue9
 t24 := Tryz.underlying46
 a24 := Tryz.isAgg46
 z24 := Tryz.sizeOf46
 v24 := Tryz.zeroValue46
 t40 := Tryz.underlying148
 a40 := Tryz.isAgg148
 z40 := Tryz.sizeOf148
 v40 := Tryz.zeroValue148 }
def Tryz.stInsert_ren : Go.Shelf.Ren := ⟨fun | 22 => 53 | 29 => 86 | 30 => 87 | 36 => 106 | 17 => 124 | n => n,fun | 24 => 46 | 9 => 9 | 3 => 3 | 4 => 4 | 0 => 0 | n => n,fun | n => n⟩
theorem Tryz.stInsert : Go.Proofs.Lays2.n22 Tryz.prog Tryz.stInsert_ren := {
 mixed := by kernel_rfl
 f17 := Tryz.func124.trans (congrArg some (by kernel_rfl))
 f22 := Tryz.func53.trans (congrArg some (by kernel_rfl))
 f29 := Tryz.func86.trans (congrArg some (by kernel_rfl))
 f30 := Tryz.func87.trans (congrArg some (by kernel_rfl))
 f36 := Tryz.func106.trans (congrArg some (by kernel_rfl))
 t0 := Tryz.underlying0
 a0 := Tryz.isAgg0
 z0 := Tryz.sizeOf0
 v0 := Tryz.zeroValue0
 t3 := Tryz.underlying3
 a3 := Tryz.isAgg3
 z3 := Tryz.sizeOf3
 v3 := Tryz.zeroValue3
 t4 := Tryz.underlying4
 a4 := Tryz.isAgg4
 z4 := Tryz.sizeOf4
 v4 := Tryz.zeroValue4
 t9 := Tryz.underlying9
 a9 := Tryz.isAgg9
 z9 := Tryz.sizeOf9
 v9 := Tryz.zeroValue9
 t24 := Tryz.underlying46
 a24 := Tryz.isAgg46
 z24 := Tryz.sizeOf46
 v24 := Tryz.zeroValue46
 i9 := by kernel_rfl }
end Go.Proofs
