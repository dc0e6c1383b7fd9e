import Derived.Test.YthgdkakkbaoccaaDoorKeysSorted
/-! maps.Keys at a map of ints, laid. -/
namespace Go.Proofs.YthgdkakkbaoccaaDoor
open Go.RowKit Go.Maps Go.Sort Go.Shelf Go.Proofs
set_option linter.unusedVariables false
set_option linter.unusedSimpArgs false
def keysM_ren : Go.Shelf.Ren := ⟨fun | 7 => 75 | 10 => 88 | n => n, fun | 23 => 143 | 26 => 3 | 3 => 3 | 28 => 118 | 0 => 0 | 27 => 117 | 33 => 108 | 4 => 4 | n => n, fun  | n => n⟩
theorem keysM : Go.Proofs.SlLaysZI.n7 Tryd.prog keysM_ren := {
  mixed := by kernel_rfl
  f7 := ⟨Tryd.f75.name, by decide, Tryd.func75.trans (congrArg some (by kernel_rfl))⟩
  f10 := ⟨Tryd.f88.name, by decide, Tryd.func88.trans (congrArg some (by kernel_rfl))⟩
  t0 := Tryd.underlying0
  a0 := Tryd.isAgg0
  z0 := Tryd.sizeOf0
  v0 := Tryd.zeroValue0
  t4 := Tryd.underlying4
  a4 := Tryd.isAgg4
  z4 := Tryd.sizeOf4
  v4 := Tryd.zeroValue4
  t23 := Tryd.underlying143
  a23 := Tryd.isAgg143
  z23 := Tryd.sizeOf143
  v23 := Tryd.zeroValue143
  t26 := Tryd.underlying3
  a26 := Tryd.isAgg3
  z26 := Tryd.sizeOf3
  v26 := Tryd.zeroValue3
  t27 := Tryd.underlying117
  a27 := Tryd.isAgg117
  z27 := Tryd.sizeOf117
  v27 := Tryd.zeroValue117
  t28 := Tryd.underlying118
  a28 := Tryd.isAgg118
  z28 := Tryd.sizeOf118
  v28 := Tryd.zeroValue118
  t33 := Tryd.underlying108
  a33 := Tryd.isAgg108
  z33 := Tryd.sizeOf108
  v33 := Tryd.zeroValue108 }
end Go.Proofs.YthgdkakkbaoccaaDoor
