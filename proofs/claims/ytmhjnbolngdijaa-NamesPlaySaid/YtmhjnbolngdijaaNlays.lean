/- slices.Insert and slices.Delete over ints: the library's contracts at this program. -/
import Derived.Test.YtmhjnbolngdijaaChecked
import Derived.Shelf.Spec.SlicesInsertGrow
import Derived.Shelf.Slices.Delete
namespace Go.Proofs.Ytmhjnbolngdijaa
open Go Go.RowKit Go.Shelf
set_option linter.unusedVariables false
def insRen : Ren := ⟨fun | 21 => 61 | 27 => 70 | 28 => 71 | 35 => 74 | 39 => 75 | n => n, fun | 22 => 41 | 3 => 3 | 4 => 4 | 0 => 0 | n => n, fun n => n⟩
theorem insLays : Lays2.n21 Try.prog insRen := {
  mixed := by kernel_rfl
  f21 := Try.func61.trans (congrArg some (by kernel_rfl))
  f27 := Try.func70.trans (congrArg some (by kernel_rfl))
  f28 := Try.func71.trans (congrArg some (by kernel_rfl))
  f35 := Try.func74.trans (congrArg some (by kernel_rfl))
  f39 := Try.func75.trans (congrArg some (by kernel_rfl))
  t0 := Try.underlying0
  a0 := Try.isAgg0
  z0 := Try.sizeOf0
  v0 := Try.zeroValue0
  t3 := Try.underlying3
  a3 := Try.isAgg3
  z3 := Try.sizeOf3
  v3 := Try.zeroValue3
  t4 := Try.underlying4
  a4 := Try.isAgg4
  z4 := Try.sizeOf4
  v4 := Try.zeroValue4
  t22 := Try.underlying41
  a22 := Try.isAgg41
  z22 := Try.sizeOf41
  v22 := Try.zeroValue41
  i3 := by kernel_rfl }
def delRen : Ren := ⟨fun | 23 => 72 | n => n, fun | 22 => 41 | 3 => 3 | 4 => 4 | 0 => 0 | n => n, fun n => n⟩
theorem delLays : Lays2.n23 Try.prog delRen := {
  mixed := by kernel_rfl
  f23 := Try.func72.trans (congrArg some (by kernel_rfl))
  t0 := Try.underlying0
  a0 := Try.isAgg0
  z0 := Try.sizeOf0
  v0 := Try.zeroValue0
  t3 := Try.underlying3
  a3 := Try.isAgg3
  z3 := Try.sizeOf3
  v3 := Try.zeroValue3
  t4 := Try.underlying4
  a4 := Try.isAgg4
  z4 := Try.sizeOf4
  v4 := Try.zeroValue4
  t22 := Try.underlying41
  a22 := Try.isAgg41
  z22 := Try.sizeOf41
  v22 := Try.zeroValue41
  i3 := by kernel_rfl }
end Go.Proofs.Ytmhjnbolngdijaa
