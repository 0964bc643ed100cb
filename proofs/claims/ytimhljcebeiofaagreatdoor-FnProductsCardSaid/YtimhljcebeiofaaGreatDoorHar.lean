/- The harness of the laws: copies, sizes, comparisons, marks. -/
import Derived.Test.YtimhljcebeiofaaGreatDoorBase
import Derived.Handy
import Derived.WideShapes
namespace Go.Proofs.YtimhljcebeiofaaGreatDoor
set_option linter.unusedSimpArgs false
set_option linter.unusedVariables false
open Go.RowKit
theorem bs_ne {x y : ByteArray} (h : (!(x.toList == y.toList)) = true) : x ≠ y := by
  rintro rfl
  simp at h
theorem bs_eq {x y : ByteArray} (h : (!(x.toList == y.toList)) = false) : x = y := by
  have h1 : x.toList = y.toList := by simpa using h
  rw [ByteArray.toList_eq, ByteArray.toList_eq] at h1
  exact Go.WideShapes.bytes_inj h1
theorem info_Int64S : (Tryz.prog.info? 2).map (fun i => (i.zero, i.size, i.bytes)) = some (some (.int .i64 0), 1, 8) := by kernel_rfl
theorem info_Float32S : (Tryz.prog.info? 28).map (fun i => (i.zero, i.size, i.bytes)) = some (some (.float .f32 0), 1, 4) := by kernel_rfl

end Go.Proofs.YtimhljcebeiofaaGreatDoor
