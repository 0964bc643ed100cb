/- The library's numbers to the base 16: ParseUint. -/
import Derived.Test.YtimhljcebeiofaaGreatDoorPrF
namespace Go.Proofs.YtimhljcebeiofaaGreatDoor
set_option linter.unusedSimpArgs false
set_option linter.unusedVariables false
open Go.RowKit

set_option maxHeartbeats 400000 in
theorem lower_any (c r : Nat) (h : bits BinOp.or IntKind.u8 (c : Int) 32 = (r : Int)) (w : World) : Calls Tryz.prog 88 #[.int .u8 (c : Int)] w fun e w' => e = .returned (.int .u8 (r : Int)) ∧ w = w' := by
  go_enter Tryz.func88, Tryz.ntmps88
  go_wp2
  go_ret
  exact ⟨rfl, rfl⟩
/-- '[]byte(s)': a new row of the text's bytes. -/
theorem str_bytes (l : List UInt8) (w : World) : ∃ (cap : Nat) (W1 : World), (convert 9 22 (.string ⟨l.toArray⟩)).run Tryz.prog w = .ok (.slice (some ⟨w.heap.size, 0, none⟩) l.length cap) W1 ∧ Below w.heap.size w W1 ∧ ∀ j, j < l.length → W1.cell? ⟨w.heap.size, j, none⟩ = some (.int .u8 (((l[j]?.getD 0).toNat : Nat) : Int)) := by
  have r := run_bytes_of_string (P := Tryz.prog) w 9 22 5 ⟨l.toArray⟩ Tryz.underlying9 Tryz.underlying22 Tryz.underlying5
  rw [show ({ data := l.toArray } : ByteArray).size = l.length from rfl] at r
  refine ⟨_, _, r, ((Below.refl _ _).trans (((Qu.refl w).drewN 1).keep)).alloc (by simp) _, fun j hj => ?_⟩
  have hb := bytesRow_at (⟨l.toArray⟩ : ByteArray) (grownCap w l.length 0 5) j (by simpa using hj)
  rw [List.getElem?_eq_getElem hj]
  have hm := World.cell?_alloc_mark w.drew (bytesRow (⟨l.toArray⟩ : ByteArray) (grownCap w l.length 0 5)) 5 ((bytesRow (⟨l.toArray⟩ : ByteArray) (grownCap w l.length 0 5)).size, (bytesRow (⟨l.toArray⟩ : ByteArray) (grownCap w l.length 0 5)).size + 1) j
  rw [hb] at hm
  exact hm

end Go.Proofs.YtimhljcebeiofaaGreatDoor
