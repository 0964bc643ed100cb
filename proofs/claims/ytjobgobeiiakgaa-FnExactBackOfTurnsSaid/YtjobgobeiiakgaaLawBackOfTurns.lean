/- The walk of the law FnExactBackOfTurns, out of the contracts of what it calls. -/
import Derived.Test.YtjobgobeiiakgaaBks
import Derived.Deep.RegionHeld3
namespace Go.Proofs.Ytjobgobeiiakgaa
set_option linter.unusedSimpArgs false
set_option linter.unusedVariables false
open Go.RowKit

set_option maxHeartbeats 4000000 in
theorem law_BackOfTurns (w : World) (aLast : ByteArray) (haLast : aLast.size ≤ 9223372036854775807) (aAt : Int) (haAt : I64 aAt) :
    Calls Try.prog 4 #[.string aLast, .int .i64 aAt] w fun e w' => e = .returned (.bool true) ∧ Below w.heap.size w w' := by
  by_cases z0 : aLast.size ≤ 1048576
  · go_enter Try.func4, Try.ntmps4
    go_wp2_with fail
    have hF : Fr w w := by (show Below _ _ _); go_grown
    generalize hO : out_BackOfTurns aLast aAt = o
    obtain ⟨o0, o1⟩ := o
    have HO := Lib.hid hO
    clear hO
    refine (spec_BackOfTurns _ aLast haLast (by omega) aAt haAt).mono ?_
    rw [HO.out]
    try dsimp only
    rintro e W1 ⟨rfl, hb⟩
    replace hF := Fr.step hF hb
    clear hb
    have hE := Fr.refl W1
    have hFE := hF
    go_wp2_with fail
    refine (impl_BackOfTurns _ aLast haLast (by omega) aAt haAt).mono ?_
    rw [HO.out]
    try dsimp only
    rintro e W2 ⟨rfl, hb⟩
    replace hF := Fr.step hF hb
    replace hE := Fr.step hE hb
    clear hb
    go_wp2_with fail
    go_ret
    exact ⟨rfl, hF⟩
  · go_enter Try.func4, Try.ntmps4
    go_wp2_with fail
    have hF : Fr w w := by (show Below _ _ _); go_grown
    go_ret
    exact ⟨rfl, hF⟩

end Go.Proofs.Ytjobgobeiiakgaa
