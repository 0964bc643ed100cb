/- The walk of the law FnExactTurnsOf, out of the contracts of what it calls. -/
import Derived.Test.YtjobgobeiiakgaaTrx
import Derived.Deep.RegionHeld3
namespace Go.Proofs.Ytjobgobeiiakgaa
set_option linter.unusedSimpArgs false
set_option linter.unusedVariables false
open Go.RowKit

set_option maxHeartbeats 4000000 in
theorem law_TurnsOf (w : World) (aText : ByteArray) (haText : aText.size ≤ 9223372036854775807) :
    Calls Try.prog 3 #[.string aText] w fun e w' => e = .returned (.bool true) ∧ Below w.heap.size w w' := by
  by_cases z0 : aText.size ≤ 1048576
  · go_enter Try.func3, Try.ntmps3
    go_wp2_with fail
    have hF : Fr w w := by (show Below _ _ _); go_grown
    generalize hO : out_TurnsOf aText = o
    obtain ⟨o0, o1, o2⟩ := o
    have HO := Lib.hid hO
    clear hO
    refine (spec_TurnsOf _ aText haText (by omega)).mono ?_
    rw [HO.out]
    try dsimp only
    rintro e W1 ⟨rfl, hb⟩
    replace hF := Fr.step hF hb
    clear hb
    have hE := Fr.refl W1
    have hFE := hF
    go_wp2_with fail
    refine (impl_TurnsOf _ aText haText (by omega)).mono ?_
    rw [HO.out]
    try dsimp only
    rintro e W2 ⟨rfl, hb⟩
    replace hF := Fr.step hF hb
    replace hE := Fr.step hE hb
    clear hb
    go_wp2_with fail
    go_ret
    exact ⟨rfl, hF⟩
  · go_enter Try.func3, Try.ntmps3
    go_wp2_with fail
    have hF : Fr w w := by (show Below _ _ _); go_grown
    go_ret
    exact ⟨rfl, hF⟩

end Go.Proofs.Ytjobgobeiiakgaa
