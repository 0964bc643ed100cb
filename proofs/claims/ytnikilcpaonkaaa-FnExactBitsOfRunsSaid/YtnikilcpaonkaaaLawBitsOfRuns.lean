/- The walk of the law FnExactBitsOfRuns, out of the contracts of what it calls. -/
import Derived.Test.YtnikilcpaonkaaaBld
import Derived.Deep.RegionHeld3
namespace Go.Proofs.Ytnikilcpaonkaaa
open Go.RowKit

set_option maxHeartbeats 4000000 in
theorem law_BitsOfRuns (w : World) (aFirst : Bool) (aaRuns : Option Addr) (caRuns : Nat) (aRuns : List Int) (maRuns : aRuns.length ≤ caRuns ∧ caRuns ≤ 9223372036854775807) (saRuns : SlR w (.slice aaRuns aRuns.length caRuns) (aRuns.map (Value.int .i64))) (xaRuns : ∀ x ∈ aRuns, I64 x) :
    Calls Try.prog 5 #[.bool aFirst, .slice aaRuns aRuns.length caRuns] w fun e w' => e = .returned (.bool true) ∧ Below w.heap.size w w' := by
  by_cases z0 : aRuns.length ≤ 1048576
  · go_enter Try.func5, Try.ntmps5
    go_wp2_with fail
    have hF : Fr w w := by (show Below _ _ _); go_grown
    have hSaRuns := saRuns.fr hF
    generalize hO : out_BitsOfRuns aFirst aRuns = o
    obtain ⟨o0, o1⟩ := o
    have HO := Lib.hid hO
    clear hO
    refine (toInt64S_any _ aRuns _ hSaRuns (by omega)).mono ?_
    rintro e W1 ⟨aT1, cT1, rfl, hOt1, hb⟩
    replace hSaRuns := SlR.below hSaRuns hb
    replace hF := Fr.step hF hb
    clear hb
    replace hOt1 := SlR.own hOt1
    go_wp2_with fail
    refine (spec_BitsOfRuns _ aFirst _ aRuns hOt1 xaRuns (by omega)).mono ?_
    rw [HO.out]
    dsimp only
    rintro e W2 ⟨rfl, hb⟩
    replace hSaRuns := SlR.below hSaRuns hb
    replace hF := Fr.step hF hb
    replace hOt1 := SlR.below hOt1 hb
    clear hb
    clear hOt1
    have hE := Fr.refl W2
    have hFE := hF
    have hSaRuns_E := hSaRuns
    go_wp2_with fail
    have hLx1 := Below.size hE
    refine (toInt64S_any _ aRuns _ hSaRuns (by omega)).mono ?_
    rintro e W3 ⟨ax1, cx1, rfl, hOx1, hb⟩
    replace hSaRuns := SlR.below hSaRuns hb
    replace hF := Fr.step hF hb
    replace hE := Fr.step hE hb
    clear hb
    have hSx1 := SlR.own hOx1
    have hHx1 : ∀ k, Value.ownBlock (.slice ax1 aRuns.length cx1) = some k → k < (World.heap W3).size := fun k hk => (hOx1.lt k hk).2
    go_wp2_with fail
    refine (impl_BitsOfRuns _ aFirst _ aRuns hSx1 xaRuns (by omega)).mono ?_
    rw [HO.out]
    dsimp only
    rintro e W4 ⟨rfl, hb⟩
    replace hSaRuns := SlR.below hSaRuns hb
    replace hF := Fr.step hF hb
    replace hE := Fr.step hE hb
    replace hOx1 := ownsRow_below hOx1 hb
    replace hSx1 := SlR.below hSx1 hb
    clear hb
    go_wp2_with fail
    refine (toInt64S_any _ aRuns _ hSaRuns (by omega)).mono ?_
    rintro e W5 ⟨aT, cT, rfl, hOt, hb⟩
    replace hSaRuns := SlR.below hSaRuns hb
    replace hF := Fr.step hF hb
    replace hE := Fr.step hE hb
    replace hOx1 := ownsRow_below hOx1 hb
    replace hSx1 := SlR.below hSx1 hb
    clear hb
    replace hOt := SlR.own hOt
    go_wp2_with fail
    refine (eqInt64S_same _ _ aRuns _ hSx1 hOt).mono ?_
    rintro e W6 ⟨rfl, hq⟩
    have hb := hq.below (World.heap W5).size
    replace hSaRuns := SlR.below hSaRuns hb
    replace hF := Fr.step hF hb
    replace hE := Fr.step hE hb
    replace hOx1 := ownsRow_below hOx1 hb
    replace hSx1 := SlR.below hSx1 hb
    clear hb hq
    clear hOt
    go_wp2_with fail
    go_ret
    exact ⟨rfl, hF⟩
  · go_enter Try.func5, Try.ntmps5
    go_wp2_with fail
    have hF : Fr w w := by (show Below _ _ _); go_grown
    have hSaRuns := saRuns.fr hF
    go_ret
    exact ⟨rfl, hF⟩

end Go.Proofs.Ytnikilcpaonkaaa
