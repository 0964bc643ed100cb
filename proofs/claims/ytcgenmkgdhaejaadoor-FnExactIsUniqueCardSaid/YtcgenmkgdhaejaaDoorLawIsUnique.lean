/- The walk of the law FnExactIsUnique, out of the contracts of what it calls. -/
import Derived.Test.YtcgenmkgdhaejaaDoorDjs
import Derived.Deep.RegionHeld3
namespace Go.Proofs.YtcgenmkgdhaejaaDoor
set_option linter.unusedSimpArgs false
set_option linter.unusedVariables false
open Go.RowKit

set_option maxHeartbeats 4000000 in
theorem law_IsUnique (w : World) (aaWords : Option Addr) (caWords : Nat) (aWords : List ByteArray) (maWords : aWords.length ≤ caWords ∧ caWords ≤ 9223372036854775807) (saWords : SlR w (.slice aaWords aWords.length caWords) (aWords.map Value.string)) (xaWords : ∀ x ∈ aWords, x.size ≤ 9223372036854775807) :
    Calls Tryd.prog 4 #[.slice aaWords aWords.length caWords] w fun e w' => e = .returned (.bool true) ∧ Below w.heap.size w w' := by
  by_cases z0 : (aWords.length + tob aWords) ≤ 1048576
  · go_enter Tryd.func4, Tryd.ntmps4
    go_wp2_with fail
    have hF : Fr w w := by (show Below _ _ _); go_grown
    have hSaWords := saWords.fr hF
    refine (szStringS_le _ aWords _ _ hSaWords xaWords (by omega) (by omega) (by omega)).mono ?_
    rintro e _ ⟨rfl, rfl⟩
    go_wp2_with fail
    generalize hO : out_IsUnique aWords = o
    obtain ⟨o0, o1⟩ := o
    have HO := Lib.hid hO
    clear hO
    refine (toStringS_any _ aWords _ hSaWords (by omega)).mono ?_
    rintro e W1 ⟨aT1, cT1, rfl, hOt1, hb⟩
    replace hSaWords := SlR.below hSaWords hb
    replace hF := Fr.step hF hb
    clear hb
    replace hOt1 := SlR.own hOt1
    go_wp2_with fail
    refine (spec_IsUnique _ _ aWords hOt1 xaWords (by omega)).mono ?_
    rw [HO.out]
    try dsimp only
    rintro e W2 ⟨rfl, hb⟩
    replace hSaWords := SlR.below hSaWords hb
    replace hF := Fr.step hF hb
    replace hOt1 := SlR.below hOt1 hb
    clear hb
    clear hOt1
    have hE := Fr.refl W2
    have hFE := hF
    have hSaWords_E := hSaWords
    go_wp2_with fail
    have hLx0 := Below.size hE
    refine (toStringS_any _ aWords _ hSaWords (by omega)).mono ?_
    rintro e W3 ⟨ax0, cx0, rfl, hOx0, hb⟩
    replace hSaWords := SlR.below hSaWords hb
    replace hF := Fr.step hF hb
    replace hE := Fr.step hE hb
    clear hb
    have hSx0 := SlR.own hOx0
    have hHx0 : ∀ k, Value.ownBlock (.slice ax0 aWords.length cx0) = some k → k < (World.heap W3).size := fun k hk => (hOx0.lt k hk).2
    go_wp2_with fail
    refine (impl_IsUnique _ _ aWords hSx0 xaWords (by omega)).mono ?_
    rw [HO.out]
    try dsimp only
    rintro e W4 ⟨rfl, hb⟩
    replace hSaWords := SlR.below hSaWords hb
    replace hF := Fr.step hF hb
    replace hE := Fr.step hE hb
    replace hOx0 := ownsRow_below hOx0 hb
    replace hSx0 := SlR.below hSx0 hb
    clear hb
    go_wp2_with fail
    refine (toStringS_any _ aWords _ hSaWords (by omega)).mono ?_
    rintro e W5 ⟨aT, cT, rfl, hOt, hb⟩
    replace hSaWords := SlR.below hSaWords hb
    replace hF := Fr.step hF hb
    replace hE := Fr.step hE hb
    replace hOx0 := ownsRow_below hOx0 hb
    replace hSx0 := SlR.below hSx0 hb
    clear hb
    replace hOt := SlR.own hOt
    go_wp2_with fail
    refine (eqStringS_same _ _ aWords _ hSx0 hOt).mono ?_
    rintro e W6 ⟨rfl, hq⟩
    have hb := hq.below (World.heap W5).size
    replace hSaWords := SlR.below hSaWords hb
    replace hF := Fr.step hF hb
    replace hE := Fr.step hE hb
    replace hOx0 := ownsRow_below hOx0 hb
    replace hSx0 := SlR.below hSx0 hb
    clear hb hq
    clear hOt
    go_wp2_with fail
    go_ret
    exact ⟨rfl, hF⟩
  · go_enter Tryd.func4, Tryd.ntmps4
    go_wp2_with fail
    have hF : Fr w w := by (show Below _ _ _); go_grown
    have hSaWords := saWords.fr hF
    refine (szStringS_gt _ aWords _ _ hSaWords xaWords (by omega) (by omega) (by omega)).mono ?_
    rintro e _ ⟨rfl, rfl⟩
    go_wp2_with fail
    go_ret
    exact ⟨rfl, hF⟩

end Go.Proofs.YtcgenmkgdhaejaaDoor
