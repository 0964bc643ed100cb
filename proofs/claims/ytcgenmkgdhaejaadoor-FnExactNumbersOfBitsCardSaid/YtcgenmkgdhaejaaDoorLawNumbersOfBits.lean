/- The walk of the law FnExactNumbersOfBits, out of the contracts of what it calls. -/
import Derived.Test.YtcgenmkgdhaejaaDoorNobJ
import Derived.Deep.RegionHeld3
namespace Go.Proofs.YtcgenmkgdhaejaaDoor
set_option linter.unusedSimpArgs false
set_option linter.unusedVariables false
open Go.RowKit

set_option maxHeartbeats 4000000 in
theorem law_NumbersOfBits (w : World) (aKind : Int) (haKind : I64 aKind) (aK : Int) (haK : I64 aK) (aBits : ByteArray) (haBits : aBits.size ≤ 9223372036854775807) :
    Calls Tryd.prog 3 #[.int .i64 aKind, .int .i64 aK, .string aBits] w fun e w' => e = .returned (.bool true) ∧ Below w.heap.size w w' := by
  by_cases z0 : aBits.size ≤ 1048576
  · go_enter Tryd.func3, Tryd.ntmps3
    go_wp2_with fail
    have hF : Fr w w := by (show Below _ _ _); go_grown
    generalize hO : out_NumbersOfBits aKind aK aBits = o
    obtain ⟨o0, o1⟩ := o
    have HO := Lib.hid hO
    have HOl : o0.length ≤ 1048576 := by have h := len_NumbersOfBits aKind haKind aK haK aBits haBits (by omega); rw [hO] at h; exact h
    clear hO
    refine (spec_NumbersOfBits _ aKind haKind aK haK aBits haBits (by omega)).mono ?_
    rw [HO.out]
    try dsimp only
    rintro e W1 ⟨arw, crw, rfl, hSw0, hb⟩
    replace hF := Fr.step hF hb
    clear hb
    have hE := Fr.refl W1
    have hFE := hF
    have hSw0_E := hSw0
    go_wp2_with fail
    have hgE := Below.size hE
    refine (impl_NumbersOfBits _ aKind haKind aK haK aBits haBits (by omega)).mono ?_
    rw [HO.out]
    try dsimp only
    rintro e W2 ⟨arg, crg, rfl, hOg0, hb⟩
    replace hF := Fr.step hF hb
    replace hSw0 := SlR.below hSw0 hb
    replace hE := Fr.step hE hb
    clear hb
    have hSg0 := SlR.own hOg0
    have hHg0 : ∀ k, Value.ownBlock (.slice arg o0.length crg) = some k → k < (World.heap W2).size := fun k hk => (hOg0.lt k hk).2
    go_wp2_with fail
    refine (eqInt64S_same _ _ o0 _ hSg0 hSw0).mono ?_
    rintro e W3 ⟨rfl, hq⟩
    have hb := hq.below (World.heap W2).size
    replace hF := Fr.step hF hb
    replace hSw0 := SlR.below hSw0 hb
    replace hE := Fr.step hE hb
    replace hOg0 := ownsRow_below hOg0 hb
    replace hSg0 := SlR.below hSg0 hb
    clear hb hq
    go_wp2_with fail
    refine (markInt64S_any _ o0.length _ _ 1 _ _ (by omega) (by omega) (by omega) hOg0).mono ?_
    rintro e W4 ⟨rfl, hOm, hg⟩
    replace hE := hE.grown hg hOg0 hgE
    replace hF := hFE.step hE
    replace hSw0 := SlR.fr hSw0_E hE
    clear hOg0
    clear hSg0
    have hM := SlR.own hOm
    clear hOm hg
    go_wp2_with fail
    refine (heldInt64S_any _ o0.length 1 _ (by omega) (by omega) (by omega) hM).mono ?_
    rintro e _ ⟨rfl, rfl⟩
    go_wp2_with fail
    refine (impl_NumbersOfBits _ aKind haKind aK haK aBits haBits (by omega)).mono ?_
    rw [HO.out]
    try dsimp only
    rintro e W5 ⟨arh, crh, rfl, hOh0, hb⟩
    replace hF := Fr.step hF hb
    replace hSw0 := SlR.below hSw0 hb
    replace hE := Fr.step hE hb
    replace hM := SlR.below hM hb
    clear hb
    have hSh0 := SlR.own hOh0
    go_wp2_with fail
    refine (eqInt64S_same _ _ o0 _ hSh0 hSw0).mono ?_
    rintro e W6 ⟨rfl, hq⟩
    have hb := hq.below (World.heap W5).size
    replace hF := Fr.step hF hb
    replace hSw0 := SlR.below hSw0 hb
    replace hE := Fr.step hE hb
    replace hM := SlR.below hM hb
    replace hOh0 := ownsRow_below hOh0 hb
    replace hSh0 := SlR.below hSh0 hb
    clear hb hq
    go_wp2_with fail
    refine (heldInt64S_any _ o0.length 1 _ (by omega) (by omega) (by omega) hM).mono ?_
    rintro e _ ⟨rfl, rfl⟩
    go_wp2_with fail
    go_ret
    exact ⟨rfl, hF⟩
  · go_enter Tryd.func3, Tryd.ntmps3
    go_wp2_with fail
    have hF : Fr w w := by (show Below _ _ _); go_grown
    go_ret
    exact ⟨rfl, hF⟩

end Go.Proofs.YtcgenmkgdhaejaaDoor
