/- The walk of the law FnExactIsMoreEven, out of the contracts of what it calls. -/
import Derived.Test.YtjobgobeiiakgaaMes
import Derived.Deep.RegionHeld3
import Derived.Test.YtjobgobeiiakgaaHrg
namespace Go.Proofs.Ytjobgobeiiakgaa
set_option linter.unusedSimpArgs false
set_option linter.unusedVariables false
open Go.RowKit

set_option maxHeartbeats 4000000 in
theorem law_IsMoreEven (w : World) (aaA : Option Addr) (caA : Nat) (aA : List Nat) (maA : aA.length ≤ caA ∧ caA ≤ 9223372036854775807) (saA : SlR w (.slice aaA aA.length caA) (aA.map (Value.float .f32))) (xaA : ∀ x ∈ aA, x < 4294967296) (aaB : Option Addr) (caB : Nat) (aB : List Nat) (maB : aB.length ≤ caB ∧ caB ≤ 9223372036854775807) (saB : SlR w (.slice aaB aB.length caB) (aB.map (Value.float .f32))) (xaB : ∀ x ∈ aB, x < 4294967296) :
    Calls Try.prog 5 #[.slice aaA aA.length caA, .slice aaB aB.length caB] w fun e w' => e = .returned (.bool true) ∧ Below w.heap.size w w' := by
  by_cases z0 : aA.length ≤ 1048576
  · by_cases z1 : aB.length ≤ 1048576
    · go_enter Try.func5, Try.ntmps5
      go_wp2_with fail
      have hF : Fr w w := by (show Below _ _ _); go_grown
      have hSaA := saA.fr hF
      have hSaB := saB.fr hF
      generalize hO : out_IsMoreEven aA aB = o
      obtain ⟨o0, o1⟩ := o
      have HO := Lib.hid hO
      clear hO
      refine (toFloat32S_any _ aA _ hSaA (by omega)).mono ?_
      rintro e W1 ⟨aT1, cT1, rfl, hOt1, hb⟩
      replace hSaA := SlR.below hSaA hb
      replace hSaB := SlR.below hSaB hb
      replace hF := Fr.step hF hb
      clear hb
      replace hOt1 := SlR.own hOt1
      go_wp2_with fail
      refine (toFloat32S_any _ aB _ hSaB (by omega)).mono ?_
      rintro e W2 ⟨aT2, cT2, rfl, hOt2, hb⟩
      replace hSaA := SlR.below hSaA hb
      replace hSaB := SlR.below hSaB hb
      replace hF := Fr.step hF hb
      replace hOt1 := SlR.below hOt1 hb
      clear hb
      replace hOt2 := SlR.own hOt2
      go_wp2_with fail
      refine (spec_IsMoreEven _ _ aA hOt1 xaA (by omega) _ aB hOt2 xaB (by omega)).mono ?_
      rw [HO.out]
      try dsimp only
      rintro e W3 ⟨rfl, hb⟩
      replace hSaA := SlR.below hSaA hb
      replace hSaB := SlR.below hSaB hb
      replace hF := Fr.step hF hb
      replace hOt1 := SlR.below hOt1 hb
      replace hOt2 := SlR.below hOt2 hb
      clear hb
      clear hOt1
      clear hOt2
      have hE := Fr.refl W3
      have hFE := hF
      have hSaA_E := hSaA
      have hSaB_E := hSaB
      go_wp2_with fail
      have hLx0 := Below.size hE
      refine (toFloat32S_any _ aA _ hSaA (by omega)).mono ?_
      rintro e W4 ⟨ax0, cx0, rfl, hOx0, hb⟩
      replace hSaA := SlR.below hSaA hb
      replace hSaB := SlR.below hSaB hb
      replace hF := Fr.step hF hb
      replace hE := Fr.step hE hb
      clear hb
      have hSx0 := SlR.own hOx0
      have hHx0 : ∀ k, Value.ownBlock (.slice ax0 aA.length cx0) = some k → k < (World.heap W4).size := fun k hk => (hOx0.lt k hk).2
      go_wp2_with fail
      have hKx0x1 : ∀ k, Value.ownBlock (.slice ax0 aA.length cx0) = some k → k < (World.heap W4).size := fun k hk => (hOx0.lt k hk).2
      have hLx1 := Below.size hE
      refine (toFloat32S_any _ aB _ hSaB (by omega)).mono ?_
      rintro e W5 ⟨ax1, cx1, rfl, hOx1, hb⟩
      replace hSaA := SlR.below hSaA hb
      replace hSaB := SlR.below hSaB hb
      replace hF := Fr.step hF hb
      replace hE := Fr.step hE hb
      replace hOx0 := ownsRow_below hOx0 hb
      replace hSx0 := SlR.below hSx0 hb
      clear hb
      have hSx1 := SlR.own hOx1
      have hHx1 : ∀ k, Value.ownBlock (.slice ax1 aB.length cx1) = some k → k < (World.heap W5).size := fun k hk => (hOx1.lt k hk).2
      go_wp2_with fail
      refine (impl_IsMoreEven _ _ aA hSx0 xaA (by omega) _ aB hSx1 xaB (by omega)).mono ?_
      rw [HO.out]
      try dsimp only
      rintro e W6 ⟨rfl, hb⟩
      replace hSaA := SlR.below hSaA hb
      replace hSaB := SlR.below hSaB hb
      replace hF := Fr.step hF hb
      replace hE := Fr.step hE hb
      replace hOx0 := ownsRow_below hOx0 hb
      replace hSx0 := SlR.below hSx0 hb
      replace hOx1 := ownsRow_below hOx1 hb
      replace hSx1 := SlR.below hSx1 hb
      clear hb
      go_wp2_with fail
      refine (toFloat32S_any _ aA _ hSaA (by omega)).mono ?_
      rintro e W7 ⟨aT, cT, rfl, hOt, hb⟩
      replace hSaA := SlR.below hSaA hb
      replace hSaB := SlR.below hSaB hb
      replace hF := Fr.step hF hb
      replace hE := Fr.step hE hb
      replace hOx0 := ownsRow_below hOx0 hb
      replace hSx0 := SlR.below hSx0 hb
      replace hOx1 := ownsRow_below hOx1 hb
      replace hSx1 := SlR.below hSx1 hb
      clear hb
      replace hOt := SlR.own hOt
      go_wp2_with fail
      refine (eqFloat32S_same _ _ aA _ hSx0 hOt).mono ?_
      rintro e W8 ⟨rfl, hq⟩
      have hb := hq.below (World.heap W7).size
      replace hSaA := SlR.below hSaA hb
      replace hSaB := SlR.below hSaB hb
      replace hF := Fr.step hF hb
      replace hE := Fr.step hE hb
      replace hOx0 := ownsRow_below hOx0 hb
      replace hSx0 := SlR.below hSx0 hb
      replace hOx1 := ownsRow_below hOx1 hb
      replace hSx1 := SlR.below hSx1 hb
      clear hb hq
      clear hOt
      go_wp2_with fail
      refine (toFloat32S_any _ aB _ hSaB (by omega)).mono ?_
      rintro e W9 ⟨aT, cT, rfl, hOt, hb⟩
      replace hSaA := SlR.below hSaA hb
      replace hSaB := SlR.below hSaB hb
      replace hF := Fr.step hF hb
      replace hE := Fr.step hE hb
      replace hOx0 := ownsRow_below hOx0 hb
      replace hSx0 := SlR.below hSx0 hb
      replace hOx1 := ownsRow_below hOx1 hb
      replace hSx1 := SlR.below hSx1 hb
      clear hb
      replace hOt := SlR.own hOt
      go_wp2_with fail
      refine (eqFloat32S_same _ _ aB _ hSx1 hOt).mono ?_
      rintro e W10 ⟨rfl, hq⟩
      have hb := hq.below (World.heap W9).size
      replace hSaA := SlR.below hSaA hb
      replace hSaB := SlR.below hSaB hb
      replace hF := Fr.step hF hb
      replace hE := Fr.step hE hb
      replace hOx0 := ownsRow_below hOx0 hb
      replace hSx0 := SlR.below hSx0 hb
      replace hOx1 := ownsRow_below hOx1 hb
      replace hSx1 := SlR.below hSx1 hb
      clear hb hq
      clear hOt
      go_wp2_with fail
      go_ret
      exact ⟨rfl, hF⟩
    · go_enter Try.func5, Try.ntmps5
      go_wp2_with fail
      have hF : Fr w w := by (show Below _ _ _); go_grown
      have hSaA := saA.fr hF
      have hSaB := saB.fr hF
      go_ret
      exact ⟨rfl, hF⟩
  · go_enter Try.func5, Try.ntmps5
    go_wp2_with fail
    have hF : Fr w w := by (show Below _ _ _); go_grown
    have hSaA := saA.fr hF
    have hSaB := saB.fr hF
    go_ret
    exact ⟨rfl, hF⟩

end Go.Proofs.Ytjobgobeiiakgaa
