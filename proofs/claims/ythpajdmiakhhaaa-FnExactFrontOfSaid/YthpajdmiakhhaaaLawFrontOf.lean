/- The walk of the law FnExactFrontOf, out of the contracts of what it calls. -/
import Derived.Test.YthpajdmiakhhaaaFrt2
import Derived.Deep.RegionHeld3
namespace Go.Proofs.Ythpajdmiakhhaaa
open Go.RowKit

set_option maxHeartbeats 4000000 in
theorem law_FrontOf (w : World) (aaLetters : Option Addr) (caLetters : Nat) (aLetters : List Int) (maLetters : aLetters.length ≤ caLetters ∧ caLetters ≤ 9223372036854775807) (saLetters : SlR w (.slice aaLetters aLetters.length caLetters) (aLetters.map (Value.int .i64))) (xaLetters : ∀ x ∈ aLetters, I64 x) (aN : Int) (haN : I64 aN) :
    Calls Try.prog 9 #[.slice aaLetters aLetters.length caLetters, .int .i64 aN] w fun e w' => e = .returned (.bool true) ∧ Below w.heap.size w w' := by
  by_cases z0 : aLetters.length ≤ 1048576
  · go_enter Try.func9, Try.ntmps9
    go_wp2_with fail
    have hF : Fr w w := by (show Below _ _ _); go_grown
    have hSaLetters := saLetters.fr hF
    generalize hO : out_FrontOf aLetters aN = o
    obtain ⟨o0, o1⟩ := o
    have HO := Lib.hid hO
    have HOl : o0.length ≤ 1048576 := by have h := len_FrontOf aLetters xaLetters (by omega) aN haN; rw [hO] at h; exact h
    clear hO
    refine (toInt64S_any _ aLetters _ hSaLetters (by omega)).mono ?_
    rintro e W1 ⟨aT1, cT1, rfl, hOt1, hb⟩
    replace hSaLetters := SlR.below hSaLetters hb
    replace hF := Fr.step hF hb
    clear hb
    replace hOt1 := SlR.own hOt1
    go_wp2_with fail
    refine (spec_FrontOf _ _ aLetters hOt1 xaLetters (by omega) aN haN).mono ?_
    rw [HO.out]
    dsimp only
    rintro e W2 ⟨arw, crw, rfl, hSw0, hb⟩
    replace hSaLetters := SlR.below hSaLetters hb
    replace hF := Fr.step hF hb
    replace hOt1 := SlR.below hOt1 hb
    clear hb
    clear hOt1
    have hE := Fr.refl W2
    have hFE := hF
    have hSaLetters_E := hSaLetters
    have hSw0_E := hSw0
    go_wp2_with fail
    have hLx0 := Below.size hE
    refine (toInt64S_any _ aLetters _ hSaLetters (by omega)).mono ?_
    rintro e W3 ⟨ax0, cx0, rfl, hOx0, hb⟩
    replace hSaLetters := SlR.below hSaLetters hb
    replace hF := Fr.step hF hb
    replace hSw0 := SlR.below hSw0 hb
    replace hE := Fr.step hE hb
    clear hb
    have hSx0 := SlR.own hOx0
    have hHx0 : ∀ k, Value.ownBlock (.slice ax0 aLetters.length cx0) = some k → k < (World.heap W3).size := fun k hk => (hOx0.lt k hk).2
    go_wp2_with fail
    have hgE := Below.size hE
    have hGx0 : ∀ k, Value.ownBlock (.slice ax0 aLetters.length cx0) = some k → k < (World.heap W3).size := fun k hk => (hOx0.lt k hk).2
    refine (impl_FrontOf _ _ aLetters hSx0 xaLetters (by omega) aN haN).mono ?_
    rw [HO.out]
    dsimp only
    rintro e W4 ⟨arg, crg, rfl, hOg0, hb⟩
    replace hSaLetters := SlR.below hSaLetters hb
    replace hF := Fr.step hF hb
    replace hSw0 := SlR.below hSw0 hb
    replace hE := Fr.step hE hb
    replace hOx0 := ownsRow_below hOx0 hb
    replace hSx0 := SlR.below hSx0 hb
    clear hb
    have hSg0 := SlR.own hOg0
    have hHg0 : ∀ k, Value.ownBlock (.slice arg o0.length crg) = some k → k < (World.heap W4).size := fun k hk => (hOg0.lt k hk).2
    go_wp2_with fail
    refine (eqInt64S_same _ _ o0 _ hSg0 hSw0).mono ?_
    rintro e W5 ⟨rfl, hq⟩
    have hb := hq.below (World.heap W4).size
    replace hSaLetters := SlR.below hSaLetters hb
    replace hF := Fr.step hF hb
    replace hSw0 := SlR.below hSw0 hb
    replace hE := Fr.step hE hb
    replace hOx0 := ownsRow_below hOx0 hb
    replace hSx0 := SlR.below hSx0 hb
    replace hOg0 := ownsRow_below hOg0 hb
    replace hSg0 := SlR.below hSg0 hb
    clear hb hq
    go_wp2_with fail
    refine (toInt64S_any _ aLetters _ hSaLetters (by omega)).mono ?_
    rintro e W6 ⟨aT, cT, rfl, hOt, hb⟩
    replace hSaLetters := SlR.below hSaLetters hb
    replace hF := Fr.step hF hb
    replace hSw0 := SlR.below hSw0 hb
    replace hE := Fr.step hE hb
    replace hOx0 := ownsRow_below hOx0 hb
    replace hSx0 := SlR.below hSx0 hb
    replace hOg0 := ownsRow_below hOg0 hb
    replace hSg0 := SlR.below hSg0 hb
    clear hb
    replace hOt := SlR.own hOt
    go_wp2_with fail
    refine (eqInt64S_same _ _ aLetters _ hSx0 hOt).mono ?_
    rintro e W7 ⟨rfl, hq⟩
    have hb := hq.below (World.heap W6).size
    replace hSaLetters := SlR.below hSaLetters hb
    replace hF := Fr.step hF hb
    replace hSw0 := SlR.below hSw0 hb
    replace hE := Fr.step hE hb
    replace hOx0 := ownsRow_below hOx0 hb
    replace hSx0 := SlR.below hSx0 hb
    replace hOg0 := ownsRow_below hOg0 hb
    replace hSg0 := SlR.below hSg0 hb
    clear hb hq
    clear hOt
    go_wp2_with fail
    refine (markInt64S_any _ aLetters.length _ _ 1 _ _ (by omega) (by omega) (by omega) hOx0).mono ?_
    rintro e W8 ⟨rfl, hOm, hg⟩
    replace hE := hE.grown hg hOx0 hLx0
    replace hF := hFE.step hE
    replace hSaLetters := SlR.fr hSaLetters_E hE
    replace hSw0 := SlR.fr hSw0_E hE
    replace hOg0 := own_apart hOg0 hg hGx0
    replace hSg0 := SlR.own hOg0
    clear hOx0
    clear hSx0
    clear hOm hg
    go_wp2_with fail
    refine (eqInt64S_same _ _ o0 _ hSg0 hSw0).mono ?_
    rintro e W9 ⟨rfl, hq⟩
    have hb := hq.below (World.heap W8).size
    replace hSaLetters := SlR.below hSaLetters hb
    replace hF := Fr.step hF hb
    replace hSw0 := SlR.below hSw0 hb
    replace hE := Fr.step hE hb
    replace hOg0 := ownsRow_below hOg0 hb
    replace hSg0 := SlR.below hSg0 hb
    clear hb hq
    go_wp2_with fail
    refine (markInt64S_any _ o0.length _ _ 1 _ _ (by omega) (by omega) (by omega) hOg0).mono ?_
    rintro e W10 ⟨rfl, hOm, hg⟩
    replace hE := hE.grown hg hOg0 hgE
    replace hF := hFE.step hE
    replace hSaLetters := SlR.fr hSaLetters_E hE
    replace hSw0 := SlR.fr hSw0_E hE
    clear hOg0
    clear hSg0
    have hM := SlR.own hOm
    clear hOm hg
    go_wp2_with fail
    refine (heldInt64S_any _ o0.length 1 _ (by omega) (by omega) (by omega) hM).mono ?_
    rintro e _ ⟨rfl, rfl⟩
    go_wp2_with fail
    refine (toInt64S_any _ aLetters _ hSaLetters (by omega)).mono ?_
    rintro e W11 ⟨aT1, cT1, rfl, hOt1, hb⟩
    replace hSaLetters := SlR.below hSaLetters hb
    replace hF := Fr.step hF hb
    replace hSw0 := SlR.below hSw0 hb
    replace hE := Fr.step hE hb
    replace hM := SlR.below hM hb
    clear hb
    replace hOt1 := SlR.own hOt1
    go_wp2_with fail
    refine (impl_FrontOf _ _ aLetters hOt1 xaLetters (by omega) aN haN).mono ?_
    rw [HO.out]
    dsimp only
    rintro e W12 ⟨arh, crh, rfl, hOh0, hb⟩
    replace hSaLetters := SlR.below hSaLetters hb
    replace hF := Fr.step hF hb
    replace hSw0 := SlR.below hSw0 hb
    replace hE := Fr.step hE hb
    replace hM := SlR.below hM hb
    replace hOt1 := SlR.below hOt1 hb
    clear hb
    clear hOt1
    have hSh0 := SlR.own hOh0
    go_wp2_with fail
    refine (eqInt64S_same _ _ o0 _ hSh0 hSw0).mono ?_
    rintro e W13 ⟨rfl, hq⟩
    have hb := hq.below (World.heap W12).size
    replace hSaLetters := SlR.below hSaLetters hb
    replace hF := Fr.step hF hb
    replace hSw0 := SlR.below hSw0 hb
    replace hE := Fr.step hE hb
    replace hM := SlR.below hM hb
    replace hOh0 := ownsRow_below hOh0 hb
    replace hSh0 := SlR.below hSh0 hb
    clear hb hq
    go_wp2_with fail
    refine (heldInt64S_any _ o0.length 1 _ (by omega) (by omega) (by omega) hM).mono ?_
    rintro e _ ⟨rfl, rfl⟩
    go_wp2_with fail
    go_ret
    exact ⟨rfl, hF⟩
  · go_enter Try.func9, Try.ntmps9
    go_wp2_with fail
    have hF : Fr w w := by (show Below _ _ _); go_grown
    have hSaLetters := saLetters.fr hF
    go_ret
    exact ⟨rfl, hF⟩

end Go.Proofs.Ythpajdmiakhhaaa
