/- The walk of the law FnExactEntropiesShared, out of the contracts of what it calls. -/
import Derived.Test.YtlahmdnlamifnaaEsh
import Derived.Deep.RegionHeld3
import Derived.Test.YtlahmdnlamifnaaHrg
namespace Go.Proofs.Ytlahmdnlamifnaa
set_option linter.unusedSimpArgs false
set_option linter.unusedVariables false
open Go.RowKit

set_option maxHeartbeats 4000000 in
theorem law_EntropiesShared (w : World) (aaRows : Option Addr) (caRows : Nat) (aRows : List (List Nat)) (maRows : aRows.length ≤ caRows ∧ caRows ≤ 9223372036854775807) (saRows : MxR w (Value.float .f32) (.slice aaRows aRows.length caRows) aRows) (xaRows : ∀ x ∈ aRows, ∀ y ∈ x, y < 4294967296) (aWorkers : Int) (haWorkers : I64 aWorkers) :
    Calls Try.prog 8 #[.slice aaRows aRows.length caRows, .int .i64 aWorkers] w fun e w' => e = .returned (.bool true) ∧ Below w.heap.size w w' := by
  by_cases z0 : (aRows.length + tot aRows) ≤ 1048576
  · go_enter Try.func8, Try.ntmps8
    go_wp2_with fail
    have hF : Fr w w := by (show Below _ _ _); go_grown
    have hSaRows := saRows.fr hF
    refine (szFloat32SS_le _ aRows _ _ hSaRows (by omega) (by omega) (by omega)).mono ?_
    rintro e _ ⟨rfl, rfl⟩
    go_wp2_with fail
    generalize hO : out_EntropiesShared aRows aWorkers = o
    obtain ⟨o0, o1⟩ := o
    have HO := Lib.hid hO
    have HOl : o0.length ≤ 1048576 := by have h := len_EntropiesShared aRows xaRows (by omega) aWorkers haWorkers; rw [hO] at h; exact h
    clear hO
    refine (toFloat32SS_any _ aRows _ hSaRows (by omega)).mono ?_
    rintro e W1 ⟨aT1, cT1, rfl, hOt1, hb⟩
    replace hSaRows := MxR.below hSaRows hb
    replace hF := Fr.step hF hb
    clear hb
    replace hOt1 := OwnMx.rd hOt1
    go_wp2_with fail
    refine (spec_EntropiesShared _ _ aRows hOt1 xaRows (by omega) aWorkers haWorkers).mono ?_
    rw [HO.out]
    try dsimp only
    rintro e W2 ⟨arw, crw, rfl, hSw0, hb⟩
    replace hSaRows := MxR.below hSaRows hb
    replace hF := Fr.step hF hb
    replace hOt1 := MxR.below hOt1 hb
    clear hb
    clear hOt1
    have hE := Fr.refl W2
    have hFE := hF
    have hSaRows_E := hSaRows
    have hSw0_E := hSw0
    go_wp2_with fail
    have hLx0 := Below.size hE
    refine (toFloat32SS_any _ aRows _ hSaRows (by omega)).mono ?_
    rintro e W3 ⟨ax0, cx0, rfl, hOx0, hb⟩
    replace hSaRows := MxR.below hSaRows hb
    replace hF := Fr.step hF hb
    replace hSw0 := SlR.below hSw0 hb
    replace hE := Fr.step hE hb
    have hQx0 := Below.size hb
    clear hb
    have hPx0 := Nat.le_refl (World.heap W3).size
    have hSx0 := OwnMx.rd hOx0
    go_wp2_with fail
    have hgE := Below.size hE
    have hGx0 := hPx0
    refine (impl_EntropiesShared _ _ aRows hSx0 xaRows (by omega) aWorkers haWorkers).mono ?_
    rw [HO.out]
    try dsimp only
    rintro e W4 ⟨arg, crg, rfl, hOg0, hb⟩
    replace hSaRows := MxR.below hSaRows hb
    replace hF := Fr.step hF hb
    replace hSw0 := SlR.below hSw0 hb
    replace hE := Fr.step hE hb
    replace hQx0 := Nat.le_trans hQx0 (Below.size hb)
    replace hPx0 := Nat.le_trans hPx0 (Below.size hb)
    replace hOx0 := OwnMx.below hOx0 hb
    replace hSx0 := MxR.below hSx0 hb
    clear hb
    have hSg0 := SlR.own hOg0
    have hHg0 : ∀ k, Value.ownBlock (.slice arg o0.length crg) = some k → k < (World.heap W4).size := fun k hk => (hOg0.lt k hk).2
    go_wp2_with fail
    refine (eqFloat32S_same _ _ o0 _ hSg0 hSw0).mono ?_
    rintro e W5 ⟨rfl, hq⟩
    have hb := hq.below (World.heap W4).size
    replace hSaRows := MxR.below hSaRows hb
    replace hF := Fr.step hF hb
    replace hSw0 := SlR.below hSw0 hb
    replace hE := Fr.step hE hb
    replace hQx0 := Nat.le_trans hQx0 (Below.size hb)
    replace hPx0 := Nat.le_trans hPx0 (Below.size hb)
    replace hOx0 := OwnMx.below hOx0 hb
    replace hSx0 := MxR.below hSx0 hb
    replace hOg0 := ownsRow_below hOg0 hb
    replace hSg0 := SlR.below hSg0 hb
    clear hb hq
    go_wp2_with fail
    refine (toFloat32SS_any _ aRows _ hSaRows (by omega)).mono ?_
    rintro e W6 ⟨aT, cT, rfl, hOt, hb⟩
    replace hSaRows := MxR.below hSaRows hb
    replace hF := Fr.step hF hb
    replace hSw0 := SlR.below hSw0 hb
    replace hE := Fr.step hE hb
    replace hQx0 := Nat.le_trans hQx0 (Below.size hb)
    replace hPx0 := Nat.le_trans hPx0 (Below.size hb)
    replace hOx0 := OwnMx.below hOx0 hb
    replace hSx0 := MxR.below hSx0 hb
    replace hOg0 := ownsRow_below hOg0 hb
    replace hSg0 := SlR.below hSg0 hb
    clear hb
    replace hOt := OwnMx.rd hOt
    go_wp2_with fail
    refine (eqFloat32SS_same _ _ aRows _ hSx0 hOt (fun W x y zs h1 h2 _ => eqFloat32S_same x y zs W h1 h2)).mono ?_
    rintro e W7 ⟨rfl, hq⟩
    have hb := hq.below (World.heap W6).size
    replace hSaRows := MxR.below hSaRows hb
    replace hF := Fr.step hF hb
    replace hSw0 := SlR.below hSw0 hb
    replace hE := Fr.step hE hb
    replace hQx0 := Nat.le_trans hQx0 (Below.size hb)
    replace hPx0 := Nat.le_trans hPx0 (Below.size hb)
    replace hOx0 := OwnMx.below hOx0 hb
    replace hSx0 := MxR.below hSx0 hb
    replace hOg0 := ownsRow_below hOg0 hb
    replace hSg0 := SlR.below hSg0 hb
    clear hb hq
    clear hOt
    go_wp2_with fail
    refine (markFloat32SS_any _ _ _ aRows 1 _ hOx0 (by omega) (by omega) hQx0).mono ?_
    rintro e W8 ⟨rfl, hb, hfar⟩
    replace hE := Below.trans hE (hb.mono hLx0)
    replace hF := hFE.step hE
    replace hSaRows := MxR.fr hSaRows_E hE
    replace hSw0 := SlR.fr hSw0_E hE
    replace hOg0 := own_far hOg0 hGx0 hfar
    replace hSg0 := SlR.own hOg0
    clear hOx0
    clear hSx0
    clear hPx0
    clear hQx0
    clear hb hfar
    go_wp2_with fail
    refine (eqFloat32S_same _ _ o0 _ hSg0 hSw0).mono ?_
    rintro e W9 ⟨rfl, hq⟩
    have hb := hq.below (World.heap W8).size
    replace hSaRows := MxR.below hSaRows hb
    replace hF := Fr.step hF hb
    replace hSw0 := SlR.below hSw0 hb
    replace hE := Fr.step hE hb
    replace hOg0 := ownsRow_below hOg0 hb
    replace hSg0 := SlR.below hSg0 hb
    clear hb hq
    go_wp2_with fail
    refine (markFloat32S_any _ o0.length _ _ 1 _ _ (by omega) (by omega) (by omega) hOg0).mono ?_
    rintro e W10 ⟨rfl, hOm, hg⟩
    replace hE := hE.grown hg hOg0 hgE
    replace hF := hFE.step hE
    replace hSaRows := MxR.fr hSaRows_E hE
    replace hSw0 := SlR.fr hSw0_E hE
    clear hOg0
    clear hSg0
    have hM := SlR.own hOm
    clear hOm hg
    go_wp2_with fail
    refine (heldFloat32S_any _ o0.length 1 _ (by omega) (by omega) (by omega) hM).mono ?_
    rintro e _ ⟨rfl, rfl⟩
    go_wp2_with fail
    refine (toFloat32SS_any _ aRows _ hSaRows (by omega)).mono ?_
    rintro e W11 ⟨aT1, cT1, rfl, hOt1, hb⟩
    replace hSaRows := MxR.below hSaRows hb
    replace hF := Fr.step hF hb
    replace hSw0 := SlR.below hSw0 hb
    replace hE := Fr.step hE hb
    replace hM := SlR.below hM hb
    clear hb
    replace hOt1 := OwnMx.rd hOt1
    go_wp2_with fail
    refine (impl_EntropiesShared _ _ aRows hOt1 xaRows (by omega) aWorkers haWorkers).mono ?_
    rw [HO.out]
    try dsimp only
    rintro e W12 ⟨arh, crh, rfl, hOh0, hb⟩
    replace hSaRows := MxR.below hSaRows hb
    replace hF := Fr.step hF hb
    replace hSw0 := SlR.below hSw0 hb
    replace hE := Fr.step hE hb
    replace hM := SlR.below hM hb
    replace hOt1 := MxR.below hOt1 hb
    clear hb
    clear hOt1
    have hSh0 := SlR.own hOh0
    go_wp2_with fail
    refine (eqFloat32S_same _ _ o0 _ hSh0 hSw0).mono ?_
    rintro e W13 ⟨rfl, hq⟩
    have hb := hq.below (World.heap W12).size
    replace hSaRows := MxR.below hSaRows hb
    replace hF := Fr.step hF hb
    replace hSw0 := SlR.below hSw0 hb
    replace hE := Fr.step hE hb
    replace hM := SlR.below hM hb
    replace hOh0 := ownsRow_below hOh0 hb
    replace hSh0 := SlR.below hSh0 hb
    clear hb hq
    go_wp2_with fail
    refine (heldFloat32S_any _ o0.length 1 _ (by omega) (by omega) (by omega) hM).mono ?_
    rintro e _ ⟨rfl, rfl⟩
    go_wp2_with fail
    go_ret
    exact ⟨rfl, hF⟩
  · go_enter Try.func8, Try.ntmps8
    go_wp2_with fail
    have hF : Fr w w := by (show Below _ _ _); go_grown
    have hSaRows := saRows.fr hF
    refine (szFloat32SS_gt _ aRows _ _ hSaRows (by omega) (by omega) (by omega)).mono ?_
    rintro e _ ⟨rfl, rfl⟩
    go_wp2_with fail
    go_ret
    exact ⟨rfl, hF⟩

end Go.Proofs.Ytlahmdnlamifnaa
