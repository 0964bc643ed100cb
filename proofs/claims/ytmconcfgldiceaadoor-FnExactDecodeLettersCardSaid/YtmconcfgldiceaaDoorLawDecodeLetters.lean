/- The walk of the law FnExactDecodeLetters, out of the contracts of what it calls. -/
import Derived.Test.YtmconcfgldiceaaDoorDec3
import Derived.Deep.RegionHeld3
namespace Go.Proofs.YtmconcfgldiceaaDoor
set_option linter.unusedSimpArgs false
set_option linter.unusedVariables false
open Go.RowKit

set_option maxHeartbeats 4000000 in
theorem law_DecodeLetters (w : World) (aaC : Option Addr) (caC : Nat) (aC : List Int) (maC : aC.length ≤ caC ∧ caC ≤ 9223372036854775807) (saC : SlR w (.slice aaC aC.length caC) (aC.map (Value.int .i64))) (xaC : ∀ x ∈ aC, I64 x) (aBits : ByteArray) (haBits : aBits.size ≤ 9223372036854775807) :
    Calls Tryd.prog 5 #[.agg #[.slice aaC aC.length caC], .string aBits] w fun e w' => e = .returned (.bool true) ∧ Below w.heap.size w w' := by
  by_cases z0 : aBits.size ≤ 1048576
  · by_cases z1 : aC.length ≤ 1048576
    · go_enter Tryd.func5, Tryd.ntmps5
      go_wp2_with fail
      have hF : Fr w (World.alloc w (.cells #[.slice aaC aC.length caC] 36)) := by (show Below _ _ _); go_grown
      have hBaC0 : World.cell? (World.alloc w (.cells #[.slice aaC aC.length caC] 36)) ⟨w.heap.size, 0, none⟩ = some (.slice aaC aC.length caC) := by go_cell
      have hZaC : w.heap.size < (World.heap (World.alloc w (.cells #[.slice aaC aC.length caC] 36))).size := by simp only [World.size_alloc]; omega
      have hSaC := saC.fr hF
      generalize (World.alloc w (.cells #[.slice aaC aC.length caC] 36)) = W0 at *
      refine (szCode_le _ aC.length _ _ _ (by omega) (by omega) (by omega) (by omega)).mono ?_
      rintro e W1 ⟨rfl, hb⟩
      replace hBaC0 := cell_step hBaC0 hb
      replace hZaC := Nat.lt_of_lt_of_le hZaC (Below.size hb)
      replace hSaC := SlR.below hSaC hb
      replace hF := Fr.step hF hb
      clear hb
      go_wp2_with fail
      generalize hO : out_DecodeLetters aC aBits = o
      obtain ⟨o0, o1⟩ := o
      have HO := Lib.hid hO
      have HOl : o0.length ≤ 1048576 := by have h := len_DecodeLetters aC xaC (by omega) aBits haBits (by omega); rw [hO] at h; exact h
      clear hO
      refine (toCode_any _ aC _ hSaC (by omega)).mono ?_
      rintro e W2 ⟨aT1, cT1, rfl, hOt1, hb⟩
      replace hBaC0 := cell_step hBaC0 hb
      replace hZaC := Nat.lt_of_lt_of_le hZaC (Below.size hb)
      replace hSaC := SlR.below hSaC hb
      replace hF := Fr.step hF hb
      clear hb
      replace hOt1 := SlR.own hOt1
      go_wp2_with fail
      refine (spec_DecodeLetters _ _ aC hOt1 xaC (by omega) aBits haBits (by omega)).mono ?_
      rw [HO.out]
      try dsimp only
      rintro e W3 ⟨arw, crw, rfl, hSw0, hb⟩
      replace hBaC0 := cell_step hBaC0 hb
      replace hZaC := Nat.lt_of_lt_of_le hZaC (Below.size hb)
      replace hSaC := SlR.below hSaC hb
      replace hF := Fr.step hF hb
      replace hOt1 := SlR.below hOt1 hb
      clear hb
      clear hOt1
      have hE := Fr.refl W3
      have hFE := hF
      have hBaC0_E := hBaC0
      have hSaC_E := hSaC
      have hSw0_E := hSw0
      go_wp2_with fail
      have hLx0 := Below.size hE
      refine (toCode_any _ aC _ hSaC (by omega)).mono ?_
      rintro e W4 ⟨ax0, cx0, rfl, hOx0, hb⟩
      replace hBaC0 := cell_step hBaC0 hb
      replace hZaC := Nat.lt_of_lt_of_le hZaC (Below.size hb)
      replace hSaC := SlR.below hSaC hb
      replace hF := Fr.step hF hb
      replace hSw0 := SlR.below hSw0 hb
      replace hE := Fr.step hE hb
      have hVx0 := Below.size hb
      clear hb
      have hSx0 := SlR.own hOx0
      have hHx0 : ∀ k, Value.ownBlock (.slice ax0 aC.length cx0) = some k → k < (World.heap W4).size := fun k hk => (hOx0.lt k hk).2
      have hXx0 := Nat.le_refl (World.heap W4).size
      go_wp2_with fail
      have hb : Below (World.heap W4).size W4 (World.alloc W4 (.cells #[.slice ax0 aC.length cx0] 39)) := by go_grown
      replace hBaC0 := cell_step hBaC0 hb
      replace hZaC := Nat.lt_of_lt_of_le hZaC (Below.size hb)
      replace hSaC := SlR.below hSaC hb
      replace hF := Fr.step hF hb
      replace hSw0 := SlR.below hSw0 hb
      replace hE := Fr.step hE hb
      replace hOx0 := ownsRow_below hOx0 hb
      replace hSx0 := SlR.below hSx0 hb
      have hBx00 : World.cell? (World.alloc W4 (.cells #[.slice ax0 aC.length cx0] 39)) ⟨(World.heap W4).size, 0, none⟩ = some (.slice ax0 aC.length cx0) := by simp
      have hZx0 : (World.heap W4).size < (World.heap (World.alloc W4 (.cells #[.slice ax0 aC.length cx0] 39))).size := by simp
      clear hb
      generalize (World.alloc W4 (.cells #[.slice ax0 aC.length cx0] 39)) = W5 at *
      have hgE := Below.size hE
      have hGx0 : ∀ k, Value.ownBlock (.slice ax0 aC.length cx0) = some k → k < (World.heap W5).size := fun k hk => (hOx0.lt k hk).2
      refine (impl_DecodeLetters _ _ aC hSx0 xaC (by omega) aBits haBits (by omega)).mono ?_
      rw [HO.out]
      try dsimp only
      rintro e W6 ⟨arg, crg, rfl, hOg0, hb⟩
      replace hBaC0 := cell_step hBaC0 hb
      replace hZaC := Nat.lt_of_lt_of_le hZaC (Below.size hb)
      replace hSaC := SlR.below hSaC hb
      replace hF := Fr.step hF hb
      replace hSw0 := SlR.below hSw0 hb
      replace hE := Fr.step hE hb
      replace hOx0 := ownsRow_below hOx0 hb
      replace hSx0 := SlR.below hSx0 hb
      replace hBx00 := cell_step hBx00 hb
      replace hZx0 := Nat.lt_of_lt_of_le hZx0 (Below.size hb)
      clear hb
      have hSg0 := SlR.own hOg0
      have hHg0 : ∀ k, Value.ownBlock (.slice arg o0.length crg) = some k → k < (World.heap W6).size := fun k hk => (hOg0.lt k hk).2
      go_wp2_with fail
      refine (eqInt64S_same _ _ o0 _ hSg0 hSw0).mono ?_
      rintro e W7 ⟨rfl, hq⟩
      have hb := hq.below (World.heap W6).size
      replace hBaC0 := cell_step hBaC0 hb
      replace hZaC := Nat.lt_of_lt_of_le hZaC (Below.size hb)
      replace hSaC := SlR.below hSaC hb
      replace hF := Fr.step hF hb
      replace hSw0 := SlR.below hSw0 hb
      replace hE := Fr.step hE hb
      replace hOx0 := ownsRow_below hOx0 hb
      replace hSx0 := SlR.below hSx0 hb
      replace hBx00 := cell_step hBx00 hb
      replace hZx0 := Nat.lt_of_lt_of_le hZx0 (Below.size hb)
      replace hOg0 := ownsRow_below hOg0 hb
      replace hSg0 := SlR.below hSg0 hb
      clear hb hq
      go_wp2_with fail
      go_region_held3 (fun W => World.cell? W ⟨w.heap.size, 0, none⟩ = some (.slice aaC aC.length caC) ∧ World.cell? W ⟨(World.heap W4).size, 0, none⟩ = some (.slice ax0 aC.length cx0) ∧ Fr W7 W) (first | exact keep2 (by assumption) (by assumption) | exact ⟨hBaC0, hBx00, (Fr.refl _).drew⟩)
        (first | (go_at_call 19; (with_reducible refine (toCode_any (.slice aaC aC.length caC) aC _ (hSaC.fr (‹_ ∧ _ ∧ Fr W7 _›).2.2) (by omega)).mono ?_); rintro e V1 ⟨b1, d1, rfl, hown1, hb1⟩) | (go_at_call 21; (with_reducible refine (eqCode_same _ _ aC _ (hSx0.fr (‹_ ∧ _ ∧ Fr W7 _›).2.2) (SlR.own hown1)).mono ?_); rintro e V2 ⟨rfl, hb2⟩))
      rename_i hHold
      obtain ⟨hBaC0_, hBx00_, hb⟩ := hHold
      replace hBaC0 := hBaC0_; clear hBaC0_
      replace hBx00 := hBx00_; clear hBx00_
      replace hZaC := Nat.lt_of_lt_of_le hZaC (Below.size hb)
      replace hSaC := SlR.below hSaC hb
      replace hF := Fr.step hF hb
      replace hSw0 := SlR.below hSw0 hb
      replace hE := Fr.step hE hb
      replace hOx0 := ownsRow_below hOx0 hb
      replace hSx0 := SlR.below hSx0 hb
      replace hZx0 := Nat.lt_of_lt_of_le hZx0 (Below.size hb)
      replace hOg0 := ownsRow_below hOg0 hb
      replace hSg0 := SlR.below hSg0 hb
      clear hb
      clear hown1 hb1 hb2
      go_wp2_with fail
      refine (markCode_any _ aC.length _ _ 1 _ _ (by omega) (by omega) (by omega) hOx0).mono ?_
      rintro e W9 ⟨rfl, hOm, hg⟩
      replace hE := hE.grown hg hOx0 hLx0
      replace hF := hFE.step hE
      replace hBaC0 := cell_step hBaC0_E hE
      replace hSaC := SlR.fr hSaC_E hE
      replace hSw0 := SlR.fr hSw0_E hE
      clear hBx00
      replace hOg0 := own_apart hOg0 hg hGx0
      replace hSg0 := SlR.own hOg0
      clear hOx0
      clear hSx0
      replace hZaC := Nat.lt_of_lt_of_le hZaC hg.size
      replace hZx0 := Nat.lt_of_lt_of_le hZx0 hg.size
      clear hOm hg
      go_wp2_with fail
      refine (eqInt64S_same _ _ o0 _ hSg0 hSw0).mono ?_
      rintro e W10 ⟨rfl, hq⟩
      have hb := hq.below (World.heap W9).size
      replace hBaC0 := cell_step hBaC0 hb
      replace hZaC := Nat.lt_of_lt_of_le hZaC (Below.size hb)
      replace hSaC := SlR.below hSaC hb
      replace hF := Fr.step hF hb
      replace hSw0 := SlR.below hSw0 hb
      replace hE := Fr.step hE hb
      replace hZx0 := Nat.lt_of_lt_of_le hZx0 (Below.size hb)
      replace hOg0 := ownsRow_below hOg0 hb
      replace hSg0 := SlR.below hSg0 hb
      clear hb hq
      go_wp2_with fail
      refine (markInt64S_any _ o0.length _ _ 1 _ _ (by omega) (by omega) (by omega) hOg0).mono ?_
      rintro e W11 ⟨rfl, hOm, hg⟩
      replace hE := hE.grown hg hOg0 hgE
      replace hF := hFE.step hE
      replace hBaC0 := cell_step hBaC0_E hE
      replace hSaC := SlR.fr hSaC_E hE
      replace hSw0 := SlR.fr hSw0_E hE
      clear hOg0
      clear hSg0
      have hM := SlR.own hOm
      replace hZaC := Nat.lt_of_lt_of_le hZaC hg.size
      replace hZx0 := Nat.lt_of_lt_of_le hZx0 hg.size
      clear hOm hg
      go_wp2_with fail
      refine (heldInt64S_any _ o0.length 1 _ (by omega) (by omega) (by omega) hM).mono ?_
      rintro e _ ⟨rfl, rfl⟩
      go_wp2_with fail
      refine (toCode_any _ aC _ hSaC (by omega)).mono ?_
      rintro e W12 ⟨aT1, cT1, rfl, hOt1, hb⟩
      replace hBaC0 := cell_step hBaC0 hb
      replace hZaC := Nat.lt_of_lt_of_le hZaC (Below.size hb)
      replace hSaC := SlR.below hSaC hb
      replace hF := Fr.step hF hb
      replace hSw0 := SlR.below hSw0 hb
      replace hE := Fr.step hE hb
      replace hZx0 := Nat.lt_of_lt_of_le hZx0 (Below.size hb)
      replace hM := SlR.below hM hb
      clear hb
      replace hOt1 := SlR.own hOt1
      go_wp2_with fail
      refine (impl_DecodeLetters _ _ aC hOt1 xaC (by omega) aBits haBits (by omega)).mono ?_
      rw [HO.out]
      try dsimp only
      rintro e W13 ⟨arh, crh, rfl, hOh0, hb⟩
      replace hBaC0 := cell_step hBaC0 hb
      replace hZaC := Nat.lt_of_lt_of_le hZaC (Below.size hb)
      replace hSaC := SlR.below hSaC hb
      replace hF := Fr.step hF hb
      replace hSw0 := SlR.below hSw0 hb
      replace hE := Fr.step hE hb
      replace hZx0 := Nat.lt_of_lt_of_le hZx0 (Below.size hb)
      replace hM := SlR.below hM hb
      replace hOt1 := SlR.below hOt1 hb
      clear hb
      clear hOt1
      have hSh0 := SlR.own hOh0
      go_wp2_with fail
      refine (eqInt64S_same _ _ o0 _ hSh0 hSw0).mono ?_
      rintro e W14 ⟨rfl, hq⟩
      have hb := hq.below (World.heap W13).size
      replace hBaC0 := cell_step hBaC0 hb
      replace hZaC := Nat.lt_of_lt_of_le hZaC (Below.size hb)
      replace hSaC := SlR.below hSaC hb
      replace hF := Fr.step hF hb
      replace hSw0 := SlR.below hSw0 hb
      replace hE := Fr.step hE hb
      replace hZx0 := Nat.lt_of_lt_of_le hZx0 (Below.size hb)
      replace hM := SlR.below hM hb
      replace hOh0 := ownsRow_below hOh0 hb
      replace hSh0 := SlR.below hSh0 hb
      clear hb hq
      go_wp2_with fail
      refine (heldInt64S_any _ o0.length 1 _ (by omega) (by omega) (by omega) hM).mono ?_
      rintro e _ ⟨rfl, rfl⟩
      go_wp2_with fail
      go_ret
      exact ⟨rfl, hF⟩
    · go_enter Tryd.func5, Tryd.ntmps5
      go_wp2_with fail
      have hF : Fr w (World.alloc w (.cells #[.slice aaC aC.length caC] 36)) := by (show Below _ _ _); go_grown
      have hBaC0 : World.cell? (World.alloc w (.cells #[.slice aaC aC.length caC] 36)) ⟨w.heap.size, 0, none⟩ = some (.slice aaC aC.length caC) := by go_cell
      have hZaC : w.heap.size < (World.heap (World.alloc w (.cells #[.slice aaC aC.length caC] 36))).size := by simp only [World.size_alloc]; omega
      have hSaC := saC.fr hF
      generalize (World.alloc w (.cells #[.slice aaC aC.length caC] 36)) = W0 at *
      refine (szCode_gt _ aC.length _ _ _ (by omega) (by omega) (by omega) (by omega)).mono ?_
      rintro e W1 ⟨rfl, hb⟩
      replace hBaC0 := cell_step hBaC0 hb
      replace hZaC := Nat.lt_of_lt_of_le hZaC (Below.size hb)
      replace hSaC := SlR.below hSaC hb
      replace hF := Fr.step hF hb
      clear hb
      go_wp2_with fail
      go_ret
      exact ⟨rfl, hF⟩
  · go_enter Tryd.func5, Tryd.ntmps5
    go_wp2_with fail
    have hF : Fr w (World.alloc w (.cells #[.slice aaC aC.length caC] 36)) := by (show Below _ _ _); go_grown
    have hBaC0 : World.cell? (World.alloc w (.cells #[.slice aaC aC.length caC] 36)) ⟨w.heap.size, 0, none⟩ = some (.slice aaC aC.length caC) := by go_cell
    have hZaC : w.heap.size < (World.heap (World.alloc w (.cells #[.slice aaC aC.length caC] 36))).size := by simp only [World.size_alloc]; omega
    have hSaC := saC.fr hF
    generalize (World.alloc w (.cells #[.slice aaC aC.length caC] 36)) = W0 at *
    go_ret
    exact ⟨rfl, hF⟩

end Go.Proofs.YtmconcfgldiceaaDoor
