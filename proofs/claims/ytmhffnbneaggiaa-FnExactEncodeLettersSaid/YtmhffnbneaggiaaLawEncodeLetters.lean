/- The walk of the law FnExactEncodeLetters, out of the contracts of what it calls. -/
import Derived.Test.YtmhffnbneaggiaaEns
import Derived.Deep.RegionHeld3
namespace Go.Proofs.Ytmhffnbneaggiaa
set_option linter.unusedSimpArgs false
set_option linter.unusedVariables false
open Go.RowKit

set_option maxHeartbeats 4000000 in
theorem law_EncodeLetters (w : World) (aaC : Option Addr) (caC : Nat) (aC : List Int) (maC : aC.length ≤ caC ∧ caC ≤ 9223372036854775807) (saC : SlR w (.slice aaC aC.length caC) (aC.map (Value.int .i64))) (xaC : ∀ x ∈ aC, I64 x) (aaLetters : Option Addr) (caLetters : Nat) (aLetters : List Int) (maLetters : aLetters.length ≤ caLetters ∧ caLetters ≤ 9223372036854775807) (saLetters : SlR w (.slice aaLetters aLetters.length caLetters) (aLetters.map (Value.int .i64))) (xaLetters : ∀ x ∈ aLetters, I64 x) :
    Calls Try.prog 6 #[.agg #[.slice aaC aC.length caC], .slice aaLetters aLetters.length caLetters] w fun e w' => e = .returned (.bool true) ∧ Below w.heap.size w w' := by
  by_cases z0 : aLetters.length ≤ 1048576
  · by_cases z1 : aC.length ≤ 1048576
    · go_enter Try.func6, Try.ntmps6
      go_wp2_with fail
      have hF : Fr w (World.alloc w (.cells #[.slice aaC aC.length caC] 39)) := by (show Below _ _ _); go_grown
      have hBaC0 : World.cell? (World.alloc w (.cells #[.slice aaC aC.length caC] 39)) ⟨w.heap.size, 0, none⟩ = some (.slice aaC aC.length caC) := by go_cell
      have hZaC : w.heap.size < (World.heap (World.alloc w (.cells #[.slice aaC aC.length caC] 39))).size := by simp only [World.size_alloc]; omega
      have hSaC := saC.fr hF
      have hSaLetters := saLetters.fr hF
      generalize (World.alloc w (.cells #[.slice aaC aC.length caC] 39)) = W0 at *
      refine (szCode_le _ aC.length _ _ _ (by omega) (by omega) (by omega) (by omega)).mono ?_
      rintro e W1 ⟨rfl, hb⟩
      replace hBaC0 := cell_step hBaC0 hb
      replace hZaC := Nat.lt_of_lt_of_le hZaC (Below.size hb)
      replace hSaC := SlR.below hSaC hb
      replace hSaLetters := SlR.below hSaLetters hb
      replace hF := Fr.step hF hb
      clear hb
      go_wp2_with fail
      generalize hO : out_EncodeLetters aC aLetters = o
      obtain ⟨o0, o1⟩ := o
      have HO := Lib.hid hO
      clear hO
      refine (toCode_any _ aC _ hSaC (by omega)).mono ?_
      rintro e W2 ⟨aT1, cT1, rfl, hOt1, hb⟩
      replace hBaC0 := cell_step hBaC0 hb
      replace hZaC := Nat.lt_of_lt_of_le hZaC (Below.size hb)
      replace hSaC := SlR.below hSaC hb
      replace hSaLetters := SlR.below hSaLetters hb
      replace hF := Fr.step hF hb
      clear hb
      replace hOt1 := SlR.own hOt1
      go_wp2_with fail
      refine (toInt64S_any _ aLetters _ hSaLetters (by omega)).mono ?_
      rintro e W3 ⟨aT2, cT2, rfl, hOt2, hb⟩
      replace hBaC0 := cell_step hBaC0 hb
      replace hZaC := Nat.lt_of_lt_of_le hZaC (Below.size hb)
      replace hSaC := SlR.below hSaC hb
      replace hSaLetters := SlR.below hSaLetters hb
      replace hF := Fr.step hF hb
      replace hOt1 := SlR.below hOt1 hb
      clear hb
      replace hOt2 := SlR.own hOt2
      go_wp2_with fail
      refine (spec_EncodeLetters _ _ aC hOt1 xaC (by omega) _ aLetters hOt2 xaLetters (by omega)).mono ?_
      rw [HO.out]
      try dsimp only
      rintro e W4 ⟨rfl, hb⟩
      replace hBaC0 := cell_step hBaC0 hb
      replace hZaC := Nat.lt_of_lt_of_le hZaC (Below.size hb)
      replace hSaC := SlR.below hSaC hb
      replace hSaLetters := SlR.below hSaLetters hb
      replace hF := Fr.step hF hb
      replace hOt1 := SlR.below hOt1 hb
      replace hOt2 := SlR.below hOt2 hb
      clear hb
      clear hOt1
      clear hOt2
      have hE := Fr.refl W4
      have hFE := hF
      have hBaC0_E := hBaC0
      have hSaC_E := hSaC
      have hSaLetters_E := hSaLetters
      go_wp2_with fail
      have hLx0 := Below.size hE
      refine (toCode_any _ aC _ hSaC (by omega)).mono ?_
      rintro e W5 ⟨ax0, cx0, rfl, hOx0, hb⟩
      replace hBaC0 := cell_step hBaC0 hb
      replace hZaC := Nat.lt_of_lt_of_le hZaC (Below.size hb)
      replace hSaC := SlR.below hSaC hb
      replace hSaLetters := SlR.below hSaLetters hb
      replace hF := Fr.step hF hb
      replace hE := Fr.step hE hb
      clear hb
      have hSx0 := SlR.own hOx0
      have hHx0 : ∀ k, Value.ownBlock (.slice ax0 aC.length cx0) = some k → k < (World.heap W5).size := fun k hk => (hOx0.lt k hk).2
      have hXx0 := Nat.le_refl (World.heap W5).size
      go_wp2_with fail
      have hb : Below (World.heap W5).size W5 (World.alloc W5 (.cells #[.slice ax0 aC.length cx0] 24)) := by go_grown
      replace hBaC0 := cell_step hBaC0 hb
      replace hZaC := Nat.lt_of_lt_of_le hZaC (Below.size hb)
      replace hSaC := SlR.below hSaC hb
      replace hSaLetters := SlR.below hSaLetters hb
      replace hF := Fr.step hF hb
      replace hE := Fr.step hE hb
      replace hOx0 := ownsRow_below hOx0 hb
      replace hSx0 := SlR.below hSx0 hb
      have hBx00 : World.cell? (World.alloc W5 (.cells #[.slice ax0 aC.length cx0] 24)) ⟨(World.heap W5).size, 0, none⟩ = some (.slice ax0 aC.length cx0) := by simp
      have hZx0 : (World.heap W5).size < (World.heap (World.alloc W5 (.cells #[.slice ax0 aC.length cx0] 24))).size := by simp
      clear hb
      generalize (World.alloc W5 (.cells #[.slice ax0 aC.length cx0] 24)) = W6 at *
      have hLx1 := Below.size hE
      refine (toInt64S_any _ aLetters _ hSaLetters (by omega)).mono ?_
      rintro e W7 ⟨ax1, cx1, rfl, hOx1, hb⟩
      replace hBaC0 := cell_step hBaC0 hb
      replace hZaC := Nat.lt_of_lt_of_le hZaC (Below.size hb)
      replace hSaC := SlR.below hSaC hb
      replace hSaLetters := SlR.below hSaLetters hb
      replace hF := Fr.step hF hb
      replace hE := Fr.step hE hb
      replace hOx0 := ownsRow_below hOx0 hb
      replace hSx0 := SlR.below hSx0 hb
      replace hBx00 := cell_step hBx00 hb
      replace hZx0 := Nat.lt_of_lt_of_le hZx0 (Below.size hb)
      clear hb
      have hSx1 := SlR.own hOx1
      have hHx1 : ∀ k, Value.ownBlock (.slice ax1 aLetters.length cx1) = some k → k < (World.heap W7).size := fun k hk => (hOx1.lt k hk).2
      go_wp2_with fail
      refine (impl_EncodeLetters _ _ aC hSx0 xaC (by omega) _ aLetters hSx1 xaLetters (by omega)).mono ?_
      rw [HO.out]
      try dsimp only
      rintro e W8 ⟨rfl, hb⟩
      replace hBaC0 := cell_step hBaC0 hb
      replace hZaC := Nat.lt_of_lt_of_le hZaC (Below.size hb)
      replace hSaC := SlR.below hSaC hb
      replace hSaLetters := SlR.below hSaLetters hb
      replace hF := Fr.step hF hb
      replace hE := Fr.step hE hb
      replace hOx0 := ownsRow_below hOx0 hb
      replace hSx0 := SlR.below hSx0 hb
      replace hBx00 := cell_step hBx00 hb
      replace hZx0 := Nat.lt_of_lt_of_le hZx0 (Below.size hb)
      replace hOx1 := ownsRow_below hOx1 hb
      replace hSx1 := SlR.below hSx1 hb
      clear hb
      go_wp2_with fail
      go_region_held3 (fun W => World.cell? W ⟨w.heap.size, 0, none⟩ = some (.slice aaC aC.length caC) ∧ World.cell? W ⟨(World.heap W5).size, 0, none⟩ = some (.slice ax0 aC.length cx0) ∧ Fr W8 W) (first | exact keep2 (by assumption) (by assumption) | exact ⟨hBaC0, hBx00, (Fr.refl _).drew⟩)
        (first | (go_at_call 24; (with_reducible refine (toCode_any (.slice aaC aC.length caC) aC _ (hSaC.fr (‹_ ∧ _ ∧ Fr W8 _›).2.2) (by omega)).mono ?_); rintro e V1 ⟨b1, d1, rfl, hown1, hb1⟩) | (go_at_call 13; (with_reducible refine (eqCode_same _ _ aC _ (hSx0.fr (‹_ ∧ _ ∧ Fr W8 _›).2.2) (SlR.own hown1)).mono ?_); rintro e V2 ⟨rfl, hb2⟩))
      rename_i hHold
      obtain ⟨hBaC0_, hBx00_, hb⟩ := hHold
      replace hBaC0 := hBaC0_; clear hBaC0_
      replace hBx00 := hBx00_; clear hBx00_
      replace hZaC := Nat.lt_of_lt_of_le hZaC (Below.size hb)
      replace hSaC := SlR.below hSaC hb
      replace hSaLetters := SlR.below hSaLetters hb
      replace hF := Fr.step hF hb
      replace hE := Fr.step hE hb
      replace hOx0 := ownsRow_below hOx0 hb
      replace hSx0 := SlR.below hSx0 hb
      replace hZx0 := Nat.lt_of_lt_of_le hZx0 (Below.size hb)
      replace hOx1 := ownsRow_below hOx1 hb
      replace hSx1 := SlR.below hSx1 hb
      clear hb
      clear hown1 hb1 hb2
      go_wp2_with fail
      refine (toInt64S_any _ aLetters _ hSaLetters (by omega)).mono ?_
      rintro e W10 ⟨aT, cT, rfl, hOt, hb⟩
      replace hBaC0 := cell_step hBaC0 hb
      replace hZaC := Nat.lt_of_lt_of_le hZaC (Below.size hb)
      replace hSaC := SlR.below hSaC hb
      replace hSaLetters := SlR.below hSaLetters hb
      replace hF := Fr.step hF hb
      replace hE := Fr.step hE hb
      replace hOx0 := ownsRow_below hOx0 hb
      replace hSx0 := SlR.below hSx0 hb
      replace hBx00 := cell_step hBx00 hb
      replace hZx0 := Nat.lt_of_lt_of_le hZx0 (Below.size hb)
      replace hOx1 := ownsRow_below hOx1 hb
      replace hSx1 := SlR.below hSx1 hb
      clear hb
      replace hOt := SlR.own hOt
      go_wp2_with fail
      refine (eqInt64S_same _ _ aLetters _ hSx1 hOt).mono ?_
      rintro e W11 ⟨rfl, hq⟩
      have hb := hq.below (World.heap W10).size
      replace hBaC0 := cell_step hBaC0 hb
      replace hZaC := Nat.lt_of_lt_of_le hZaC (Below.size hb)
      replace hSaC := SlR.below hSaC hb
      replace hSaLetters := SlR.below hSaLetters hb
      replace hF := Fr.step hF hb
      replace hE := Fr.step hE hb
      replace hOx0 := ownsRow_below hOx0 hb
      replace hSx0 := SlR.below hSx0 hb
      replace hBx00 := cell_step hBx00 hb
      replace hZx0 := Nat.lt_of_lt_of_le hZx0 (Below.size hb)
      replace hOx1 := ownsRow_below hOx1 hb
      replace hSx1 := SlR.below hSx1 hb
      clear hb hq
      clear hOt
      go_wp2_with fail
      go_ret
      exact ⟨rfl, hF⟩
    · go_enter Try.func6, Try.ntmps6
      go_wp2_with fail
      have hF : Fr w (World.alloc w (.cells #[.slice aaC aC.length caC] 39)) := by (show Below _ _ _); go_grown
      have hBaC0 : World.cell? (World.alloc w (.cells #[.slice aaC aC.length caC] 39)) ⟨w.heap.size, 0, none⟩ = some (.slice aaC aC.length caC) := by go_cell
      have hZaC : w.heap.size < (World.heap (World.alloc w (.cells #[.slice aaC aC.length caC] 39))).size := by simp only [World.size_alloc]; omega
      have hSaC := saC.fr hF
      have hSaLetters := saLetters.fr hF
      generalize (World.alloc w (.cells #[.slice aaC aC.length caC] 39)) = W0 at *
      refine (szCode_gt _ aC.length _ _ _ (by omega) (by omega) (by omega) (by omega)).mono ?_
      rintro e W1 ⟨rfl, hb⟩
      replace hBaC0 := cell_step hBaC0 hb
      replace hZaC := Nat.lt_of_lt_of_le hZaC (Below.size hb)
      replace hSaC := SlR.below hSaC hb
      replace hSaLetters := SlR.below hSaLetters hb
      replace hF := Fr.step hF hb
      clear hb
      go_wp2_with fail
      go_ret
      exact ⟨rfl, hF⟩
  · go_enter Try.func6, Try.ntmps6
    go_wp2_with fail
    have hF : Fr w (World.alloc w (.cells #[.slice aaC aC.length caC] 39)) := by (show Below _ _ _); go_grown
    have hBaC0 : World.cell? (World.alloc w (.cells #[.slice aaC aC.length caC] 39)) ⟨w.heap.size, 0, none⟩ = some (.slice aaC aC.length caC) := by go_cell
    have hZaC : w.heap.size < (World.heap (World.alloc w (.cells #[.slice aaC aC.length caC] 39))).size := by simp only [World.size_alloc]; omega
    have hSaC := saC.fr hF
    have hSaLetters := saLetters.fr hF
    generalize (World.alloc w (.cells #[.slice aaC aC.length caC] 39)) = W0 at *
    go_ret
    exact ⟨rfl, hF⟩

end Go.Proofs.Ytmhffnbneaggiaa
