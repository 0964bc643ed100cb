/- The walk of the law FnExactMeanLong, out of the contracts of what it calls. -/
import Derived.Test.YtadakijlihibeaaMea
import Derived.Deep.RegionHeld3
import Derived.Test.YtadakijlihibeaaHrg
namespace Go.Proofs.Ytadakijlihibeaa
set_option linter.unusedSimpArgs false
set_option linter.unusedVariables false
open Go.RowKit

set_option maxHeartbeats 4000000 in
theorem law_MeanLong (w : World) (aaC : Option Addr) (caC : Nat) (aC : List Int) (maC : aC.length ≤ caC ∧ caC ≤ 9223372036854775807) (saC : SlR w (.slice aaC aC.length caC) (aC.map (Value.int .i64))) (xaC : ∀ x ∈ aC, I64 x) (aaRow : Option Addr) (caRow : Nat) (aRow : List Nat) (maRow : aRow.length ≤ caRow ∧ caRow ≤ 9223372036854775807) (saRow : SlR w (.slice aaRow aRow.length caRow) (aRow.map (Value.float .f32))) (xaRow : ∀ x ∈ aRow, x < 4294967296) :
    Calls Try.prog 11 #[.agg #[.slice aaC aC.length caC], .slice aaRow aRow.length caRow] w fun e w' => e = .returned (.bool true) ∧ Below w.heap.size w w' := by
  by_cases z0 : aRow.length ≤ 1048576
  · by_cases z1 : aC.length ≤ 1048576
    · go_enter Try.func11, Try.ntmps11
      go_wp2_with fail
      have hF : Fr w (World.alloc w (.cells #[.slice aaC aC.length caC] 55)) := by (show Below _ _ _); go_grown
      have hBaC0 : World.cell? (World.alloc w (.cells #[.slice aaC aC.length caC] 55)) ⟨w.heap.size, 0, none⟩ = some (.slice aaC aC.length caC) := by go_cell
      have hZaC : w.heap.size < (World.heap (World.alloc w (.cells #[.slice aaC aC.length caC] 55))).size := by simp only [World.size_alloc]; omega
      have hSaC := saC.fr hF
      have hSaRow := saRow.fr hF
      generalize (World.alloc w (.cells #[.slice aaC aC.length caC] 55)) = W0 at *
      refine (szCode_le _ aC.length _ _ _ (by omega) (by omega) (by omega) (by omega)).mono ?_
      rintro e W1 ⟨rfl, hb⟩
      replace hBaC0 := cell_step hBaC0 hb
      replace hZaC := Nat.lt_of_lt_of_le hZaC (Below.size hb)
      replace hSaC := SlR.below hSaC hb
      replace hSaRow := SlR.below hSaRow hb
      replace hF := Fr.step hF hb
      clear hb
      go_wp2_with fail
      generalize hO : out_MeanLong aC aRow = o
      obtain ⟨o0, o1⟩ := o
      have HO := Lib.hid hO
      have HN0 : nanB o0 = false := by have h := nan0_MeanLong aC xaC (by omega) aRow xaRow (by omega); rw [hO] at h; exact h
      clear hO
      obtain ⟨fr0, hfr0, -⟩ := conv_up_some HN0
      have HCV0 : Hid (∀ W : World, (convert 44 63 (.float .f32 o0)).run Try.prog W = .ok (.float .f64 fr0) W) := by show ∀ W : World, _; exact fun W => run_convert_float_float W _ _ .f32 .f64 o0 fr0 (by rw [Try.underlying44]; rfl) Try.underlying63 hfr0
      clear HN0 hfr0
      refine (toCode_any _ aC _ hSaC (by omega)).mono ?_
      rintro e W2 ⟨aT1, cT1, rfl, hOt1, hb⟩
      replace hBaC0 := cell_step hBaC0 hb
      replace hZaC := Nat.lt_of_lt_of_le hZaC (Below.size hb)
      replace hSaC := SlR.below hSaC hb
      replace hSaRow := SlR.below hSaRow hb
      replace hF := Fr.step hF hb
      clear hb
      replace hOt1 := SlR.own hOt1
      go_wp2_with fail
      refine (toFloat32S_any _ aRow _ hSaRow (by omega)).mono ?_
      rintro e W3 ⟨aT2, cT2, rfl, hOt2, hb⟩
      replace hBaC0 := cell_step hBaC0 hb
      replace hZaC := Nat.lt_of_lt_of_le hZaC (Below.size hb)
      replace hSaC := SlR.below hSaC hb
      replace hSaRow := SlR.below hSaRow hb
      replace hF := Fr.step hF hb
      replace hOt1 := SlR.below hOt1 hb
      clear hb
      replace hOt2 := SlR.own hOt2
      go_wp2_with fail
      refine (spec_MeanLong _ _ aC hOt1 xaC (by omega) _ aRow hOt2 xaRow (by omega)).mono ?_
      rw [HO.out]
      try dsimp only
      rintro e W4 ⟨rfl, hb⟩
      replace hBaC0 := cell_step hBaC0 hb
      replace hZaC := Nat.lt_of_lt_of_le hZaC (Below.size hb)
      replace hSaC := SlR.below hSaC hb
      replace hSaRow := SlR.below hSaRow hb
      replace hF := Fr.step hF hb
      replace hOt1 := SlR.below hOt1 hb
      replace hOt2 := SlR.below hOt2 hb
      clear hb
      clear hOt1
      clear hOt2
      have hE := Fr.refl W4
      have hFE := hF
      have hBaC0_E := hBaC0
      have hSaC_E := hSaC
      have hSaRow_E := hSaRow
      go_wp2_with fail
      have hLx0 := Below.size hE
      refine (toCode_any _ aC _ hSaC (by omega)).mono ?_
      rintro e W5 ⟨ax0, cx0, rfl, hOx0, hb⟩
      replace hBaC0 := cell_step hBaC0 hb
      replace hZaC := Nat.lt_of_lt_of_le hZaC (Below.size hb)
      replace hSaC := SlR.below hSaC hb
      replace hSaRow := SlR.below hSaRow hb
      replace hF := Fr.step hF hb
      replace hE := Fr.step hE hb
      clear hb
      have hSx0 := SlR.own hOx0
      have hHx0 : ∀ k, Value.ownBlock (.slice ax0 aC.length cx0) = some k → k < (World.heap W5).size := fun k hk => (hOx0.lt k hk).2
      have hXx0 := Nat.le_refl (World.heap W5).size
      go_wp2_with fail
      have hb : Below (World.heap W5).size W5 (World.alloc W5 (.cells #[.slice ax0 aC.length cx0] 59)) := by go_grown
      replace hBaC0 := cell_step hBaC0 hb
      replace hZaC := Nat.lt_of_lt_of_le hZaC (Below.size hb)
      replace hSaC := SlR.below hSaC hb
      replace hSaRow := SlR.below hSaRow hb
      replace hF := Fr.step hF hb
      replace hE := Fr.step hE hb
      replace hOx0 := ownsRow_below hOx0 hb
      replace hSx0 := SlR.below hSx0 hb
      have hBx00 : World.cell? (World.alloc W5 (.cells #[.slice ax0 aC.length cx0] 59)) ⟨(World.heap W5).size, 0, none⟩ = some (.slice ax0 aC.length cx0) := by simp
      have hZx0 : (World.heap W5).size < (World.heap (World.alloc W5 (.cells #[.slice ax0 aC.length cx0] 59))).size := by simp
      clear hb
      generalize (World.alloc W5 (.cells #[.slice ax0 aC.length cx0] 59)) = W6 at *
      have hLx1 := Below.size hE
      refine (toFloat32S_any _ aRow _ hSaRow (by omega)).mono ?_
      rintro e W7 ⟨ax1, cx1, rfl, hOx1, hb⟩
      replace hBaC0 := cell_step hBaC0 hb
      replace hZaC := Nat.lt_of_lt_of_le hZaC (Below.size hb)
      replace hSaC := SlR.below hSaC hb
      replace hSaRow := SlR.below hSaRow hb
      replace hF := Fr.step hF hb
      replace hE := Fr.step hE hb
      replace hOx0 := ownsRow_below hOx0 hb
      replace hSx0 := SlR.below hSx0 hb
      replace hBx00 := cell_step hBx00 hb
      replace hZx0 := Nat.lt_of_lt_of_le hZx0 (Below.size hb)
      clear hb
      have hSx1 := SlR.own hOx1
      have hHx1 : ∀ k, Value.ownBlock (.slice ax1 aRow.length cx1) = some k → k < (World.heap W7).size := fun k hk => (hOx1.lt k hk).2
      go_wp2_with fail
      refine (impl_MeanLong _ _ aC hSx0 xaC (by omega) _ aRow hSx1 xaRow (by omega)).mono ?_
      rw [HO.out]
      try dsimp only
      rintro e W8 ⟨rfl, hb⟩
      replace hBaC0 := cell_step hBaC0 hb
      replace hZaC := Nat.lt_of_lt_of_le hZaC (Below.size hb)
      replace hSaC := SlR.below hSaC hb
      replace hSaRow := SlR.below hSaRow hb
      replace hF := Fr.step hF hb
      replace hE := Fr.step hE hb
      replace hOx0 := ownsRow_below hOx0 hb
      replace hSx0 := SlR.below hSx0 hb
      replace hBx00 := cell_step hBx00 hb
      replace hZx0 := Nat.lt_of_lt_of_le hZx0 (Below.size hb)
      replace hOx1 := ownsRow_below hOx1 hb
      replace hSx1 := SlR.below hSx1 hb
      clear hb
      have hcv0 := HCV0.out
      go_wp2_with fail
      refine (sameFloat_self _ _).mono ?_
      rintro e W9 ⟨rfl, hq⟩
      have hb := hq.below (World.heap W8).size
      replace hBaC0 := cell_step hBaC0 hb
      replace hZaC := Nat.lt_of_lt_of_le hZaC (Below.size hb)
      replace hSaC := SlR.below hSaC hb
      replace hSaRow := SlR.below hSaRow hb
      replace hF := Fr.step hF hb
      replace hE := Fr.step hE hb
      replace hOx0 := ownsRow_below hOx0 hb
      replace hSx0 := SlR.below hSx0 hb
      replace hBx00 := cell_step hBx00 hb
      replace hZx0 := Nat.lt_of_lt_of_le hZx0 (Below.size hb)
      replace hOx1 := ownsRow_below hOx1 hb
      replace hSx1 := SlR.below hSx1 hb
      clear hb hq
      go_wp2_with fail
      go_region_held3 (fun W => World.cell? W ⟨w.heap.size, 0, none⟩ = some (.slice aaC aC.length caC) ∧ World.cell? W ⟨(World.heap W5).size, 0, none⟩ = some (.slice ax0 aC.length cx0) ∧ Fr W9 W) (first | exact keep2 (by assumption) (by assumption) | exact ⟨hBaC0, hBx00, (Fr.refl _).drew⟩)
        (first | (go_at_call 46; (with_reducible refine (toCode_any (.slice aaC aC.length caC) aC _ (hSaC.fr (‹_ ∧ _ ∧ Fr W9 _›).2.2) (by omega)).mono ?_); rintro e V1 ⟨b1, d1, rfl, hown1, hb1⟩) | (go_at_call 50; (with_reducible refine (eqCode_same _ _ aC _ (hSx0.fr (‹_ ∧ _ ∧ Fr W9 _›).2.2) (SlR.own hown1)).mono ?_); rintro e V2 ⟨rfl, hb2⟩))
      rename_i hHold
      obtain ⟨hBaC0_, hBx00_, hb⟩ := hHold
      replace hBaC0 := hBaC0_; clear hBaC0_
      replace hBx00 := hBx00_; clear hBx00_
      replace hZaC := Nat.lt_of_lt_of_le hZaC (Below.size hb)
      replace hSaC := SlR.below hSaC hb
      replace hSaRow := SlR.below hSaRow hb
      replace hF := Fr.step hF hb
      replace hE := Fr.step hE hb
      replace hOx0 := ownsRow_below hOx0 hb
      replace hSx0 := SlR.below hSx0 hb
      replace hZx0 := Nat.lt_of_lt_of_le hZx0 (Below.size hb)
      replace hOx1 := ownsRow_below hOx1 hb
      replace hSx1 := SlR.below hSx1 hb
      clear hb
      clear hown1 hb1 hb2
      go_wp2_with fail
      refine (toFloat32S_any _ aRow _ hSaRow (by omega)).mono ?_
      rintro e W11 ⟨aT, cT, rfl, hOt, hb⟩
      replace hBaC0 := cell_step hBaC0 hb
      replace hZaC := Nat.lt_of_lt_of_le hZaC (Below.size hb)
      replace hSaC := SlR.below hSaC hb
      replace hSaRow := SlR.below hSaRow hb
      replace hF := Fr.step hF hb
      replace hE := Fr.step hE hb
      replace hOx0 := ownsRow_below hOx0 hb
      replace hSx0 := SlR.below hSx0 hb
      replace hBx00 := cell_step hBx00 hb
      replace hZx0 := Nat.lt_of_lt_of_le hZx0 (Below.size hb)
      replace hOx1 := ownsRow_below hOx1 hb
      replace hSx1 := SlR.below hSx1 hb
      clear hb
      replace hOt := SlR.own hOt
      go_wp2_with fail
      refine (eqFloat32S_same _ _ aRow _ hSx1 hOt).mono ?_
      rintro e W12 ⟨rfl, hq⟩
      have hb := hq.below (World.heap W11).size
      replace hBaC0 := cell_step hBaC0 hb
      replace hZaC := Nat.lt_of_lt_of_le hZaC (Below.size hb)
      replace hSaC := SlR.below hSaC hb
      replace hSaRow := SlR.below hSaRow hb
      replace hF := Fr.step hF hb
      replace hE := Fr.step hE hb
      replace hOx0 := ownsRow_below hOx0 hb
      replace hSx0 := SlR.below hSx0 hb
      replace hBx00 := cell_step hBx00 hb
      replace hZx0 := Nat.lt_of_lt_of_le hZx0 (Below.size hb)
      replace hOx1 := ownsRow_below hOx1 hb
      replace hSx1 := SlR.below hSx1 hb
      clear hb hq
      clear hOt
      go_wp2_with fail
      go_ret
      exact ⟨rfl, hF⟩
    · go_enter Try.func11, Try.ntmps11
      go_wp2_with fail
      have hF : Fr w (World.alloc w (.cells #[.slice aaC aC.length caC] 55)) := by (show Below _ _ _); go_grown
      have hBaC0 : World.cell? (World.alloc w (.cells #[.slice aaC aC.length caC] 55)) ⟨w.heap.size, 0, none⟩ = some (.slice aaC aC.length caC) := by go_cell
      have hZaC : w.heap.size < (World.heap (World.alloc w (.cells #[.slice aaC aC.length caC] 55))).size := by simp only [World.size_alloc]; omega
      have hSaC := saC.fr hF
      have hSaRow := saRow.fr hF
      generalize (World.alloc w (.cells #[.slice aaC aC.length caC] 55)) = W0 at *
      refine (szCode_gt _ aC.length _ _ _ (by omega) (by omega) (by omega) (by omega)).mono ?_
      rintro e W1 ⟨rfl, hb⟩
      replace hBaC0 := cell_step hBaC0 hb
      replace hZaC := Nat.lt_of_lt_of_le hZaC (Below.size hb)
      replace hSaC := SlR.below hSaC hb
      replace hSaRow := SlR.below hSaRow hb
      replace hF := Fr.step hF hb
      clear hb
      go_wp2_with fail
      go_ret
      exact ⟨rfl, hF⟩
  · go_enter Try.func11, Try.ntmps11
    go_wp2_with fail
    have hF : Fr w (World.alloc w (.cells #[.slice aaC aC.length caC] 55)) := by (show Below _ _ _); go_grown
    have hBaC0 : World.cell? (World.alloc w (.cells #[.slice aaC aC.length caC] 55)) ⟨w.heap.size, 0, none⟩ = some (.slice aaC aC.length caC) := by go_cell
    have hZaC : w.heap.size < (World.heap (World.alloc w (.cells #[.slice aaC aC.length caC] 55))).size := by simp only [World.size_alloc]; omega
    have hSaC := saC.fr hF
    have hSaRow := saRow.fr hF
    generalize (World.alloc w (.cells #[.slice aaC aC.length caC] 55)) = W0 at *
    go_ret
    exact ⟨rfl, hF⟩

end Go.Proofs.Ytadakijlihibeaa
