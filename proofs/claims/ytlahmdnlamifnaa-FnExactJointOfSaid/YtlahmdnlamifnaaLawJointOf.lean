/- The walk of the law FnExactJointOf, out of the contracts of what it calls. -/
import Derived.Test.YtlahmdnlamifnaaJos
import Derived.Deep.RegionHeld3
import Derived.Test.YtlahmdnlamifnaaHrg
namespace Go.Proofs.Ytlahmdnlamifnaa
set_option linter.unusedSimpArgs false
set_option linter.unusedVariables false
open Go.RowKit

set_option maxHeartbeats 4000000 in
theorem law_JointOf (w : World) (iaC jaC : Int) (hiaC : I64 iaC) (hjaC : I64 jaC) (aaC : Option Addr) (caC : Nat) (aC : List Nat) (maC : aC.length ≤ caC ∧ caC ≤ 9223372036854775807) (saC : SlR w (.slice aaC aC.length caC) (aC.map (Value.float .f32))) (xaC : ∀ x ∈ aC, x < 4294967296) (aaRow : Option Addr) (caRow : Nat) (aRow : List Nat) (maRow : aRow.length ≤ caRow ∧ caRow ≤ 9223372036854775807) (saRow : SlR w (.slice aaRow aRow.length caRow) (aRow.map (Value.float .f32))) (xaRow : ∀ x ∈ aRow, x < 4294967296) :
    Calls Try.prog 7 #[.agg #[.int .i64 iaC, .int .i64 jaC, .slice aaC aC.length caC], .slice aaRow aRow.length caRow] w fun e w' => e = .returned (.bool true) ∧ Below w.heap.size w w' := by
  by_cases z0 : aRow.length ≤ 1048576
  · by_cases z1 : aC.length ≤ 1048576
    · go_enter Try.func7, Try.ntmps7
      go_wp2_with fail
      have hF : Fr w (World.alloc w (.cells #[.int .i64 iaC, .int .i64 jaC, .slice aaC aC.length caC] 31)) := by (show Below _ _ _); go_grown
      have hBaC0 : World.cell? (World.alloc w (.cells #[.int .i64 iaC, .int .i64 jaC, .slice aaC aC.length caC] 31)) ⟨w.heap.size, 0, none⟩ = some (.int .i64 iaC) := by go_cell
      have hBaC1 : World.cell? (World.alloc w (.cells #[.int .i64 iaC, .int .i64 jaC, .slice aaC aC.length caC] 31)) ⟨w.heap.size, 1, none⟩ = some (.int .i64 jaC) := by go_cell
      have hBaC2 : World.cell? (World.alloc w (.cells #[.int .i64 iaC, .int .i64 jaC, .slice aaC aC.length caC] 31)) ⟨w.heap.size, 2, none⟩ = some (.slice aaC aC.length caC) := by go_cell
      have hZaC : w.heap.size < (World.heap (World.alloc w (.cells #[.int .i64 iaC, .int .i64 jaC, .slice aaC aC.length caC] 31))).size := by simp only [World.size_alloc]; omega
      have hSaC := saC.fr hF
      have hSaRow := saRow.fr hF
      generalize (World.alloc w (.cells #[.int .i64 iaC, .int .i64 jaC, .slice aaC aC.length caC] 31)) = W0 at *
      refine (szChannel_le iaC jaC _ aC.length _ _ _ (by omega) (by omega) (by omega) (by omega)).mono ?_
      rintro e W1 ⟨rfl, hb⟩
      replace hBaC0 := cell_step hBaC0 hb
      replace hBaC1 := cell_step hBaC1 hb
      replace hBaC2 := cell_step hBaC2 hb
      replace hZaC := Nat.lt_of_lt_of_le hZaC (Below.size hb)
      replace hSaC := SlR.below hSaC hb
      replace hSaRow := SlR.below hSaRow hb
      replace hF := Fr.step hF hb
      clear hb
      go_wp2_with fail
      generalize hO : out_JointOf iaC jaC aC aRow = o
      obtain ⟨oi0, oj0, o0, o1⟩ := o
      have HO := Lib.hid hO
      have HOl : o0.length ≤ 1048576 := by have h := len_JointOf iaC jaC hiaC hjaC aC xaC (by omega) aRow xaRow (by omega); rw [hO] at h; exact h
      clear hO
      refine (toChannel_any iaC jaC _ aC _ hSaC (by omega)).mono ?_
      rintro e W2 ⟨aT1, cT1, rfl, hOt1, hb⟩
      replace hBaC0 := cell_step hBaC0 hb
      replace hBaC1 := cell_step hBaC1 hb
      replace hBaC2 := cell_step hBaC2 hb
      replace hZaC := Nat.lt_of_lt_of_le hZaC (Below.size hb)
      replace hSaC := SlR.below hSaC hb
      replace hSaRow := SlR.below hSaRow hb
      replace hF := Fr.step hF hb
      clear hb
      replace hOt1 := SlR.own hOt1
      go_wp2_with fail
      refine (toFloat32S_any _ aRow _ hSaRow (by omega)).mono ?_
      rintro e W3 ⟨aT2, cT2, rfl, hOt2, hb⟩
      replace hBaC0 := cell_step hBaC0 hb
      replace hBaC1 := cell_step hBaC1 hb
      replace hBaC2 := cell_step hBaC2 hb
      replace hZaC := Nat.lt_of_lt_of_le hZaC (Below.size hb)
      replace hSaC := SlR.below hSaC hb
      replace hSaRow := SlR.below hSaRow hb
      replace hF := Fr.step hF hb
      replace hOt1 := SlR.below hOt1 hb
      clear hb
      replace hOt2 := SlR.own hOt2
      go_wp2_with fail
      refine (spec_JointOf _ iaC jaC hiaC hjaC _ aC hOt1 xaC (by omega) _ aRow hOt2 xaRow (by omega)).mono ?_
      rw [HO.out]
      try dsimp only
      rintro e W4 ⟨arw, crw, rfl, hSw0, hb⟩
      replace hBaC0 := cell_step hBaC0 hb
      replace hBaC1 := cell_step hBaC1 hb
      replace hBaC2 := cell_step hBaC2 hb
      replace hZaC := Nat.lt_of_lt_of_le hZaC (Below.size hb)
      replace hSaC := SlR.below hSaC hb
      replace hSaRow := SlR.below hSaRow hb
      replace hF := Fr.step hF hb
      replace hOt1 := SlR.below hOt1 hb
      replace hOt2 := SlR.below hOt2 hb
      clear hb
      clear hOt1
      clear hOt2
      have hE := Fr.refl W4
      have hFE := hF
      have hBaC0_E := hBaC0
      have hBaC1_E := hBaC1
      have hBaC2_E := hBaC2
      have hSaC_E := hSaC
      have hSaRow_E := hSaRow
      have hSw0_E := hSw0
      go_wp2_with fail
      have hb : Below (World.heap W4).size W4 (World.alloc W4 (.cells #[.int .i64 oi0, .int .i64 oj0, .slice arw o0.length crw] 37)) := by go_grown
      replace hBaC0 := cell_step hBaC0 hb
      replace hBaC1 := cell_step hBaC1 hb
      replace hBaC2 := cell_step hBaC2 hb
      replace hZaC := Nat.lt_of_lt_of_le hZaC (Below.size hb)
      replace hSaC := SlR.below hSaC hb
      replace hSaRow := SlR.below hSaRow hb
      replace hF := Fr.step hF hb
      replace hSw0 := SlR.below hSw0 hb
      replace hE := Fr.step hE hb
      have hBw00 : World.cell? (World.alloc W4 (.cells #[.int .i64 oi0, .int .i64 oj0, .slice arw o0.length crw] 37)) ⟨(World.heap W4).size, 0, none⟩ = some (.int .i64 oi0) := by simp
      have hBw01 : World.cell? (World.alloc W4 (.cells #[.int .i64 oi0, .int .i64 oj0, .slice arw o0.length crw] 37)) ⟨(World.heap W4).size, 1, none⟩ = some (.int .i64 oj0) := by simp
      have hBw02 : World.cell? (World.alloc W4 (.cells #[.int .i64 oi0, .int .i64 oj0, .slice arw o0.length crw] 37)) ⟨(World.heap W4).size, 2, none⟩ = some (.slice arw o0.length crw) := by simp
      have hZw0 : (World.heap W4).size < (World.heap (World.alloc W4 (.cells #[.int .i64 oi0, .int .i64 oj0, .slice arw o0.length crw] 37))).size := by simp
      clear hb
      generalize (World.alloc W4 (.cells #[.int .i64 oi0, .int .i64 oj0, .slice arw o0.length crw] 37)) = W5 at *
      have hLx0 := Below.size hE
      have hYx0 := hZw0
      refine (toChannel_any iaC jaC _ aC _ hSaC (by omega)).mono ?_
      rintro e W6 ⟨ax0, cx0, rfl, hOx0, hb⟩
      replace hBaC0 := cell_step hBaC0 hb
      replace hBaC1 := cell_step hBaC1 hb
      replace hBaC2 := cell_step hBaC2 hb
      replace hZaC := Nat.lt_of_lt_of_le hZaC (Below.size hb)
      replace hSaC := SlR.below hSaC hb
      replace hSaRow := SlR.below hSaRow hb
      replace hF := Fr.step hF hb
      replace hSw0 := SlR.below hSw0 hb
      replace hE := Fr.step hE hb
      replace hBw00 := cell_step hBw00 hb
      replace hBw01 := cell_step hBw01 hb
      replace hBw02 := cell_step hBw02 hb
      replace hZw0 := Nat.lt_of_lt_of_le hZw0 (Below.size hb)
      clear hb
      have hSx0 := SlR.own hOx0
      have hHx0 : ∀ k, Value.ownBlock (.slice ax0 aC.length cx0) = some k → k < (World.heap W6).size := fun k hk => (hOx0.lt k hk).2
      have hXx0 := Nat.le_refl (World.heap W6).size
      go_wp2_with fail
      have hb : Below (World.heap W6).size W6 (World.alloc W6 (.cells #[.int .i64 iaC, .int .i64 jaC, .slice ax0 aC.length cx0] 25)) := by go_grown
      replace hBaC0 := cell_step hBaC0 hb
      replace hBaC1 := cell_step hBaC1 hb
      replace hBaC2 := cell_step hBaC2 hb
      replace hZaC := Nat.lt_of_lt_of_le hZaC (Below.size hb)
      replace hSaC := SlR.below hSaC hb
      replace hSaRow := SlR.below hSaRow hb
      replace hF := Fr.step hF hb
      replace hSw0 := SlR.below hSw0 hb
      replace hE := Fr.step hE hb
      replace hBw00 := cell_step hBw00 hb
      replace hBw01 := cell_step hBw01 hb
      replace hBw02 := cell_step hBw02 hb
      replace hZw0 := Nat.lt_of_lt_of_le hZw0 (Below.size hb)
      replace hOx0 := ownsRow_below hOx0 hb
      replace hSx0 := SlR.below hSx0 hb
      have hBx00 : World.cell? (World.alloc W6 (.cells #[.int .i64 iaC, .int .i64 jaC, .slice ax0 aC.length cx0] 25)) ⟨(World.heap W6).size, 0, none⟩ = some (.int .i64 iaC) := by simp
      have hBx01 : World.cell? (World.alloc W6 (.cells #[.int .i64 iaC, .int .i64 jaC, .slice ax0 aC.length cx0] 25)) ⟨(World.heap W6).size, 1, none⟩ = some (.int .i64 jaC) := by simp
      have hBx02 : World.cell? (World.alloc W6 (.cells #[.int .i64 iaC, .int .i64 jaC, .slice ax0 aC.length cx0] 25)) ⟨(World.heap W6).size, 2, none⟩ = some (.slice ax0 aC.length cx0) := by simp
      have hZx0 : (World.heap W6).size < (World.heap (World.alloc W6 (.cells #[.int .i64 iaC, .int .i64 jaC, .slice ax0 aC.length cx0] 25))).size := by simp
      clear hb
      generalize (World.alloc W6 (.cells #[.int .i64 iaC, .int .i64 jaC, .slice ax0 aC.length cx0] 25)) = W7 at *
      have hKx0x1 : ∀ k, Value.ownBlock (.slice ax0 aC.length cx0) = some k → k < (World.heap W7).size := fun k hk => (hOx0.lt k hk).2
      have hLx1 := Below.size hE
      have hYx1 := hZw0
      refine (toFloat32S_any _ aRow _ hSaRow (by omega)).mono ?_
      rintro e W8 ⟨ax1, cx1, rfl, hOx1, hb⟩
      replace hBaC0 := cell_step hBaC0 hb
      replace hBaC1 := cell_step hBaC1 hb
      replace hBaC2 := cell_step hBaC2 hb
      replace hZaC := Nat.lt_of_lt_of_le hZaC (Below.size hb)
      replace hSaC := SlR.below hSaC hb
      replace hSaRow := SlR.below hSaRow hb
      replace hF := Fr.step hF hb
      replace hSw0 := SlR.below hSw0 hb
      replace hE := Fr.step hE hb
      replace hBw00 := cell_step hBw00 hb
      replace hBw01 := cell_step hBw01 hb
      replace hBw02 := cell_step hBw02 hb
      replace hZw0 := Nat.lt_of_lt_of_le hZw0 (Below.size hb)
      replace hOx0 := ownsRow_below hOx0 hb
      replace hSx0 := SlR.below hSx0 hb
      replace hBx00 := cell_step hBx00 hb
      replace hBx01 := cell_step hBx01 hb
      replace hBx02 := cell_step hBx02 hb
      replace hZx0 := Nat.lt_of_lt_of_le hZx0 (Below.size hb)
      clear hb
      have hSx1 := SlR.own hOx1
      have hHx1 : ∀ k, Value.ownBlock (.slice ax1 aRow.length cx1) = some k → k < (World.heap W8).size := fun k hk => (hOx1.lt k hk).2
      go_wp2_with fail
      have hgE := Below.size hE
      have hYg0 := hZw0
      have hGx0 : ∀ k, Value.ownBlock (.slice ax0 aC.length cx0) = some k → k < (World.heap W8).size := fun k hk => (hOx0.lt k hk).2
      have hGx1 : ∀ k, Value.ownBlock (.slice ax1 aRow.length cx1) = some k → k < (World.heap W8).size := fun k hk => (hOx1.lt k hk).2
      refine (impl_JointOf _ iaC jaC hiaC hjaC _ aC hSx0 xaC (by omega) _ aRow hSx1 xaRow (by omega)).mono ?_
      rw [HO.out]
      try dsimp only
      rintro e W9 ⟨arg, crg, rfl, hOg0, hb⟩
      replace hBaC0 := cell_step hBaC0 hb
      replace hBaC1 := cell_step hBaC1 hb
      replace hBaC2 := cell_step hBaC2 hb
      replace hZaC := Nat.lt_of_lt_of_le hZaC (Below.size hb)
      replace hSaC := SlR.below hSaC hb
      replace hSaRow := SlR.below hSaRow hb
      replace hF := Fr.step hF hb
      replace hSw0 := SlR.below hSw0 hb
      replace hE := Fr.step hE hb
      replace hBw00 := cell_step hBw00 hb
      replace hBw01 := cell_step hBw01 hb
      replace hBw02 := cell_step hBw02 hb
      replace hZw0 := Nat.lt_of_lt_of_le hZw0 (Below.size hb)
      replace hOx0 := ownsRow_below hOx0 hb
      replace hSx0 := SlR.below hSx0 hb
      replace hBx00 := cell_step hBx00 hb
      replace hBx01 := cell_step hBx01 hb
      replace hBx02 := cell_step hBx02 hb
      replace hZx0 := Nat.lt_of_lt_of_le hZx0 (Below.size hb)
      replace hOx1 := ownsRow_below hOx1 hb
      replace hSx1 := SlR.below hSx1 hb
      have hgsz := Below.size hb
      clear hb
      have hSg0 := SlR.own hOg0
      have hHg0 : ∀ k, Value.ownBlock (.slice arg o0.length crg) = some k → k < (World.heap W9).size := fun k hk => (hOg0.lt k hk).2
      go_wp2_with fail
      have hb : Below (World.heap W9).size W9 (World.alloc W9 (.cells #[.int .i64 oi0, .int .i64 oj0, .slice arg o0.length crg] 37)) := by go_grown
      replace hBaC0 := cell_step hBaC0 hb
      replace hBaC1 := cell_step hBaC1 hb
      replace hBaC2 := cell_step hBaC2 hb
      replace hZaC := Nat.lt_of_lt_of_le hZaC (Below.size hb)
      replace hSaC := SlR.below hSaC hb
      replace hSaRow := SlR.below hSaRow hb
      replace hF := Fr.step hF hb
      replace hSw0 := SlR.below hSw0 hb
      replace hE := Fr.step hE hb
      replace hBw00 := cell_step hBw00 hb
      replace hBw01 := cell_step hBw01 hb
      replace hBw02 := cell_step hBw02 hb
      replace hZw0 := Nat.lt_of_lt_of_le hZw0 (Below.size hb)
      replace hOx0 := ownsRow_below hOx0 hb
      replace hSx0 := SlR.below hSx0 hb
      replace hBx00 := cell_step hBx00 hb
      replace hBx01 := cell_step hBx01 hb
      replace hBx02 := cell_step hBx02 hb
      replace hZx0 := Nat.lt_of_lt_of_le hZx0 (Below.size hb)
      replace hOx1 := ownsRow_below hOx1 hb
      replace hSx1 := SlR.below hSx1 hb
      replace hOg0 := ownsRow_below hOg0 hb
      replace hSg0 := SlR.below hSg0 hb
      have hBg00 : World.cell? (World.alloc W9 (.cells #[.int .i64 oi0, .int .i64 oj0, .slice arg o0.length crg] 37)) ⟨(World.heap W9).size, 0, none⟩ = some (.int .i64 oi0) := by simp
      have hBg01 : World.cell? (World.alloc W9 (.cells #[.int .i64 oi0, .int .i64 oj0, .slice arg o0.length crg] 37)) ⟨(World.heap W9).size, 1, none⟩ = some (.int .i64 oj0) := by simp
      have hBg02 : World.cell? (World.alloc W9 (.cells #[.int .i64 oi0, .int .i64 oj0, .slice arg o0.length crg] 37)) ⟨(World.heap W9).size, 2, none⟩ = some (.slice arg o0.length crg) := by simp
      have hZg0 : (World.heap W9).size < (World.heap (World.alloc W9 (.cells #[.int .i64 oi0, .int .i64 oj0, .slice arg o0.length crg] 37))).size := by simp
      clear hb
      generalize (World.alloc W9 (.cells #[.int .i64 oi0, .int .i64 oj0, .slice arg o0.length crg] 37)) = W10 at *
      refine (eqTable_same oi0 oj0 _ _ o0 _ hSg0 hSw0).mono ?_
      rintro e W11 ⟨rfl, hb⟩
      replace hBaC0 := cell_step hBaC0 hb
      replace hBaC1 := cell_step hBaC1 hb
      replace hBaC2 := cell_step hBaC2 hb
      replace hZaC := Nat.lt_of_lt_of_le hZaC (Below.size hb)
      replace hSaC := SlR.below hSaC hb
      replace hSaRow := SlR.below hSaRow hb
      replace hF := Fr.step hF hb
      replace hSw0 := SlR.below hSw0 hb
      replace hE := Fr.step hE hb
      replace hBw00 := cell_step hBw00 hb
      replace hBw01 := cell_step hBw01 hb
      replace hBw02 := cell_step hBw02 hb
      replace hZw0 := Nat.lt_of_lt_of_le hZw0 (Below.size hb)
      replace hOx0 := ownsRow_below hOx0 hb
      replace hSx0 := SlR.below hSx0 hb
      replace hBx00 := cell_step hBx00 hb
      replace hBx01 := cell_step hBx01 hb
      replace hBx02 := cell_step hBx02 hb
      replace hZx0 := Nat.lt_of_lt_of_le hZx0 (Below.size hb)
      replace hOx1 := ownsRow_below hOx1 hb
      replace hSx1 := SlR.below hSx1 hb
      replace hOg0 := ownsRow_below hOg0 hb
      replace hSg0 := SlR.below hSg0 hb
      replace hBg00 := cell_step hBg00 hb
      replace hBg01 := cell_step hBg01 hb
      replace hBg02 := cell_step hBg02 hb
      replace hZg0 := Nat.lt_of_lt_of_le hZg0 (Below.size hb)
      clear hb
      go_wp2_with fail
      go_region_held3 (fun W => World.cell? W ⟨w.heap.size, 0, none⟩ = some (.int .i64 iaC) ∧ World.cell? W ⟨w.heap.size, 1, none⟩ = some (.int .i64 jaC) ∧ World.cell? W ⟨w.heap.size, 2, none⟩ = some (.slice aaC aC.length caC) ∧ World.cell? W ⟨(World.heap W6).size, 0, none⟩ = some (.int .i64 iaC) ∧ World.cell? W ⟨(World.heap W6).size, 1, none⟩ = some (.int .i64 jaC) ∧ World.cell? W ⟨(World.heap W6).size, 2, none⟩ = some (.slice ax0 aC.length cx0) ∧ Fr W11 W) (first | exact keep6 (by assumption) (by assumption) | exact ⟨hBaC0, hBaC1, hBaC2, hBx00, hBx01, hBx02, (Fr.refl _).drew⟩)
        (first | (go_at_call 22; (with_reducible refine (toChannel_any iaC jaC (.slice aaC aC.length caC) aC _ (hSaC.fr (‹_ ∧ _ ∧ _ ∧ _ ∧ _ ∧ _ ∧ Fr W11 _›).2.2.2.2.2.2) (by omega)).mono ?_); rintro e V1 ⟨b1, d1, rfl, hown1, hb1⟩) | (go_at_call 13; (with_reducible refine (eqChannel_same iaC jaC _ _ aC _ (hSx0.fr (‹_ ∧ _ ∧ _ ∧ _ ∧ _ ∧ _ ∧ Fr W11 _›).2.2.2.2.2.2) (SlR.own hown1)).mono ?_); rintro e V2 ⟨rfl, hb2⟩))
      rename_i hHold
      obtain ⟨hBaC0_, hBaC1_, hBaC2_, hBx00_, hBx01_, hBx02_, hb⟩ := hHold
      replace hBaC0 := hBaC0_; clear hBaC0_
      replace hBaC1 := hBaC1_; clear hBaC1_
      replace hBaC2 := hBaC2_; clear hBaC2_
      replace hBx00 := hBx00_; clear hBx00_
      replace hBx01 := hBx01_; clear hBx01_
      replace hBx02 := hBx02_; clear hBx02_
      replace hZaC := Nat.lt_of_lt_of_le hZaC (Below.size hb)
      replace hSaC := SlR.below hSaC hb
      replace hSaRow := SlR.below hSaRow hb
      replace hF := Fr.step hF hb
      replace hSw0 := SlR.below hSw0 hb
      replace hE := Fr.step hE hb
      replace hBw00 := cell_step hBw00 hb
      replace hBw01 := cell_step hBw01 hb
      replace hBw02 := cell_step hBw02 hb
      replace hZw0 := Nat.lt_of_lt_of_le hZw0 (Below.size hb)
      replace hOx0 := ownsRow_below hOx0 hb
      replace hSx0 := SlR.below hSx0 hb
      replace hZx0 := Nat.lt_of_lt_of_le hZx0 (Below.size hb)
      replace hOx1 := ownsRow_below hOx1 hb
      replace hSx1 := SlR.below hSx1 hb
      replace hOg0 := ownsRow_below hOg0 hb
      replace hSg0 := SlR.below hSg0 hb
      replace hBg00 := cell_step hBg00 hb
      replace hBg01 := cell_step hBg01 hb
      replace hBg02 := cell_step hBg02 hb
      replace hZg0 := Nat.lt_of_lt_of_le hZg0 (Below.size hb)
      clear hb
      clear hown1 hb1 hb2
      go_wp2_with fail
      refine (toFloat32S_any _ aRow _ hSaRow (by omega)).mono ?_
      rintro e W13 ⟨aT, cT, rfl, hOt, hb⟩
      replace hBaC0 := cell_step hBaC0 hb
      replace hBaC1 := cell_step hBaC1 hb
      replace hBaC2 := cell_step hBaC2 hb
      replace hZaC := Nat.lt_of_lt_of_le hZaC (Below.size hb)
      replace hSaC := SlR.below hSaC hb
      replace hSaRow := SlR.below hSaRow hb
      replace hF := Fr.step hF hb
      replace hSw0 := SlR.below hSw0 hb
      replace hE := Fr.step hE hb
      replace hBw00 := cell_step hBw00 hb
      replace hBw01 := cell_step hBw01 hb
      replace hBw02 := cell_step hBw02 hb
      replace hZw0 := Nat.lt_of_lt_of_le hZw0 (Below.size hb)
      replace hOx0 := ownsRow_below hOx0 hb
      replace hSx0 := SlR.below hSx0 hb
      replace hBx00 := cell_step hBx00 hb
      replace hBx01 := cell_step hBx01 hb
      replace hBx02 := cell_step hBx02 hb
      replace hZx0 := Nat.lt_of_lt_of_le hZx0 (Below.size hb)
      replace hOx1 := ownsRow_below hOx1 hb
      replace hSx1 := SlR.below hSx1 hb
      replace hOg0 := ownsRow_below hOg0 hb
      replace hSg0 := SlR.below hSg0 hb
      replace hBg00 := cell_step hBg00 hb
      replace hBg01 := cell_step hBg01 hb
      replace hBg02 := cell_step hBg02 hb
      replace hZg0 := Nat.lt_of_lt_of_le hZg0 (Below.size hb)
      clear hb
      replace hOt := SlR.own hOt
      go_wp2_with fail
      refine (eqFloat32S_same _ _ aRow _ hSx1 hOt).mono ?_
      rintro e W14 ⟨rfl, hq⟩
      have hb := hq.below (World.heap W13).size
      replace hBaC0 := cell_step hBaC0 hb
      replace hBaC1 := cell_step hBaC1 hb
      replace hBaC2 := cell_step hBaC2 hb
      replace hZaC := Nat.lt_of_lt_of_le hZaC (Below.size hb)
      replace hSaC := SlR.below hSaC hb
      replace hSaRow := SlR.below hSaRow hb
      replace hF := Fr.step hF hb
      replace hSw0 := SlR.below hSw0 hb
      replace hE := Fr.step hE hb
      replace hBw00 := cell_step hBw00 hb
      replace hBw01 := cell_step hBw01 hb
      replace hBw02 := cell_step hBw02 hb
      replace hZw0 := Nat.lt_of_lt_of_le hZw0 (Below.size hb)
      replace hOx0 := ownsRow_below hOx0 hb
      replace hSx0 := SlR.below hSx0 hb
      replace hBx00 := cell_step hBx00 hb
      replace hBx01 := cell_step hBx01 hb
      replace hBx02 := cell_step hBx02 hb
      replace hZx0 := Nat.lt_of_lt_of_le hZx0 (Below.size hb)
      replace hOx1 := ownsRow_below hOx1 hb
      replace hSx1 := SlR.below hSx1 hb
      replace hOg0 := ownsRow_below hOg0 hb
      replace hSg0 := SlR.below hSg0 hb
      replace hBg00 := cell_step hBg00 hb
      replace hBg01 := cell_step hBg01 hb
      replace hBg02 := cell_step hBg02 hb
      replace hZg0 := Nat.lt_of_lt_of_le hZg0 (Below.size hb)
      clear hb hq
      clear hOt
      go_wp2_with fail
      refine (markChannel_any iaC jaC _ aC.length _ _ 1 _ _ (by omega) (by omega) (by omega) hOx0).mono ?_
      rintro e W15 ⟨rfl, hOm, hg⟩
      replace hE := hE.grown hg hOx0 hLx0
      replace hF := hFE.step hE
      replace hBaC0 := cell_step hBaC0_E hE
      replace hBaC1 := cell_step hBaC1_E hE
      replace hBaC2 := cell_step hBaC2_E hE
      replace hSaC := SlR.fr hSaC_E hE
      replace hSaRow := SlR.fr hSaRow_E hE
      replace hSw0 := SlR.fr hSw0_E hE
      replace hBw00 := cell_grown hBw00 hg (fun k hk => Nat.ne_of_gt (Nat.lt_of_lt_of_le hYx0 (hOx0.lt k hk).1))
      replace hBw01 := cell_grown hBw01 hg (fun k hk => Nat.ne_of_gt (Nat.lt_of_lt_of_le hYx0 (hOx0.lt k hk).1))
      replace hBw02 := cell_grown hBw02 hg (fun k hk => Nat.ne_of_gt (Nat.lt_of_lt_of_le hYx0 (hOx0.lt k hk).1))
      clear hBx00
      clear hBx01
      clear hBx02
      replace hOx1 := own_apart hOx1 hg hKx0x1
      replace hSx1 := SlR.own hOx1
      replace hOg0 := own_apart hOg0 hg hGx0
      replace hSg0 := SlR.own hOg0
      replace hBg00 := cell_grown hBg00 hg (fun k hk => Nat.ne_of_lt (Nat.lt_of_lt_of_le (hGx0 k hk) hgsz))
      replace hBg01 := cell_grown hBg01 hg (fun k hk => Nat.ne_of_lt (Nat.lt_of_lt_of_le (hGx0 k hk) hgsz))
      replace hBg02 := cell_grown hBg02 hg (fun k hk => Nat.ne_of_lt (Nat.lt_of_lt_of_le (hGx0 k hk) hgsz))
      clear hOx0
      clear hSx0
      replace hZaC := Nat.lt_of_lt_of_le hZaC hg.size
      replace hZw0 := Nat.lt_of_lt_of_le hZw0 hg.size
      replace hZx0 := Nat.lt_of_lt_of_le hZx0 hg.size
      replace hZg0 := Nat.lt_of_lt_of_le hZg0 hg.size
      clear hOm hg
      go_wp2_with fail
      refine (markFloat32S_big _ aRow.length _ _ (1 + (aC.length : Int)) _ _ (by omega) (by omega) (by omega) hOx1).mono ?_
      rintro e W16 ⟨rfl, hOm, hg⟩
      replace hE := hE.grown hg hOx1 hLx1
      replace hF := hFE.step hE
      replace hBaC0 := cell_step hBaC0_E hE
      replace hBaC1 := cell_step hBaC1_E hE
      replace hBaC2 := cell_step hBaC2_E hE
      replace hSaC := SlR.fr hSaC_E hE
      replace hSaRow := SlR.fr hSaRow_E hE
      replace hSw0 := SlR.fr hSw0_E hE
      replace hBw00 := cell_grown hBw00 hg (fun k hk => Nat.ne_of_gt (Nat.lt_of_lt_of_le hYx1 (hOx1.lt k hk).1))
      replace hBw01 := cell_grown hBw01 hg (fun k hk => Nat.ne_of_gt (Nat.lt_of_lt_of_le hYx1 (hOx1.lt k hk).1))
      replace hBw02 := cell_grown hBw02 hg (fun k hk => Nat.ne_of_gt (Nat.lt_of_lt_of_le hYx1 (hOx1.lt k hk).1))
      replace hOg0 := own_apart hOg0 hg hGx1
      replace hSg0 := SlR.own hOg0
      replace hBg00 := cell_grown hBg00 hg (fun k hk => Nat.ne_of_lt (Nat.lt_of_lt_of_le (hGx1 k hk) hgsz))
      replace hBg01 := cell_grown hBg01 hg (fun k hk => Nat.ne_of_lt (Nat.lt_of_lt_of_le (hGx1 k hk) hgsz))
      replace hBg02 := cell_grown hBg02 hg (fun k hk => Nat.ne_of_lt (Nat.lt_of_lt_of_le (hGx1 k hk) hgsz))
      clear hOx1
      clear hSx1
      replace hZaC := Nat.lt_of_lt_of_le hZaC hg.size
      replace hZw0 := Nat.lt_of_lt_of_le hZw0 hg.size
      replace hZx0 := Nat.lt_of_lt_of_le hZx0 hg.size
      replace hZg0 := Nat.lt_of_lt_of_le hZg0 hg.size
      clear hOm hg
      go_wp2_with fail
      refine (eqTable_same oi0 oj0 _ _ o0 _ hSg0 hSw0).mono ?_
      rintro e W17 ⟨rfl, hb⟩
      replace hBaC0 := cell_step hBaC0 hb
      replace hBaC1 := cell_step hBaC1 hb
      replace hBaC2 := cell_step hBaC2 hb
      replace hZaC := Nat.lt_of_lt_of_le hZaC (Below.size hb)
      replace hSaC := SlR.below hSaC hb
      replace hSaRow := SlR.below hSaRow hb
      replace hF := Fr.step hF hb
      replace hSw0 := SlR.below hSw0 hb
      replace hE := Fr.step hE hb
      replace hBw00 := cell_step hBw00 hb
      replace hBw01 := cell_step hBw01 hb
      replace hBw02 := cell_step hBw02 hb
      replace hZw0 := Nat.lt_of_lt_of_le hZw0 (Below.size hb)
      replace hZx0 := Nat.lt_of_lt_of_le hZx0 (Below.size hb)
      replace hOg0 := ownsRow_below hOg0 hb
      replace hSg0 := SlR.below hSg0 hb
      replace hBg00 := cell_step hBg00 hb
      replace hBg01 := cell_step hBg01 hb
      replace hBg02 := cell_step hBg02 hb
      replace hZg0 := Nat.lt_of_lt_of_le hZg0 (Below.size hb)
      clear hb
      go_wp2_with fail
      refine (markTable_any oi0 oj0 _ o0.length _ _ 1 _ _ (by omega) (by omega) (by omega) hOg0).mono ?_
      rintro e W18 ⟨rfl, hOm, hg⟩
      replace hE := hE.grown hg hOg0 hgE
      replace hF := hFE.step hE
      replace hBaC0 := cell_step hBaC0_E hE
      replace hBaC1 := cell_step hBaC1_E hE
      replace hBaC2 := cell_step hBaC2_E hE
      replace hSaC := SlR.fr hSaC_E hE
      replace hSaRow := SlR.fr hSaRow_E hE
      replace hSw0 := SlR.fr hSw0_E hE
      replace hBw00 := cell_grown hBw00 hg (fun k hk => Nat.ne_of_gt (Nat.lt_of_lt_of_le hYg0 (hOg0.lt k hk).1))
      replace hBw01 := cell_grown hBw01 hg (fun k hk => Nat.ne_of_gt (Nat.lt_of_lt_of_le hYg0 (hOg0.lt k hk).1))
      replace hBw02 := cell_grown hBw02 hg (fun k hk => Nat.ne_of_gt (Nat.lt_of_lt_of_le hYg0 (hOg0.lt k hk).1))
      replace hBg00 := cell_grown hBg00 hg (fun k hk => Nat.ne_of_lt (hHg0 k hk))
      replace hBg01 := cell_grown hBg01 hg (fun k hk => Nat.ne_of_lt (hHg0 k hk))
      replace hBg02 := cell_grown hBg02 hg (fun k hk => Nat.ne_of_lt (hHg0 k hk))
      clear hOg0
      clear hSg0
      have hM := SlR.own hOm
      replace hZaC := Nat.lt_of_lt_of_le hZaC hg.size
      replace hZw0 := Nat.lt_of_lt_of_le hZw0 hg.size
      replace hZx0 := Nat.lt_of_lt_of_le hZx0 hg.size
      replace hZg0 := Nat.lt_of_lt_of_le hZg0 hg.size
      clear hOm hg
      go_wp2_with fail
      refine (heldTable_any oi0 oj0 _ o0.length 1 _ (by omega) (by omega) (by omega) hM).mono ?_
      rintro e W19 ⟨rfl, hb⟩
      replace hBaC0 := cell_step hBaC0 hb
      replace hBaC1 := cell_step hBaC1 hb
      replace hBaC2 := cell_step hBaC2 hb
      replace hZaC := Nat.lt_of_lt_of_le hZaC (Below.size hb)
      replace hSaC := SlR.below hSaC hb
      replace hSaRow := SlR.below hSaRow hb
      replace hF := Fr.step hF hb
      replace hSw0 := SlR.below hSw0 hb
      replace hE := Fr.step hE hb
      replace hBw00 := cell_step hBw00 hb
      replace hBw01 := cell_step hBw01 hb
      replace hBw02 := cell_step hBw02 hb
      replace hZw0 := Nat.lt_of_lt_of_le hZw0 (Below.size hb)
      replace hZx0 := Nat.lt_of_lt_of_le hZx0 (Below.size hb)
      replace hBg00 := cell_step hBg00 hb
      replace hBg01 := cell_step hBg01 hb
      replace hBg02 := cell_step hBg02 hb
      replace hZg0 := Nat.lt_of_lt_of_le hZg0 (Below.size hb)
      replace hM := SlR.below hM hb
      clear hb
      go_wp2_with fail
      refine (toChannel_any iaC jaC _ aC _ hSaC (by omega)).mono ?_
      rintro e W20 ⟨aT1, cT1, rfl, hOt1, hb⟩
      replace hBaC0 := cell_step hBaC0 hb
      replace hBaC1 := cell_step hBaC1 hb
      replace hBaC2 := cell_step hBaC2 hb
      replace hZaC := Nat.lt_of_lt_of_le hZaC (Below.size hb)
      replace hSaC := SlR.below hSaC hb
      replace hSaRow := SlR.below hSaRow hb
      replace hF := Fr.step hF hb
      replace hSw0 := SlR.below hSw0 hb
      replace hE := Fr.step hE hb
      replace hBw00 := cell_step hBw00 hb
      replace hBw01 := cell_step hBw01 hb
      replace hBw02 := cell_step hBw02 hb
      replace hZw0 := Nat.lt_of_lt_of_le hZw0 (Below.size hb)
      replace hZx0 := Nat.lt_of_lt_of_le hZx0 (Below.size hb)
      replace hBg00 := cell_step hBg00 hb
      replace hBg01 := cell_step hBg01 hb
      replace hBg02 := cell_step hBg02 hb
      replace hZg0 := Nat.lt_of_lt_of_le hZg0 (Below.size hb)
      replace hM := SlR.below hM hb
      clear hb
      replace hOt1 := SlR.own hOt1
      go_wp2_with fail
      refine (toFloat32S_any _ aRow _ hSaRow (by omega)).mono ?_
      rintro e W21 ⟨aT2, cT2, rfl, hOt2, hb⟩
      replace hBaC0 := cell_step hBaC0 hb
      replace hBaC1 := cell_step hBaC1 hb
      replace hBaC2 := cell_step hBaC2 hb
      replace hZaC := Nat.lt_of_lt_of_le hZaC (Below.size hb)
      replace hSaC := SlR.below hSaC hb
      replace hSaRow := SlR.below hSaRow hb
      replace hF := Fr.step hF hb
      replace hSw0 := SlR.below hSw0 hb
      replace hE := Fr.step hE hb
      replace hBw00 := cell_step hBw00 hb
      replace hBw01 := cell_step hBw01 hb
      replace hBw02 := cell_step hBw02 hb
      replace hZw0 := Nat.lt_of_lt_of_le hZw0 (Below.size hb)
      replace hZx0 := Nat.lt_of_lt_of_le hZx0 (Below.size hb)
      replace hBg00 := cell_step hBg00 hb
      replace hBg01 := cell_step hBg01 hb
      replace hBg02 := cell_step hBg02 hb
      replace hZg0 := Nat.lt_of_lt_of_le hZg0 (Below.size hb)
      replace hM := SlR.below hM hb
      replace hOt1 := SlR.below hOt1 hb
      clear hb
      replace hOt2 := SlR.own hOt2
      go_wp2_with fail
      refine (impl_JointOf _ iaC jaC hiaC hjaC _ aC hOt1 xaC (by omega) _ aRow hOt2 xaRow (by omega)).mono ?_
      rw [HO.out]
      try dsimp only
      rintro e W22 ⟨arh, crh, rfl, hOh0, hb⟩
      replace hBaC0 := cell_step hBaC0 hb
      replace hBaC1 := cell_step hBaC1 hb
      replace hBaC2 := cell_step hBaC2 hb
      replace hZaC := Nat.lt_of_lt_of_le hZaC (Below.size hb)
      replace hSaC := SlR.below hSaC hb
      replace hSaRow := SlR.below hSaRow hb
      replace hF := Fr.step hF hb
      replace hSw0 := SlR.below hSw0 hb
      replace hE := Fr.step hE hb
      replace hBw00 := cell_step hBw00 hb
      replace hBw01 := cell_step hBw01 hb
      replace hBw02 := cell_step hBw02 hb
      replace hZw0 := Nat.lt_of_lt_of_le hZw0 (Below.size hb)
      replace hZx0 := Nat.lt_of_lt_of_le hZx0 (Below.size hb)
      replace hBg00 := cell_step hBg00 hb
      replace hBg01 := cell_step hBg01 hb
      replace hBg02 := cell_step hBg02 hb
      replace hZg0 := Nat.lt_of_lt_of_le hZg0 (Below.size hb)
      replace hM := SlR.below hM hb
      replace hOt1 := SlR.below hOt1 hb
      replace hOt2 := SlR.below hOt2 hb
      clear hb
      clear hOt1
      clear hOt2
      have hSh0 := SlR.own hOh0
      go_wp2_with fail
      have hb : Below (World.heap W22).size W22 (World.alloc W22 (.cells #[.int .i64 oi0, .int .i64 oj0, .slice arh o0.length crh] 37)) := by go_grown
      replace hBaC0 := cell_step hBaC0 hb
      replace hBaC1 := cell_step hBaC1 hb
      replace hBaC2 := cell_step hBaC2 hb
      replace hZaC := Nat.lt_of_lt_of_le hZaC (Below.size hb)
      replace hSaC := SlR.below hSaC hb
      replace hSaRow := SlR.below hSaRow hb
      replace hF := Fr.step hF hb
      replace hSw0 := SlR.below hSw0 hb
      replace hE := Fr.step hE hb
      replace hBw00 := cell_step hBw00 hb
      replace hBw01 := cell_step hBw01 hb
      replace hBw02 := cell_step hBw02 hb
      replace hZw0 := Nat.lt_of_lt_of_le hZw0 (Below.size hb)
      replace hZx0 := Nat.lt_of_lt_of_le hZx0 (Below.size hb)
      replace hBg00 := cell_step hBg00 hb
      replace hBg01 := cell_step hBg01 hb
      replace hBg02 := cell_step hBg02 hb
      replace hZg0 := Nat.lt_of_lt_of_le hZg0 (Below.size hb)
      replace hM := SlR.below hM hb
      replace hOh0 := ownsRow_below hOh0 hb
      replace hSh0 := SlR.below hSh0 hb
      have hBh00 : World.cell? (World.alloc W22 (.cells #[.int .i64 oi0, .int .i64 oj0, .slice arh o0.length crh] 37)) ⟨(World.heap W22).size, 0, none⟩ = some (.int .i64 oi0) := by simp
      have hBh01 : World.cell? (World.alloc W22 (.cells #[.int .i64 oi0, .int .i64 oj0, .slice arh o0.length crh] 37)) ⟨(World.heap W22).size, 1, none⟩ = some (.int .i64 oj0) := by simp
      have hBh02 : World.cell? (World.alloc W22 (.cells #[.int .i64 oi0, .int .i64 oj0, .slice arh o0.length crh] 37)) ⟨(World.heap W22).size, 2, none⟩ = some (.slice arh o0.length crh) := by simp
      have hZh0 : (World.heap W22).size < (World.heap (World.alloc W22 (.cells #[.int .i64 oi0, .int .i64 oj0, .slice arh o0.length crh] 37))).size := by simp
      clear hb
      generalize (World.alloc W22 (.cells #[.int .i64 oi0, .int .i64 oj0, .slice arh o0.length crh] 37)) = W23 at *
      refine (eqTable_same oi0 oj0 _ _ o0 _ hSh0 hSw0).mono ?_
      rintro e W24 ⟨rfl, hb⟩
      replace hBaC0 := cell_step hBaC0 hb
      replace hBaC1 := cell_step hBaC1 hb
      replace hBaC2 := cell_step hBaC2 hb
      replace hZaC := Nat.lt_of_lt_of_le hZaC (Below.size hb)
      replace hSaC := SlR.below hSaC hb
      replace hSaRow := SlR.below hSaRow hb
      replace hF := Fr.step hF hb
      replace hSw0 := SlR.below hSw0 hb
      replace hE := Fr.step hE hb
      replace hBw00 := cell_step hBw00 hb
      replace hBw01 := cell_step hBw01 hb
      replace hBw02 := cell_step hBw02 hb
      replace hZw0 := Nat.lt_of_lt_of_le hZw0 (Below.size hb)
      replace hZx0 := Nat.lt_of_lt_of_le hZx0 (Below.size hb)
      replace hBg00 := cell_step hBg00 hb
      replace hBg01 := cell_step hBg01 hb
      replace hBg02 := cell_step hBg02 hb
      replace hZg0 := Nat.lt_of_lt_of_le hZg0 (Below.size hb)
      replace hM := SlR.below hM hb
      replace hOh0 := ownsRow_below hOh0 hb
      replace hSh0 := SlR.below hSh0 hb
      replace hBh00 := cell_step hBh00 hb
      replace hBh01 := cell_step hBh01 hb
      replace hBh02 := cell_step hBh02 hb
      replace hZh0 := Nat.lt_of_lt_of_le hZh0 (Below.size hb)
      clear hb
      go_wp2_with fail
      refine (heldTable_any oi0 oj0 _ o0.length 1 _ (by omega) (by omega) (by omega) hM).mono ?_
      rintro e W25 ⟨rfl, hb⟩
      replace hBaC0 := cell_step hBaC0 hb
      replace hBaC1 := cell_step hBaC1 hb
      replace hBaC2 := cell_step hBaC2 hb
      replace hZaC := Nat.lt_of_lt_of_le hZaC (Below.size hb)
      replace hSaC := SlR.below hSaC hb
      replace hSaRow := SlR.below hSaRow hb
      replace hF := Fr.step hF hb
      replace hSw0 := SlR.below hSw0 hb
      replace hE := Fr.step hE hb
      replace hBw00 := cell_step hBw00 hb
      replace hBw01 := cell_step hBw01 hb
      replace hBw02 := cell_step hBw02 hb
      replace hZw0 := Nat.lt_of_lt_of_le hZw0 (Below.size hb)
      replace hZx0 := Nat.lt_of_lt_of_le hZx0 (Below.size hb)
      replace hBg00 := cell_step hBg00 hb
      replace hBg01 := cell_step hBg01 hb
      replace hBg02 := cell_step hBg02 hb
      replace hZg0 := Nat.lt_of_lt_of_le hZg0 (Below.size hb)
      replace hM := SlR.below hM hb
      replace hOh0 := ownsRow_below hOh0 hb
      replace hSh0 := SlR.below hSh0 hb
      replace hBh00 := cell_step hBh00 hb
      replace hBh01 := cell_step hBh01 hb
      replace hBh02 := cell_step hBh02 hb
      replace hZh0 := Nat.lt_of_lt_of_le hZh0 (Below.size hb)
      clear hb
      go_wp2_with fail
      go_ret
      exact ⟨rfl, hF⟩
    · go_enter Try.func7, Try.ntmps7
      go_wp2_with fail
      have hF : Fr w (World.alloc w (.cells #[.int .i64 iaC, .int .i64 jaC, .slice aaC aC.length caC] 31)) := by (show Below _ _ _); go_grown
      have hBaC0 : World.cell? (World.alloc w (.cells #[.int .i64 iaC, .int .i64 jaC, .slice aaC aC.length caC] 31)) ⟨w.heap.size, 0, none⟩ = some (.int .i64 iaC) := by go_cell
      have hBaC1 : World.cell? (World.alloc w (.cells #[.int .i64 iaC, .int .i64 jaC, .slice aaC aC.length caC] 31)) ⟨w.heap.size, 1, none⟩ = some (.int .i64 jaC) := by go_cell
      have hBaC2 : World.cell? (World.alloc w (.cells #[.int .i64 iaC, .int .i64 jaC, .slice aaC aC.length caC] 31)) ⟨w.heap.size, 2, none⟩ = some (.slice aaC aC.length caC) := by go_cell
      have hZaC : w.heap.size < (World.heap (World.alloc w (.cells #[.int .i64 iaC, .int .i64 jaC, .slice aaC aC.length caC] 31))).size := by simp only [World.size_alloc]; omega
      have hSaC := saC.fr hF
      have hSaRow := saRow.fr hF
      generalize (World.alloc w (.cells #[.int .i64 iaC, .int .i64 jaC, .slice aaC aC.length caC] 31)) = W0 at *
      refine (szChannel_gt iaC jaC _ aC.length _ _ _ (by omega) (by omega) (by omega) (by omega)).mono ?_
      rintro e W1 ⟨rfl, hb⟩
      replace hBaC0 := cell_step hBaC0 hb
      replace hBaC1 := cell_step hBaC1 hb
      replace hBaC2 := cell_step hBaC2 hb
      replace hZaC := Nat.lt_of_lt_of_le hZaC (Below.size hb)
      replace hSaC := SlR.below hSaC hb
      replace hSaRow := SlR.below hSaRow hb
      replace hF := Fr.step hF hb
      clear hb
      go_wp2_with fail
      go_ret
      exact ⟨rfl, hF⟩
  · go_enter Try.func7, Try.ntmps7
    go_wp2_with fail
    have hF : Fr w (World.alloc w (.cells #[.int .i64 iaC, .int .i64 jaC, .slice aaC aC.length caC] 31)) := by (show Below _ _ _); go_grown
    have hBaC0 : World.cell? (World.alloc w (.cells #[.int .i64 iaC, .int .i64 jaC, .slice aaC aC.length caC] 31)) ⟨w.heap.size, 0, none⟩ = some (.int .i64 iaC) := by go_cell
    have hBaC1 : World.cell? (World.alloc w (.cells #[.int .i64 iaC, .int .i64 jaC, .slice aaC aC.length caC] 31)) ⟨w.heap.size, 1, none⟩ = some (.int .i64 jaC) := by go_cell
    have hBaC2 : World.cell? (World.alloc w (.cells #[.int .i64 iaC, .int .i64 jaC, .slice aaC aC.length caC] 31)) ⟨w.heap.size, 2, none⟩ = some (.slice aaC aC.length caC) := by go_cell
    have hZaC : w.heap.size < (World.heap (World.alloc w (.cells #[.int .i64 iaC, .int .i64 jaC, .slice aaC aC.length caC] 31))).size := by simp only [World.size_alloc]; omega
    have hSaC := saC.fr hF
    have hSaRow := saRow.fr hF
    generalize (World.alloc w (.cells #[.int .i64 iaC, .int .i64 jaC, .slice aaC aC.length caC] 31)) = W0 at *
    go_ret
    exact ⟨rfl, hF⟩

end Go.Proofs.Ytlahmdnlamifnaa
