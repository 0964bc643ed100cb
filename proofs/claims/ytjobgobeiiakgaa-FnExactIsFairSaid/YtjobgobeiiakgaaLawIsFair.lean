/- The walk of the law FnExactIsFair, out of the contracts of what it calls. -/
import Derived.Test.YtjobgobeiiakgaaFais
import Derived.Deep.RegionHeld3
import Derived.Test.YtjobgobeiiakgaaHrg
namespace Go.Proofs.Ytjobgobeiiakgaa
set_option linter.unusedSimpArgs false
set_option linter.unusedVariables false
open Go.RowKit

set_option maxHeartbeats 4000000 in
theorem law_IsFair (w : World) (iaC jaC : Int) (hiaC : I64 iaC) (hjaC : I64 jaC) (aaC : Option Addr) (caC : Nat) (aC : List Nat) (maC : aC.length ≤ caC ∧ caC ≤ 9223372036854775807) (saC : SlR w (.slice aaC aC.length caC) (aC.map (Value.float .f32))) (xaC : ∀ x ∈ aC, x < 4294967296) :
    Calls Try.prog 7 #[.agg #[.int .i64 iaC, .int .i64 jaC, .slice aaC aC.length caC]] w fun e w' => e = .returned (.bool true) ∧ Below w.heap.size w w' := by
  by_cases z0 : aC.length ≤ 1048576
  · go_enter Try.func7, Try.ntmps7
    go_wp2_with fail
    have hF : Fr w (World.alloc w (.cells #[.int .i64 iaC, .int .i64 jaC, .slice aaC aC.length caC] 40)) := by (show Below _ _ _); go_grown
    have hBaC0 : World.cell? (World.alloc w (.cells #[.int .i64 iaC, .int .i64 jaC, .slice aaC aC.length caC] 40)) ⟨w.heap.size, 0, none⟩ = some (.int .i64 iaC) := by go_cell
    have hBaC1 : World.cell? (World.alloc w (.cells #[.int .i64 iaC, .int .i64 jaC, .slice aaC aC.length caC] 40)) ⟨w.heap.size, 1, none⟩ = some (.int .i64 jaC) := by go_cell
    have hBaC2 : World.cell? (World.alloc w (.cells #[.int .i64 iaC, .int .i64 jaC, .slice aaC aC.length caC] 40)) ⟨w.heap.size, 2, none⟩ = some (.slice aaC aC.length caC) := by go_cell
    have hZaC : w.heap.size < (World.heap (World.alloc w (.cells #[.int .i64 iaC, .int .i64 jaC, .slice aaC aC.length caC] 40))).size := by simp only [World.size_alloc]; omega
    have hSaC := saC.fr hF
    generalize (World.alloc w (.cells #[.int .i64 iaC, .int .i64 jaC, .slice aaC aC.length caC] 40)) = W0 at *
    refine (szChannel_le iaC jaC _ aC.length _ _ _ (by omega) (by omega) (by omega) (by omega)).mono ?_
    rintro e W1 ⟨rfl, hb⟩
    replace hBaC0 := cell_step hBaC0 hb
    replace hBaC1 := cell_step hBaC1 hb
    replace hBaC2 := cell_step hBaC2 hb
    replace hZaC := Nat.lt_of_lt_of_le hZaC (Below.size hb)
    replace hSaC := SlR.below hSaC hb
    replace hF := Fr.step hF hb
    clear hb
    go_wp2_with fail
    generalize hO : out_IsFair iaC jaC aC = o
    obtain ⟨o0, o1⟩ := o
    have HO := Lib.hid hO
    clear hO
    refine (toChannel_any iaC jaC _ aC _ hSaC (by omega)).mono ?_
    rintro e W2 ⟨aT1, cT1, rfl, hOt1, hb⟩
    replace hBaC0 := cell_step hBaC0 hb
    replace hBaC1 := cell_step hBaC1 hb
    replace hBaC2 := cell_step hBaC2 hb
    replace hZaC := Nat.lt_of_lt_of_le hZaC (Below.size hb)
    replace hSaC := SlR.below hSaC hb
    replace hF := Fr.step hF hb
    clear hb
    replace hOt1 := SlR.own hOt1
    go_wp2_with fail
    refine (spec_IsFair _ iaC jaC hiaC hjaC _ aC hOt1 xaC (by omega)).mono ?_
    rw [HO.out]
    try dsimp only
    rintro e W3 ⟨rfl, hb⟩
    replace hBaC0 := cell_step hBaC0 hb
    replace hBaC1 := cell_step hBaC1 hb
    replace hBaC2 := cell_step hBaC2 hb
    replace hZaC := Nat.lt_of_lt_of_le hZaC (Below.size hb)
    replace hSaC := SlR.below hSaC hb
    replace hF := Fr.step hF hb
    replace hOt1 := SlR.below hOt1 hb
    clear hb
    clear hOt1
    have hE := Fr.refl W3
    have hFE := hF
    have hBaC0_E := hBaC0
    have hBaC1_E := hBaC1
    have hBaC2_E := hBaC2
    have hSaC_E := hSaC
    go_wp2_with fail
    have hLx0 := Below.size hE
    refine (toChannel_any iaC jaC _ aC _ hSaC (by omega)).mono ?_
    rintro e W4 ⟨ax0, cx0, rfl, hOx0, hb⟩
    replace hBaC0 := cell_step hBaC0 hb
    replace hBaC1 := cell_step hBaC1 hb
    replace hBaC2 := cell_step hBaC2 hb
    replace hZaC := Nat.lt_of_lt_of_le hZaC (Below.size hb)
    replace hSaC := SlR.below hSaC hb
    replace hF := Fr.step hF hb
    replace hE := Fr.step hE hb
    have hVx0 := Below.size hb
    clear hb
    have hSx0 := SlR.own hOx0
    have hHx0 : ∀ k, Value.ownBlock (.slice ax0 aC.length cx0) = some k → k < (World.heap W4).size := fun k hk => (hOx0.lt k hk).2
    have hXx0 := Nat.le_refl (World.heap W4).size
    go_wp2_with fail
    have hb : Below (World.heap W4).size W4 (World.alloc W4 (.cells #[.int .i64 iaC, .int .i64 jaC, .slice ax0 aC.length cx0] 43)) := by go_grown
    replace hBaC0 := cell_step hBaC0 hb
    replace hBaC1 := cell_step hBaC1 hb
    replace hBaC2 := cell_step hBaC2 hb
    replace hZaC := Nat.lt_of_lt_of_le hZaC (Below.size hb)
    replace hSaC := SlR.below hSaC hb
    replace hF := Fr.step hF hb
    replace hE := Fr.step hE hb
    replace hOx0 := ownsRow_below hOx0 hb
    replace hSx0 := SlR.below hSx0 hb
    have hBx00 : World.cell? (World.alloc W4 (.cells #[.int .i64 iaC, .int .i64 jaC, .slice ax0 aC.length cx0] 43)) ⟨(World.heap W4).size, 0, none⟩ = some (.int .i64 iaC) := by simp
    have hBx01 : World.cell? (World.alloc W4 (.cells #[.int .i64 iaC, .int .i64 jaC, .slice ax0 aC.length cx0] 43)) ⟨(World.heap W4).size, 1, none⟩ = some (.int .i64 jaC) := by simp
    have hBx02 : World.cell? (World.alloc W4 (.cells #[.int .i64 iaC, .int .i64 jaC, .slice ax0 aC.length cx0] 43)) ⟨(World.heap W4).size, 2, none⟩ = some (.slice ax0 aC.length cx0) := by simp
    have hZx0 : (World.heap W4).size < (World.heap (World.alloc W4 (.cells #[.int .i64 iaC, .int .i64 jaC, .slice ax0 aC.length cx0] 43))).size := by simp
    clear hb
    generalize (World.alloc W4 (.cells #[.int .i64 iaC, .int .i64 jaC, .slice ax0 aC.length cx0] 43)) = W5 at *
    refine (impl_IsFair _ iaC jaC hiaC hjaC _ aC hSx0 xaC (by omega)).mono ?_
    rw [HO.out]
    try dsimp only
    rintro e W6 ⟨rfl, hb⟩
    replace hBaC0 := cell_step hBaC0 hb
    replace hBaC1 := cell_step hBaC1 hb
    replace hBaC2 := cell_step hBaC2 hb
    replace hZaC := Nat.lt_of_lt_of_le hZaC (Below.size hb)
    replace hSaC := SlR.below hSaC hb
    replace hF := Fr.step hF hb
    replace hE := Fr.step hE hb
    replace hOx0 := ownsRow_below hOx0 hb
    replace hSx0 := SlR.below hSx0 hb
    replace hBx00 := cell_step hBx00 hb
    replace hBx01 := cell_step hBx01 hb
    replace hBx02 := cell_step hBx02 hb
    replace hZx0 := Nat.lt_of_lt_of_le hZx0 (Below.size hb)
    clear hb
    go_wp2_with fail
    go_region_held3 (fun W => World.cell? W ⟨w.heap.size, 0, none⟩ = some (.int .i64 iaC) ∧ World.cell? W ⟨w.heap.size, 1, none⟩ = some (.int .i64 jaC) ∧ World.cell? W ⟨w.heap.size, 2, none⟩ = some (.slice aaC aC.length caC) ∧ World.cell? W ⟨(World.heap W4).size, 0, none⟩ = some (.int .i64 iaC) ∧ World.cell? W ⟨(World.heap W4).size, 1, none⟩ = some (.int .i64 jaC) ∧ World.cell? W ⟨(World.heap W4).size, 2, none⟩ = some (.slice ax0 aC.length cx0) ∧ Fr W6 W) (first | exact keep6 (by assumption) (by assumption) | exact ⟨hBaC0, hBaC1, hBaC2, hBx00, hBx01, hBx02, (Fr.refl _).drew⟩)
      (first | (go_at_call 22; (with_reducible refine (toChannel_any iaC jaC (.slice aaC aC.length caC) aC _ (hSaC.fr (‹_ ∧ _ ∧ _ ∧ _ ∧ _ ∧ _ ∧ Fr W6 _›).2.2.2.2.2.2) (by omega)).mono ?_); rintro e V1 ⟨b1, d1, rfl, hown1, hb1⟩) | (go_at_call 24; (with_reducible refine (eqChannel_same iaC jaC _ _ aC _ (hSx0.fr (‹_ ∧ _ ∧ _ ∧ _ ∧ _ ∧ _ ∧ Fr W6 _›).2.2.2.2.2.2) (SlR.own hown1)).mono ?_); rintro e V2 ⟨rfl, hb2⟩))
    rename_i hHold
    obtain ⟨hBaC0_, hBaC1_, hBaC2_, hBx00_, hBx01_, hBx02_, hb⟩ := hHold
    replace hBaC0 := hBaC0_; clear hBaC0_
    replace hBaC1 := hBaC1_; clear hBaC1_
    replace hBaC2 := hBaC2_; clear hBaC2_
    replace hBx00 := hBx00_; clear hBx00_
    replace hBx01 := hBx01_; clear hBx01_
    replace hBx02 := hBx02_; clear hBx02_
    replace hZaC := Nat.lt_of_lt_of_le hZaC (Below.size hb)
    replace hSaC := SlR.below hSaC hb
    replace hF := Fr.step hF hb
    replace hE := Fr.step hE hb
    replace hOx0 := ownsRow_below hOx0 hb
    replace hSx0 := SlR.below hSx0 hb
    replace hZx0 := Nat.lt_of_lt_of_le hZx0 (Below.size hb)
    clear hb
    clear hown1 hb1 hb2
    go_wp2_with fail
    go_ret
    exact ⟨rfl, hF⟩
  · go_enter Try.func7, Try.ntmps7
    go_wp2_with fail
    have hF : Fr w (World.alloc w (.cells #[.int .i64 iaC, .int .i64 jaC, .slice aaC aC.length caC] 40)) := by (show Below _ _ _); go_grown
    have hBaC0 : World.cell? (World.alloc w (.cells #[.int .i64 iaC, .int .i64 jaC, .slice aaC aC.length caC] 40)) ⟨w.heap.size, 0, none⟩ = some (.int .i64 iaC) := by go_cell
    have hBaC1 : World.cell? (World.alloc w (.cells #[.int .i64 iaC, .int .i64 jaC, .slice aaC aC.length caC] 40)) ⟨w.heap.size, 1, none⟩ = some (.int .i64 jaC) := by go_cell
    have hBaC2 : World.cell? (World.alloc w (.cells #[.int .i64 iaC, .int .i64 jaC, .slice aaC aC.length caC] 40)) ⟨w.heap.size, 2, none⟩ = some (.slice aaC aC.length caC) := by go_cell
    have hZaC : w.heap.size < (World.heap (World.alloc w (.cells #[.int .i64 iaC, .int .i64 jaC, .slice aaC aC.length caC] 40))).size := by simp only [World.size_alloc]; omega
    have hSaC := saC.fr hF
    generalize (World.alloc w (.cells #[.int .i64 iaC, .int .i64 jaC, .slice aaC aC.length caC] 40)) = W0 at *
    refine (szChannel_gt iaC jaC _ aC.length _ _ _ (by omega) (by omega) (by omega) (by omega)).mono ?_
    rintro e W1 ⟨rfl, hb⟩
    replace hBaC0 := cell_step hBaC0 hb
    replace hBaC1 := cell_step hBaC1 hb
    replace hBaC2 := cell_step hBaC2 hb
    replace hZaC := Nat.lt_of_lt_of_le hZaC (Below.size hb)
    replace hSaC := SlR.below hSaC hb
    replace hF := Fr.step hF hb
    clear hb
    go_wp2_with fail
    go_ret
    exact ⟨rfl, hF⟩

end Go.Proofs.Ytjobgobeiiakgaa
