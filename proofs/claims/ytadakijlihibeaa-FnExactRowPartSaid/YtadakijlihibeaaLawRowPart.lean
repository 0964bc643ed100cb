/- The walk of the law FnExactRowPart, out of the contracts of what it calls. -/
import Derived.Test.YtadakijlihibeaaTab
import Derived.Deep.RegionHeld3
import Derived.Test.YtadakijlihibeaaHrg
namespace Go.Proofs.Ytadakijlihibeaa
set_option linter.unusedSimpArgs false
set_option linter.unusedVariables false
open Go.RowKit

set_option maxHeartbeats 4000000 in
theorem law_RowPart (w : World) (iaT jaT : Int) (hiaT : I64 iaT) (hjaT : I64 jaT) (aaT : Option Addr) (caT : Nat) (aT : List Nat) (maT : aT.length ≤ caT ∧ caT ≤ 9223372036854775807) (saT : SlR w (.slice aaT aT.length caT) (aT.map (Value.float .f32))) (xaT : ∀ x ∈ aT, x < 4294967296) :
    Calls Try.prog 5 #[.agg #[.int .i64 iaT, .int .i64 jaT, .slice aaT aT.length caT]] w fun e w' => e = .returned (.bool true) ∧ Below w.heap.size w w' := by
  by_cases z0 : aT.length ≤ 1048576
  · go_enter Try.func5, Try.ntmps5
    go_wp2_with fail
    have hF : Fr w (World.alloc w (.cells #[.int .i64 iaT, .int .i64 jaT, .slice aaT aT.length caT] 33)) := by (show Below _ _ _); go_grown
    have hBaT0 : World.cell? (World.alloc w (.cells #[.int .i64 iaT, .int .i64 jaT, .slice aaT aT.length caT] 33)) ⟨w.heap.size, 0, none⟩ = some (.int .i64 iaT) := by go_cell
    have hBaT1 : World.cell? (World.alloc w (.cells #[.int .i64 iaT, .int .i64 jaT, .slice aaT aT.length caT] 33)) ⟨w.heap.size, 1, none⟩ = some (.int .i64 jaT) := by go_cell
    have hBaT2 : World.cell? (World.alloc w (.cells #[.int .i64 iaT, .int .i64 jaT, .slice aaT aT.length caT] 33)) ⟨w.heap.size, 2, none⟩ = some (.slice aaT aT.length caT) := by go_cell
    have hZaT : w.heap.size < (World.heap (World.alloc w (.cells #[.int .i64 iaT, .int .i64 jaT, .slice aaT aT.length caT] 33))).size := by simp only [World.size_alloc]; omega
    have hSaT := saT.fr hF
    generalize (World.alloc w (.cells #[.int .i64 iaT, .int .i64 jaT, .slice aaT aT.length caT] 33)) = W0 at *
    refine (szTable_le iaT jaT _ aT.length _ _ _ (by omega) (by omega) (by omega) (by omega)).mono ?_
    rintro e W1 ⟨rfl, hb⟩
    replace hBaT0 := cell_step hBaT0 hb
    replace hBaT1 := cell_step hBaT1 hb
    replace hBaT2 := cell_step hBaT2 hb
    replace hZaT := Nat.lt_of_lt_of_le hZaT (Below.size hb)
    replace hSaT := SlR.below hSaT hb
    replace hF := Fr.step hF hb
    clear hb
    go_wp2_with fail
    generalize hO : out_RowPart iaT jaT aT = o
    obtain ⟨o0, o1⟩ := o
    have HO := Lib.hid hO
    have HOl : o0.length ≤ 1048576 := by have h := len_RowPart iaT jaT hiaT hjaT aT xaT (by omega); rw [hO] at h; exact h
    clear hO
    refine (toTable_any iaT jaT _ aT _ hSaT (by omega)).mono ?_
    rintro e W2 ⟨aT1, cT1, rfl, hOt1, hb⟩
    replace hBaT0 := cell_step hBaT0 hb
    replace hBaT1 := cell_step hBaT1 hb
    replace hBaT2 := cell_step hBaT2 hb
    replace hZaT := Nat.lt_of_lt_of_le hZaT (Below.size hb)
    replace hSaT := SlR.below hSaT hb
    replace hF := Fr.step hF hb
    clear hb
    replace hOt1 := SlR.own hOt1
    go_wp2_with fail
    refine (spec_RowPart _ iaT jaT hiaT hjaT _ aT hOt1 xaT (by omega)).mono ?_
    rw [HO.out]
    try dsimp only
    rintro e W3 ⟨arw, crw, rfl, hSw0, hb⟩
    replace hBaT0 := cell_step hBaT0 hb
    replace hBaT1 := cell_step hBaT1 hb
    replace hBaT2 := cell_step hBaT2 hb
    replace hZaT := Nat.lt_of_lt_of_le hZaT (Below.size hb)
    replace hSaT := SlR.below hSaT hb
    replace hF := Fr.step hF hb
    replace hOt1 := SlR.below hOt1 hb
    clear hb
    clear hOt1
    have hE := Fr.refl W3
    have hFE := hF
    have hBaT0_E := hBaT0
    have hBaT1_E := hBaT1
    have hBaT2_E := hBaT2
    have hSaT_E := hSaT
    have hSw0_E := hSw0
    go_wp2_with fail
    have hLx0 := Below.size hE
    refine (toTable_any iaT jaT _ aT _ hSaT (by omega)).mono ?_
    rintro e W4 ⟨ax0, cx0, rfl, hOx0, hb⟩
    replace hBaT0 := cell_step hBaT0 hb
    replace hBaT1 := cell_step hBaT1 hb
    replace hBaT2 := cell_step hBaT2 hb
    replace hZaT := Nat.lt_of_lt_of_le hZaT (Below.size hb)
    replace hSaT := SlR.below hSaT hb
    replace hF := Fr.step hF hb
    replace hSw0 := SlR.below hSw0 hb
    replace hE := Fr.step hE hb
    clear hb
    have hSx0 := SlR.own hOx0
    have hHx0 : ∀ k, Value.ownBlock (.slice ax0 aT.length cx0) = some k → k < (World.heap W4).size := fun k hk => (hOx0.lt k hk).2
    have hXx0 := Nat.le_refl (World.heap W4).size
    go_wp2_with fail
    have hb : Below (World.heap W4).size W4 (World.alloc W4 (.cells #[.int .i64 iaT, .int .i64 jaT, .slice ax0 aT.length cx0] 37)) := by go_grown
    replace hBaT0 := cell_step hBaT0 hb
    replace hBaT1 := cell_step hBaT1 hb
    replace hBaT2 := cell_step hBaT2 hb
    replace hZaT := Nat.lt_of_lt_of_le hZaT (Below.size hb)
    replace hSaT := SlR.below hSaT hb
    replace hF := Fr.step hF hb
    replace hSw0 := SlR.below hSw0 hb
    replace hE := Fr.step hE hb
    replace hOx0 := ownsRow_below hOx0 hb
    replace hSx0 := SlR.below hSx0 hb
    have hBx00 : World.cell? (World.alloc W4 (.cells #[.int .i64 iaT, .int .i64 jaT, .slice ax0 aT.length cx0] 37)) ⟨(World.heap W4).size, 0, none⟩ = some (.int .i64 iaT) := by simp
    have hBx01 : World.cell? (World.alloc W4 (.cells #[.int .i64 iaT, .int .i64 jaT, .slice ax0 aT.length cx0] 37)) ⟨(World.heap W4).size, 1, none⟩ = some (.int .i64 jaT) := by simp
    have hBx02 : World.cell? (World.alloc W4 (.cells #[.int .i64 iaT, .int .i64 jaT, .slice ax0 aT.length cx0] 37)) ⟨(World.heap W4).size, 2, none⟩ = some (.slice ax0 aT.length cx0) := by simp
    have hZx0 : (World.heap W4).size < (World.heap (World.alloc W4 (.cells #[.int .i64 iaT, .int .i64 jaT, .slice ax0 aT.length cx0] 37))).size := by simp
    clear hb
    generalize (World.alloc W4 (.cells #[.int .i64 iaT, .int .i64 jaT, .slice ax0 aT.length cx0] 37)) = W5 at *
    have hgE := Below.size hE
    have hGx0 : ∀ k, Value.ownBlock (.slice ax0 aT.length cx0) = some k → k < (World.heap W5).size := fun k hk => (hOx0.lt k hk).2
    refine (impl_RowPart _ iaT jaT hiaT hjaT _ aT hSx0 xaT (by omega)).mono ?_
    rw [HO.out]
    try dsimp only
    rintro e W6 ⟨arg, crg, rfl, hOg0, hb⟩
    replace hBaT0 := cell_step hBaT0 hb
    replace hBaT1 := cell_step hBaT1 hb
    replace hBaT2 := cell_step hBaT2 hb
    replace hZaT := Nat.lt_of_lt_of_le hZaT (Below.size hb)
    replace hSaT := SlR.below hSaT hb
    replace hF := Fr.step hF hb
    replace hSw0 := SlR.below hSw0 hb
    replace hE := Fr.step hE hb
    replace hOx0 := ownsRow_below hOx0 hb
    replace hSx0 := SlR.below hSx0 hb
    replace hBx00 := cell_step hBx00 hb
    replace hBx01 := cell_step hBx01 hb
    replace hBx02 := cell_step hBx02 hb
    replace hZx0 := Nat.lt_of_lt_of_le hZx0 (Below.size hb)
    clear hb
    have hSg0 := SlR.own hOg0
    have hHg0 : ∀ k, Value.ownBlock (.slice arg o0.length crg) = some k → k < (World.heap W6).size := fun k hk => (hOg0.lt k hk).2
    go_wp2_with fail
    refine (eqFloat32S_same _ _ o0 _ hSg0 hSw0).mono ?_
    rintro e W7 ⟨rfl, hq⟩
    have hb := hq.below (World.heap W6).size
    replace hBaT0 := cell_step hBaT0 hb
    replace hBaT1 := cell_step hBaT1 hb
    replace hBaT2 := cell_step hBaT2 hb
    replace hZaT := Nat.lt_of_lt_of_le hZaT (Below.size hb)
    replace hSaT := SlR.below hSaT hb
    replace hF := Fr.step hF hb
    replace hSw0 := SlR.below hSw0 hb
    replace hE := Fr.step hE hb
    replace hOx0 := ownsRow_below hOx0 hb
    replace hSx0 := SlR.below hSx0 hb
    replace hBx00 := cell_step hBx00 hb
    replace hBx01 := cell_step hBx01 hb
    replace hBx02 := cell_step hBx02 hb
    replace hZx0 := Nat.lt_of_lt_of_le hZx0 (Below.size hb)
    replace hOg0 := ownsRow_below hOg0 hb
    replace hSg0 := SlR.below hSg0 hb
    clear hb hq
    go_wp2_with fail
    go_region_held3 (fun W => World.cell? W ⟨w.heap.size, 0, none⟩ = some (.int .i64 iaT) ∧ World.cell? W ⟨w.heap.size, 1, none⟩ = some (.int .i64 jaT) ∧ World.cell? W ⟨w.heap.size, 2, none⟩ = some (.slice aaT aT.length caT) ∧ World.cell? W ⟨(World.heap W4).size, 0, none⟩ = some (.int .i64 iaT) ∧ World.cell? W ⟨(World.heap W4).size, 1, none⟩ = some (.int .i64 jaT) ∧ World.cell? W ⟨(World.heap W4).size, 2, none⟩ = some (.slice ax0 aT.length cx0) ∧ Fr W7 W) (first | exact keep6 (by assumption) (by assumption) | exact ⟨hBaT0, hBaT1, hBaT2, hBx00, hBx01, hBx02, (Fr.refl _).drew⟩)
      (first | (go_at_call 24; (with_reducible refine (toTable_any iaT jaT (.slice aaT aT.length caT) aT _ (hSaT.fr (‹_ ∧ _ ∧ _ ∧ _ ∧ _ ∧ _ ∧ Fr W7 _›).2.2.2.2.2.2) (by omega)).mono ?_); rintro e V1 ⟨b1, d1, rfl, hown1, hb1⟩) | (go_at_call 27; (with_reducible refine (eqTable_same iaT jaT _ _ aT _ (hSx0.fr (‹_ ∧ _ ∧ _ ∧ _ ∧ _ ∧ _ ∧ Fr W7 _›).2.2.2.2.2.2) (SlR.own hown1)).mono ?_); rintro e V2 ⟨rfl, hb2⟩))
    rename_i hHold
    obtain ⟨hBaT0_, hBaT1_, hBaT2_, hBx00_, hBx01_, hBx02_, hb⟩ := hHold
    replace hBaT0 := hBaT0_; clear hBaT0_
    replace hBaT1 := hBaT1_; clear hBaT1_
    replace hBaT2 := hBaT2_; clear hBaT2_
    replace hBx00 := hBx00_; clear hBx00_
    replace hBx01 := hBx01_; clear hBx01_
    replace hBx02 := hBx02_; clear hBx02_
    replace hZaT := Nat.lt_of_lt_of_le hZaT (Below.size hb)
    replace hSaT := SlR.below hSaT hb
    replace hF := Fr.step hF hb
    replace hSw0 := SlR.below hSw0 hb
    replace hE := Fr.step hE hb
    replace hOx0 := ownsRow_below hOx0 hb
    replace hSx0 := SlR.below hSx0 hb
    replace hZx0 := Nat.lt_of_lt_of_le hZx0 (Below.size hb)
    replace hOg0 := ownsRow_below hOg0 hb
    replace hSg0 := SlR.below hSg0 hb
    clear hb
    clear hown1 hb1 hb2
    go_wp2_with fail
    refine (markTable_any iaT jaT _ aT.length _ _ 1 _ _ (by omega) (by omega) (by omega) hOx0).mono ?_
    rintro e W9 ⟨rfl, hOm, hg⟩
    replace hE := hE.grown hg hOx0 hLx0
    replace hF := hFE.step hE
    replace hBaT0 := cell_step hBaT0_E hE
    replace hBaT1 := cell_step hBaT1_E hE
    replace hBaT2 := cell_step hBaT2_E hE
    replace hSaT := SlR.fr hSaT_E hE
    replace hSw0 := SlR.fr hSw0_E hE
    clear hBx00
    clear hBx01
    clear hBx02
    replace hOg0 := own_apart hOg0 hg hGx0
    replace hSg0 := SlR.own hOg0
    clear hOx0
    clear hSx0
    replace hZaT := Nat.lt_of_lt_of_le hZaT hg.size
    replace hZx0 := Nat.lt_of_lt_of_le hZx0 hg.size
    clear hOm hg
    go_wp2_with fail
    refine (eqFloat32S_same _ _ o0 _ hSg0 hSw0).mono ?_
    rintro e W10 ⟨rfl, hq⟩
    have hb := hq.below (World.heap W9).size
    replace hBaT0 := cell_step hBaT0 hb
    replace hBaT1 := cell_step hBaT1 hb
    replace hBaT2 := cell_step hBaT2 hb
    replace hZaT := Nat.lt_of_lt_of_le hZaT (Below.size hb)
    replace hSaT := SlR.below hSaT hb
    replace hF := Fr.step hF hb
    replace hSw0 := SlR.below hSw0 hb
    replace hE := Fr.step hE hb
    replace hZx0 := Nat.lt_of_lt_of_le hZx0 (Below.size hb)
    replace hOg0 := ownsRow_below hOg0 hb
    replace hSg0 := SlR.below hSg0 hb
    clear hb hq
    go_wp2_with fail
    refine (markFloat32S_any _ o0.length _ _ 1 _ _ (by omega) (by omega) (by omega) hOg0).mono ?_
    rintro e W11 ⟨rfl, hOm, hg⟩
    replace hE := hE.grown hg hOg0 hgE
    replace hF := hFE.step hE
    replace hBaT0 := cell_step hBaT0_E hE
    replace hBaT1 := cell_step hBaT1_E hE
    replace hBaT2 := cell_step hBaT2_E hE
    replace hSaT := SlR.fr hSaT_E hE
    replace hSw0 := SlR.fr hSw0_E hE
    clear hOg0
    clear hSg0
    have hM := SlR.own hOm
    replace hZaT := Nat.lt_of_lt_of_le hZaT hg.size
    replace hZx0 := Nat.lt_of_lt_of_le hZx0 hg.size
    clear hOm hg
    go_wp2_with fail
    refine (heldFloat32S_any _ o0.length 1 _ (by omega) (by omega) (by omega) hM).mono ?_
    rintro e _ ⟨rfl, rfl⟩
    go_wp2_with fail
    refine (toTable_any iaT jaT _ aT _ hSaT (by omega)).mono ?_
    rintro e W12 ⟨aT1, cT1, rfl, hOt1, hb⟩
    replace hBaT0 := cell_step hBaT0 hb
    replace hBaT1 := cell_step hBaT1 hb
    replace hBaT2 := cell_step hBaT2 hb
    replace hZaT := Nat.lt_of_lt_of_le hZaT (Below.size hb)
    replace hSaT := SlR.below hSaT hb
    replace hF := Fr.step hF hb
    replace hSw0 := SlR.below hSw0 hb
    replace hE := Fr.step hE hb
    replace hZx0 := Nat.lt_of_lt_of_le hZx0 (Below.size hb)
    replace hM := SlR.below hM hb
    clear hb
    replace hOt1 := SlR.own hOt1
    go_wp2_with fail
    refine (impl_RowPart _ iaT jaT hiaT hjaT _ aT hOt1 xaT (by omega)).mono ?_
    rw [HO.out]
    try dsimp only
    rintro e W13 ⟨arh, crh, rfl, hOh0, hb⟩
    replace hBaT0 := cell_step hBaT0 hb
    replace hBaT1 := cell_step hBaT1 hb
    replace hBaT2 := cell_step hBaT2 hb
    replace hZaT := Nat.lt_of_lt_of_le hZaT (Below.size hb)
    replace hSaT := SlR.below hSaT hb
    replace hF := Fr.step hF hb
    replace hSw0 := SlR.below hSw0 hb
    replace hE := Fr.step hE hb
    replace hZx0 := Nat.lt_of_lt_of_le hZx0 (Below.size hb)
    replace hM := SlR.below hM hb
    replace hOt1 := SlR.below hOt1 hb
    clear hb
    clear hOt1
    have hSh0 := SlR.own hOh0
    go_wp2_with fail
    refine (eqFloat32S_same _ _ o0 _ hSh0 hSw0).mono ?_
    rintro e W14 ⟨rfl, hq⟩
    have hb := hq.below (World.heap W13).size
    replace hBaT0 := cell_step hBaT0 hb
    replace hBaT1 := cell_step hBaT1 hb
    replace hBaT2 := cell_step hBaT2 hb
    replace hZaT := Nat.lt_of_lt_of_le hZaT (Below.size hb)
    replace hSaT := SlR.below hSaT hb
    replace hF := Fr.step hF hb
    replace hSw0 := SlR.below hSw0 hb
    replace hE := Fr.step hE hb
    replace hZx0 := Nat.lt_of_lt_of_le hZx0 (Below.size hb)
    replace hM := SlR.below hM hb
    replace hOh0 := ownsRow_below hOh0 hb
    replace hSh0 := SlR.below hSh0 hb
    clear hb hq
    go_wp2_with fail
    refine (heldFloat32S_any _ o0.length 1 _ (by omega) (by omega) (by omega) hM).mono ?_
    rintro e _ ⟨rfl, rfl⟩
    go_wp2_with fail
    go_ret
    exact ⟨rfl, hF⟩
  · go_enter Try.func5, Try.ntmps5
    go_wp2_with fail
    have hF : Fr w (World.alloc w (.cells #[.int .i64 iaT, .int .i64 jaT, .slice aaT aT.length caT] 33)) := by (show Below _ _ _); go_grown
    have hBaT0 : World.cell? (World.alloc w (.cells #[.int .i64 iaT, .int .i64 jaT, .slice aaT aT.length caT] 33)) ⟨w.heap.size, 0, none⟩ = some (.int .i64 iaT) := by go_cell
    have hBaT1 : World.cell? (World.alloc w (.cells #[.int .i64 iaT, .int .i64 jaT, .slice aaT aT.length caT] 33)) ⟨w.heap.size, 1, none⟩ = some (.int .i64 jaT) := by go_cell
    have hBaT2 : World.cell? (World.alloc w (.cells #[.int .i64 iaT, .int .i64 jaT, .slice aaT aT.length caT] 33)) ⟨w.heap.size, 2, none⟩ = some (.slice aaT aT.length caT) := by go_cell
    have hZaT : w.heap.size < (World.heap (World.alloc w (.cells #[.int .i64 iaT, .int .i64 jaT, .slice aaT aT.length caT] 33))).size := by simp only [World.size_alloc]; omega
    have hSaT := saT.fr hF
    generalize (World.alloc w (.cells #[.int .i64 iaT, .int .i64 jaT, .slice aaT aT.length caT] 33)) = W0 at *
    refine (szTable_gt iaT jaT _ aT.length _ _ _ (by omega) (by omega) (by omega) (by omega)).mono ?_
    rintro e W1 ⟨rfl, hb⟩
    replace hBaT0 := cell_step hBaT0 hb
    replace hBaT1 := cell_step hBaT1 hb
    replace hBaT2 := cell_step hBaT2 hb
    replace hZaT := Nat.lt_of_lt_of_le hZaT (Below.size hb)
    replace hSaT := SlR.below hSaT hb
    replace hF := Fr.step hF hb
    clear hb
    go_wp2_with fail
    go_ret
    exact ⟨rfl, hF⟩

end Go.Proofs.Ytadakijlihibeaa
