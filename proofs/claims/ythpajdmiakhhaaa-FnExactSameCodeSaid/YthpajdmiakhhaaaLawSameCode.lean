/- The walk of the law FnExactSameCode, out of the contracts of what it calls. -/
import Derived.Test.YthpajdmiakhhaaaCtr1
import Derived.Deep.RegionHeld3
namespace Go.Proofs.Ythpajdmiakhhaaa
open Go.RowKit

set_option maxHeartbeats 4000000 in
theorem law_SameCode (w : World) (aaA : Option Addr) (caA : Nat) (aA : List Int) (maA : aA.length ≤ caA ∧ caA ≤ 9223372036854775807) (saA : SlR w (.slice aaA aA.length caA) (aA.map (Value.int .i64))) (xaA : ∀ x ∈ aA, I64 x) (aaB : Option Addr) (caB : Nat) (aB : List Int) (maB : aB.length ≤ caB ∧ caB ≤ 9223372036854775807) (saB : SlR w (.slice aaB aB.length caB) (aB.map (Value.int .i64))) (xaB : ∀ x ∈ aB, I64 x) :
    Calls Try.prog 3 #[.agg #[.slice aaA aA.length caA], .agg #[.slice aaB aB.length caB]] w fun e w' => e = .returned (.bool true) ∧ Below w.heap.size w w' := by
  by_cases z0 : aA.length ≤ 1048576
  · by_cases z1 : aA.length + aB.length ≤ 1048576
    · go_enter Try.func3, Try.ntmps3
      go_wp2_with fail
      have hF : Fr w (World.alloc (World.alloc w (.cells #[.slice aaA aA.length caA] 24)) (.cells #[.slice aaB aB.length caB] 24)) := by (show Below _ _ _); go_grown
      have hBaA0 : World.cell? (World.alloc (World.alloc w (.cells #[.slice aaA aA.length caA] 24)) (.cells #[.slice aaB aB.length caB] 24)) ⟨w.heap.size, 0, none⟩ = some (.slice aaA aA.length caA) := by go_cell
      have hZaA : w.heap.size < (World.heap (World.alloc (World.alloc w (.cells #[.slice aaA aA.length caA] 24)) (.cells #[.slice aaB aB.length caB] 24))).size := by simp only [World.size_alloc]; omega
      have hBaB0 : World.cell? (World.alloc (World.alloc w (.cells #[.slice aaA aA.length caA] 24)) (.cells #[.slice aaB aB.length caB] 24)) ⟨w.heap.size + 1, 0, none⟩ = some (.slice aaB aB.length caB) := by go_cell
      have hZaB : w.heap.size + 1 < (World.heap (World.alloc (World.alloc w (.cells #[.slice aaA aA.length caA] 24)) (.cells #[.slice aaB aB.length caB] 24))).size := by simp only [World.size_alloc]; omega
      have hSaA := saA.fr hF
      have hSaB := saB.fr hF
      generalize (World.alloc (World.alloc w (.cells #[.slice aaA aA.length caA] 24)) (.cells #[.slice aaB aB.length caB] 24)) = W0 at *
      refine (szCode_le _ aA.length _ _ _ (by omega) (by omega) (by omega) (by omega)).mono ?_
      rintro e W1 ⟨rfl, hb⟩
      replace hBaA0 := cell_step hBaA0 hb
      replace hZaA := Nat.lt_of_lt_of_le hZaA (Below.size hb)
      replace hBaB0 := cell_step hBaB0 hb
      replace hZaB := Nat.lt_of_lt_of_le hZaB (Below.size hb)
      replace hSaA := SlR.below hSaA hb
      replace hSaB := SlR.below hSaB hb
      replace hF := Fr.step hF hb
      clear hb
      go_wp2_with fail
      refine (szCode_le _ aB.length _ _ _ (by omega) (by omega) (by omega) (by omega)).mono ?_
      rintro e W2 ⟨rfl, hb⟩
      replace hBaA0 := cell_step hBaA0 hb
      replace hZaA := Nat.lt_of_lt_of_le hZaA (Below.size hb)
      replace hBaB0 := cell_step hBaB0 hb
      replace hZaB := Nat.lt_of_lt_of_le hZaB (Below.size hb)
      replace hSaA := SlR.below hSaA hb
      replace hSaB := SlR.below hSaB hb
      replace hF := Fr.step hF hb
      clear hb
      go_wp2_with fail
      generalize hO : out_SameCode aA aB = o
      obtain ⟨o0, rfl⟩ : ∃ y, y = o := ⟨_, rfl⟩
      have HO := Lib.hid hO
      clear hO
      go_region_held3 (fun W => World.cell? W ⟨w.heap.size, 0, none⟩ = some (.slice aaA aA.length caA) ∧ World.cell? W ⟨w.heap.size + 1, 0, none⟩ = some (.slice aaB aB.length caB) ∧ Fr W2 W) (first | exact keep2 (by assumption) (by assumption) | exact ⟨hBaA0, hBaB0, (Fr.refl _).drew⟩)
        (first | (go_at_call 12; (with_reducible refine (toCode_any (.slice aaA aA.length caA) aA _ (hSaA.fr (‹_ ∧ _ ∧ Fr W2 _›).2.2) (by omega)).mono ?_); rintro e V1 ⟨b1, d1, rfl, hown1, hb1⟩) | (go_at_call 12; (with_reducible refine (toCode_any (.slice aaB aB.length caB) aB _ (hSaB.fr (‹_ ∧ _ ∧ Fr W2 _›).2.2) (by omega)).mono ?_); rintro e V2 ⟨b2, d2, rfl, hown2, hb2⟩) | (go_at_call 11; (with_reducible refine (spec_SameCode _ _ aA ((SlR.own hown1).below hb2) xaA (by omega) _ aB (SlR.own hown2) xaB (by omega)).mono ?_); rw [HO.out]; rintro e Vl ⟨rfl, hbl⟩))
      rename_i hHold
      obtain ⟨hBaA0_, hBaB0_, hb⟩ := hHold
      replace hBaA0 := hBaA0_; clear hBaA0_
      replace hBaB0 := hBaB0_; clear hBaB0_
      replace hZaA := Nat.lt_of_lt_of_le hZaA (Below.size hb)
      replace hZaB := Nat.lt_of_lt_of_le hZaB (Below.size hb)
      replace hSaA := SlR.below hSaA hb
      replace hSaB := SlR.below hSaB hb
      replace hF := Fr.step hF hb
      clear hb
      try clear hown1 hb1
      try clear hown2 hb2
      try clear hbl
      have hE := Fr.refl Vl
      have hFE := hF
      have hBaA0_E := hBaA0
      have hBaB0_E := hBaB0
      have hSaA_E := hSaA
      have hSaB_E := hSaB
      go_wp2_with fail
      have hLx0 := Below.size hE
      refine (toCode_any _ aA _ hSaA (by omega)).mono ?_
      rintro e W4 ⟨ax0, cx0, rfl, hOx0, hb⟩
      replace hBaA0 := cell_step hBaA0 hb
      replace hZaA := Nat.lt_of_lt_of_le hZaA (Below.size hb)
      replace hBaB0 := cell_step hBaB0 hb
      replace hZaB := Nat.lt_of_lt_of_le hZaB (Below.size hb)
      replace hSaA := SlR.below hSaA hb
      replace hSaB := SlR.below hSaB hb
      replace hF := Fr.step hF hb
      replace hE := Fr.step hE hb
      clear hb
      have hSx0 := SlR.own hOx0
      have hHx0 : ∀ k, Value.ownBlock (.slice ax0 aA.length cx0) = some k → k < (World.heap W4).size := fun k hk => (hOx0.lt k hk).2
      have hXx0 := Nat.le_refl (World.heap W4).size
      go_wp2_with fail
      have hb : Below (World.heap W4).size W4 (World.alloc W4 (.cells #[.slice ax0 aA.length cx0] 27)) := by go_grown
      replace hBaA0 := cell_step hBaA0 hb
      replace hZaA := Nat.lt_of_lt_of_le hZaA (Below.size hb)
      replace hBaB0 := cell_step hBaB0 hb
      replace hZaB := Nat.lt_of_lt_of_le hZaB (Below.size hb)
      replace hSaA := SlR.below hSaA hb
      replace hSaB := SlR.below hSaB hb
      replace hF := Fr.step hF hb
      replace hE := Fr.step hE hb
      replace hOx0 := ownsRow_below hOx0 hb
      replace hSx0 := SlR.below hSx0 hb
      have hBx00 : World.cell? (World.alloc W4 (.cells #[.slice ax0 aA.length cx0] 27)) ⟨(World.heap W4).size, 0, none⟩ = some (.slice ax0 aA.length cx0) := by simp
      have hZx0 : (World.heap W4).size < (World.heap (World.alloc W4 (.cells #[.slice ax0 aA.length cx0] 27))).size := by simp
      clear hb
      generalize (World.alloc W4 (.cells #[.slice ax0 aA.length cx0] 27)) = W5 at *
      have hLx1 := Below.size hE
      refine (toCode_any _ aB _ hSaB (by omega)).mono ?_
      rintro e W6 ⟨ax1, cx1, rfl, hOx1, hb⟩
      replace hBaA0 := cell_step hBaA0 hb
      replace hZaA := Nat.lt_of_lt_of_le hZaA (Below.size hb)
      replace hBaB0 := cell_step hBaB0 hb
      replace hZaB := Nat.lt_of_lt_of_le hZaB (Below.size hb)
      replace hSaA := SlR.below hSaA hb
      replace hSaB := SlR.below hSaB hb
      replace hF := Fr.step hF hb
      replace hE := Fr.step hE hb
      replace hOx0 := ownsRow_below hOx0 hb
      replace hSx0 := SlR.below hSx0 hb
      replace hBx00 := cell_step hBx00 hb
      replace hZx0 := Nat.lt_of_lt_of_le hZx0 (Below.size hb)
      clear hb
      have hSx1 := SlR.own hOx1
      have hHx1 : ∀ k, Value.ownBlock (.slice ax1 aB.length cx1) = some k → k < (World.heap W6).size := fun k hk => (hOx1.lt k hk).2
      have hXx1 := Nat.le_refl (World.heap W6).size
      go_wp2_with fail
      have hb : Below (World.heap W6).size W6 (World.alloc W6 (.cells #[.slice ax1 aB.length cx1] 27)) := by go_grown
      replace hBaA0 := cell_step hBaA0 hb
      replace hZaA := Nat.lt_of_lt_of_le hZaA (Below.size hb)
      replace hBaB0 := cell_step hBaB0 hb
      replace hZaB := Nat.lt_of_lt_of_le hZaB (Below.size hb)
      replace hSaA := SlR.below hSaA hb
      replace hSaB := SlR.below hSaB hb
      replace hF := Fr.step hF hb
      replace hE := Fr.step hE hb
      replace hOx0 := ownsRow_below hOx0 hb
      replace hSx0 := SlR.below hSx0 hb
      replace hBx00 := cell_step hBx00 hb
      replace hZx0 := Nat.lt_of_lt_of_le hZx0 (Below.size hb)
      replace hOx1 := ownsRow_below hOx1 hb
      replace hSx1 := SlR.below hSx1 hb
      have hBx10 : World.cell? (World.alloc W6 (.cells #[.slice ax1 aB.length cx1] 27)) ⟨(World.heap W6).size, 0, none⟩ = some (.slice ax1 aB.length cx1) := by simp
      have hZx1 : (World.heap W6).size < (World.heap (World.alloc W6 (.cells #[.slice ax1 aB.length cx1] 27))).size := by simp
      clear hb
      generalize (World.alloc W6 (.cells #[.slice ax1 aB.length cx1] 27)) = W7 at *
      refine (impl_SameCode _ _ aA hSx0 xaA (by omega) _ aB hSx1 xaB (by omega)).mono ?_
      rw [HO.out]
      rintro e W8 ⟨rfl, hb⟩
      replace hBaA0 := cell_step hBaA0 hb
      replace hZaA := Nat.lt_of_lt_of_le hZaA (Below.size hb)
      replace hBaB0 := cell_step hBaB0 hb
      replace hZaB := Nat.lt_of_lt_of_le hZaB (Below.size hb)
      replace hSaA := SlR.below hSaA hb
      replace hSaB := SlR.below hSaB hb
      replace hF := Fr.step hF hb
      replace hE := Fr.step hE hb
      replace hOx0 := ownsRow_below hOx0 hb
      replace hSx0 := SlR.below hSx0 hb
      replace hBx00 := cell_step hBx00 hb
      replace hZx0 := Nat.lt_of_lt_of_le hZx0 (Below.size hb)
      replace hOx1 := ownsRow_below hOx1 hb
      replace hSx1 := SlR.below hSx1 hb
      replace hBx10 := cell_step hBx10 hb
      replace hZx1 := Nat.lt_of_lt_of_le hZx1 (Below.size hb)
      clear hb
      go_wp2_with fail
      go_region_held3 (fun W => World.cell? W ⟨w.heap.size, 0, none⟩ = some (.slice aaA aA.length caA) ∧ World.cell? W ⟨w.heap.size + 1, 0, none⟩ = some (.slice aaB aB.length caB) ∧ World.cell? W ⟨(World.heap W4).size, 0, none⟩ = some (.slice ax0 aA.length cx0) ∧ World.cell? W ⟨(World.heap W6).size, 0, none⟩ = some (.slice ax1 aB.length cx1) ∧ Fr W8 W) (first | exact keep4 (by assumption) (by assumption) | exact ⟨hBaA0, hBaB0, hBx00, hBx10, (Fr.refl _).drew⟩)
        (first | (go_at_call 12; (with_reducible refine (toCode_any (.slice aaA aA.length caA) aA _ (hSaA.fr (‹_ ∧ _ ∧ _ ∧ _ ∧ Fr W8 _›).2.2.2.2) (by omega)).mono ?_); rintro e V1 ⟨b1, d1, rfl, hown1, hb1⟩) | (go_at_call 14; (with_reducible refine (eqCode_same _ _ aA _ (hSx0.fr (‹_ ∧ _ ∧ _ ∧ _ ∧ Fr W8 _›).2.2.2.2) (SlR.own hown1)).mono ?_); rintro e V2 ⟨rfl, hb2⟩))
      rename_i hHold
      obtain ⟨hBaA0_, hBaB0_, hBx00_, hBx10_, hb⟩ := hHold
      replace hBaA0 := hBaA0_; clear hBaA0_
      replace hBaB0 := hBaB0_; clear hBaB0_
      replace hBx00 := hBx00_; clear hBx00_
      replace hBx10 := hBx10_; clear hBx10_
      replace hZaA := Nat.lt_of_lt_of_le hZaA (Below.size hb)
      replace hZaB := Nat.lt_of_lt_of_le hZaB (Below.size hb)
      replace hSaA := SlR.below hSaA hb
      replace hSaB := SlR.below hSaB hb
      replace hF := Fr.step hF hb
      replace hE := Fr.step hE hb
      replace hOx0 := ownsRow_below hOx0 hb
      replace hSx0 := SlR.below hSx0 hb
      replace hZx0 := Nat.lt_of_lt_of_le hZx0 (Below.size hb)
      replace hOx1 := ownsRow_below hOx1 hb
      replace hSx1 := SlR.below hSx1 hb
      replace hZx1 := Nat.lt_of_lt_of_le hZx1 (Below.size hb)
      clear hb
      clear hown1 hb1 hb2
      go_wp2_with fail
      go_region_held3 (fun W => World.cell? W ⟨w.heap.size, 0, none⟩ = some (.slice aaA aA.length caA) ∧ World.cell? W ⟨w.heap.size + 1, 0, none⟩ = some (.slice aaB aB.length caB) ∧ World.cell? W ⟨(World.heap W4).size, 0, none⟩ = some (.slice ax0 aA.length cx0) ∧ World.cell? W ⟨(World.heap W6).size, 0, none⟩ = some (.slice ax1 aB.length cx1) ∧ Fr V2 W) (first | exact keep4 (by assumption) (by assumption) | exact ⟨hBaA0, hBaB0, hBx00, hBx10, (Fr.refl _).drew⟩)
        (first | (go_at_call 12; (with_reducible refine (toCode_any (.slice aaB aB.length caB) aB _ (hSaB.fr (‹_ ∧ _ ∧ _ ∧ _ ∧ Fr V2 _›).2.2.2.2) (by omega)).mono ?_); rintro e V1 ⟨b1, d1, rfl, hown1, hb1⟩) | (go_at_call 14; (with_reducible refine (eqCode_same _ _ aB _ (hSx1.fr (‹_ ∧ _ ∧ _ ∧ _ ∧ Fr V2 _›).2.2.2.2) (SlR.own hown1)).mono ?_); rintro e V2 ⟨rfl, hb2⟩))
      rename_i hHold
      obtain ⟨hBaA0_, hBaB0_, hBx00_, hBx10_, hb⟩ := hHold
      replace hBaA0 := hBaA0_; clear hBaA0_
      replace hBaB0 := hBaB0_; clear hBaB0_
      replace hBx00 := hBx00_; clear hBx00_
      replace hBx10 := hBx10_; clear hBx10_
      replace hZaA := Nat.lt_of_lt_of_le hZaA (Below.size hb)
      replace hZaB := Nat.lt_of_lt_of_le hZaB (Below.size hb)
      replace hSaA := SlR.below hSaA hb
      replace hSaB := SlR.below hSaB hb
      replace hF := Fr.step hF hb
      replace hE := Fr.step hE hb
      replace hOx0 := ownsRow_below hOx0 hb
      replace hSx0 := SlR.below hSx0 hb
      replace hZx0 := Nat.lt_of_lt_of_le hZx0 (Below.size hb)
      replace hOx1 := ownsRow_below hOx1 hb
      replace hSx1 := SlR.below hSx1 hb
      replace hZx1 := Nat.lt_of_lt_of_le hZx1 (Below.size hb)
      clear hb
      clear hown1 hb1 hb2
      go_wp2_with fail
      go_ret
      exact ⟨rfl, hF⟩
    · go_enter Try.func3, Try.ntmps3
      go_wp2_with fail
      have hF : Fr w (World.alloc (World.alloc w (.cells #[.slice aaA aA.length caA] 24)) (.cells #[.slice aaB aB.length caB] 24)) := by (show Below _ _ _); go_grown
      have hBaA0 : World.cell? (World.alloc (World.alloc w (.cells #[.slice aaA aA.length caA] 24)) (.cells #[.slice aaB aB.length caB] 24)) ⟨w.heap.size, 0, none⟩ = some (.slice aaA aA.length caA) := by go_cell
      have hZaA : w.heap.size < (World.heap (World.alloc (World.alloc w (.cells #[.slice aaA aA.length caA] 24)) (.cells #[.slice aaB aB.length caB] 24))).size := by simp only [World.size_alloc]; omega
      have hBaB0 : World.cell? (World.alloc (World.alloc w (.cells #[.slice aaA aA.length caA] 24)) (.cells #[.slice aaB aB.length caB] 24)) ⟨w.heap.size + 1, 0, none⟩ = some (.slice aaB aB.length caB) := by go_cell
      have hZaB : w.heap.size + 1 < (World.heap (World.alloc (World.alloc w (.cells #[.slice aaA aA.length caA] 24)) (.cells #[.slice aaB aB.length caB] 24))).size := by simp only [World.size_alloc]; omega
      have hSaA := saA.fr hF
      have hSaB := saB.fr hF
      generalize (World.alloc (World.alloc w (.cells #[.slice aaA aA.length caA] 24)) (.cells #[.slice aaB aB.length caB] 24)) = W0 at *
      refine (szCode_le _ aA.length _ _ _ (by omega) (by omega) (by omega) (by omega)).mono ?_
      rintro e W1 ⟨rfl, hb⟩
      replace hBaA0 := cell_step hBaA0 hb
      replace hZaA := Nat.lt_of_lt_of_le hZaA (Below.size hb)
      replace hBaB0 := cell_step hBaB0 hb
      replace hZaB := Nat.lt_of_lt_of_le hZaB (Below.size hb)
      replace hSaA := SlR.below hSaA hb
      replace hSaB := SlR.below hSaB hb
      replace hF := Fr.step hF hb
      clear hb
      go_wp2_with fail
      refine (szCode_gt _ aB.length _ _ _ (by omega) (by omega) (by omega) (by omega)).mono ?_
      rintro e W2 ⟨rfl, hb⟩
      replace hBaA0 := cell_step hBaA0 hb
      replace hZaA := Nat.lt_of_lt_of_le hZaA (Below.size hb)
      replace hBaB0 := cell_step hBaB0 hb
      replace hZaB := Nat.lt_of_lt_of_le hZaB (Below.size hb)
      replace hSaA := SlR.below hSaA hb
      replace hSaB := SlR.below hSaB hb
      replace hF := Fr.step hF hb
      clear hb
      go_wp2_with fail
      go_ret
      exact ⟨rfl, hF⟩
  · go_enter Try.func3, Try.ntmps3
    go_wp2_with fail
    have hF : Fr w (World.alloc (World.alloc w (.cells #[.slice aaA aA.length caA] 24)) (.cells #[.slice aaB aB.length caB] 24)) := by (show Below _ _ _); go_grown
    have hBaA0 : World.cell? (World.alloc (World.alloc w (.cells #[.slice aaA aA.length caA] 24)) (.cells #[.slice aaB aB.length caB] 24)) ⟨w.heap.size, 0, none⟩ = some (.slice aaA aA.length caA) := by go_cell
    have hZaA : w.heap.size < (World.heap (World.alloc (World.alloc w (.cells #[.slice aaA aA.length caA] 24)) (.cells #[.slice aaB aB.length caB] 24))).size := by simp only [World.size_alloc]; omega
    have hBaB0 : World.cell? (World.alloc (World.alloc w (.cells #[.slice aaA aA.length caA] 24)) (.cells #[.slice aaB aB.length caB] 24)) ⟨w.heap.size + 1, 0, none⟩ = some (.slice aaB aB.length caB) := by go_cell
    have hZaB : w.heap.size + 1 < (World.heap (World.alloc (World.alloc w (.cells #[.slice aaA aA.length caA] 24)) (.cells #[.slice aaB aB.length caB] 24))).size := by simp only [World.size_alloc]; omega
    have hSaA := saA.fr hF
    have hSaB := saB.fr hF
    generalize (World.alloc (World.alloc w (.cells #[.slice aaA aA.length caA] 24)) (.cells #[.slice aaB aB.length caB] 24)) = W0 at *
    refine (szCode_gt _ aA.length _ _ _ (by omega) (by omega) (by omega) (by omega)).mono ?_
    rintro e W1 ⟨rfl, hb⟩
    replace hBaA0 := cell_step hBaA0 hb
    replace hZaA := Nat.lt_of_lt_of_le hZaA (Below.size hb)
    replace hBaB0 := cell_step hBaB0 hb
    replace hZaB := Nat.lt_of_lt_of_le hZaB (Below.size hb)
    replace hSaA := SlR.below hSaA hb
    replace hSaB := SlR.below hSaB hb
    replace hF := Fr.step hF hb
    clear hb
    go_wp2_with fail
    go_ret
    exact ⟨rfl, hF⟩

end Go.Proofs.Ythpajdmiakhhaaa
