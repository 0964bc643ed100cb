/- The walk of the law FnExactSameChannel, out of the contracts of what it calls. -/
import Derived.Test.YtadakijlihibeaaChn
import Derived.Deep.RegionHeld3
import Derived.Test.YtadakijlihibeaaHrg
namespace Go.Proofs.Ytadakijlihibeaa
set_option linter.unusedSimpArgs false
set_option linter.unusedVariables false
open Go.RowKit

set_option maxHeartbeats 4000000 in
theorem law_SameChannel (w : World) (iaA jaA : Int) (hiaA : I64 iaA) (hjaA : I64 jaA) (aaA : Option Addr) (caA : Nat) (aA : List Nat) (maA : aA.length ≤ caA ∧ caA ≤ 9223372036854775807) (saA : SlR w (.slice aaA aA.length caA) (aA.map (Value.float .f32))) (xaA : ∀ x ∈ aA, x < 4294967296) (iaB jaB : Int) (hiaB : I64 iaB) (hjaB : I64 jaB) (aaB : Option Addr) (caB : Nat) (aB : List Nat) (maB : aB.length ≤ caB ∧ caB ≤ 9223372036854775807) (saB : SlR w (.slice aaB aB.length caB) (aB.map (Value.float .f32))) (xaB : ∀ x ∈ aB, x < 4294967296) :
    Calls Try.prog 3 #[.agg #[.int .i64 iaA, .int .i64 jaA, .slice aaA aA.length caA], .agg #[.int .i64 iaB, .int .i64 jaB, .slice aaB aB.length caB]] w fun e w' => e = .returned (.bool true) ∧ Below w.heap.size w w' := by
  by_cases z0 : aA.length ≤ 1048576
  · by_cases z1 : aA.length + aB.length ≤ 1048576
    · go_enter Try.func3, Try.ntmps3
      go_wp2_with fail
      have hF : Fr w (World.alloc (World.alloc w (.cells #[.int .i64 iaA, .int .i64 jaA, .slice aaA aA.length caA] 24)) (.cells #[.int .i64 iaB, .int .i64 jaB, .slice aaB aB.length caB] 24)) := by (show Below _ _ _); go_grown
      have hBaA0 : World.cell? (World.alloc (World.alloc w (.cells #[.int .i64 iaA, .int .i64 jaA, .slice aaA aA.length caA] 24)) (.cells #[.int .i64 iaB, .int .i64 jaB, .slice aaB aB.length caB] 24)) ⟨w.heap.size, 0, none⟩ = some (.int .i64 iaA) := by go_cell
      have hBaA1 : World.cell? (World.alloc (World.alloc w (.cells #[.int .i64 iaA, .int .i64 jaA, .slice aaA aA.length caA] 24)) (.cells #[.int .i64 iaB, .int .i64 jaB, .slice aaB aB.length caB] 24)) ⟨w.heap.size, 1, none⟩ = some (.int .i64 jaA) := by go_cell
      have hBaA2 : World.cell? (World.alloc (World.alloc w (.cells #[.int .i64 iaA, .int .i64 jaA, .slice aaA aA.length caA] 24)) (.cells #[.int .i64 iaB, .int .i64 jaB, .slice aaB aB.length caB] 24)) ⟨w.heap.size, 2, none⟩ = some (.slice aaA aA.length caA) := by go_cell
      have hZaA : w.heap.size < (World.heap (World.alloc (World.alloc w (.cells #[.int .i64 iaA, .int .i64 jaA, .slice aaA aA.length caA] 24)) (.cells #[.int .i64 iaB, .int .i64 jaB, .slice aaB aB.length caB] 24))).size := by simp only [World.size_alloc]; omega
      have hBaB0 : World.cell? (World.alloc (World.alloc w (.cells #[.int .i64 iaA, .int .i64 jaA, .slice aaA aA.length caA] 24)) (.cells #[.int .i64 iaB, .int .i64 jaB, .slice aaB aB.length caB] 24)) ⟨w.heap.size + 1, 0, none⟩ = some (.int .i64 iaB) := by go_cell
      have hBaB1 : World.cell? (World.alloc (World.alloc w (.cells #[.int .i64 iaA, .int .i64 jaA, .slice aaA aA.length caA] 24)) (.cells #[.int .i64 iaB, .int .i64 jaB, .slice aaB aB.length caB] 24)) ⟨w.heap.size + 1, 1, none⟩ = some (.int .i64 jaB) := by go_cell
      have hBaB2 : World.cell? (World.alloc (World.alloc w (.cells #[.int .i64 iaA, .int .i64 jaA, .slice aaA aA.length caA] 24)) (.cells #[.int .i64 iaB, .int .i64 jaB, .slice aaB aB.length caB] 24)) ⟨w.heap.size + 1, 2, none⟩ = some (.slice aaB aB.length caB) := by go_cell
      have hZaB : w.heap.size + 1 < (World.heap (World.alloc (World.alloc w (.cells #[.int .i64 iaA, .int .i64 jaA, .slice aaA aA.length caA] 24)) (.cells #[.int .i64 iaB, .int .i64 jaB, .slice aaB aB.length caB] 24))).size := by simp only [World.size_alloc]; omega
      have hSaA := saA.fr hF
      have hSaB := saB.fr hF
      generalize (World.alloc (World.alloc w (.cells #[.int .i64 iaA, .int .i64 jaA, .slice aaA aA.length caA] 24)) (.cells #[.int .i64 iaB, .int .i64 jaB, .slice aaB aB.length caB] 24)) = W0 at *
      refine (szChannel_le iaA jaA _ aA.length _ _ _ (by omega) (by omega) (by omega) (by omega)).mono ?_
      rintro e W1 ⟨rfl, hb⟩
      replace hBaA0 := cell_step hBaA0 hb
      replace hBaA1 := cell_step hBaA1 hb
      replace hBaA2 := cell_step hBaA2 hb
      replace hZaA := Nat.lt_of_lt_of_le hZaA (Below.size hb)
      replace hBaB0 := cell_step hBaB0 hb
      replace hBaB1 := cell_step hBaB1 hb
      replace hBaB2 := cell_step hBaB2 hb
      replace hZaB := Nat.lt_of_lt_of_le hZaB (Below.size hb)
      replace hSaA := SlR.below hSaA hb
      replace hSaB := SlR.below hSaB hb
      replace hF := Fr.step hF hb
      clear hb
      go_wp2_with fail
      refine (szChannel_le iaB jaB _ aB.length _ _ _ (by omega) (by omega) (by omega) (by omega)).mono ?_
      rintro e W2 ⟨rfl, hb⟩
      replace hBaA0 := cell_step hBaA0 hb
      replace hBaA1 := cell_step hBaA1 hb
      replace hBaA2 := cell_step hBaA2 hb
      replace hZaA := Nat.lt_of_lt_of_le hZaA (Below.size hb)
      replace hBaB0 := cell_step hBaB0 hb
      replace hBaB1 := cell_step hBaB1 hb
      replace hBaB2 := cell_step hBaB2 hb
      replace hZaB := Nat.lt_of_lt_of_le hZaB (Below.size hb)
      replace hSaA := SlR.below hSaA hb
      replace hSaB := SlR.below hSaB hb
      replace hF := Fr.step hF hb
      clear hb
      go_wp2_with fail
      generalize hO : out_SameChannel iaA jaA aA iaB jaB aB = o
      obtain ⟨o0, rfl⟩ : ∃ y, y = o := ⟨_, rfl⟩
      have HO := Lib.hid hO
      clear hO
      go_region_held3 (fun W => World.cell? W ⟨w.heap.size, 0, none⟩ = some (.int .i64 iaA) ∧ World.cell? W ⟨w.heap.size, 1, none⟩ = some (.int .i64 jaA) ∧ World.cell? W ⟨w.heap.size, 2, none⟩ = some (.slice aaA aA.length caA) ∧ World.cell? W ⟨w.heap.size + 1, 0, none⟩ = some (.int .i64 iaB) ∧ World.cell? W ⟨w.heap.size + 1, 1, none⟩ = some (.int .i64 jaB) ∧ World.cell? W ⟨w.heap.size + 1, 2, none⟩ = some (.slice aaB aB.length caB) ∧ Fr W2 W) (first | exact keep6 (by assumption) (by assumption) | exact ⟨hBaA0, hBaA1, hBaA2, hBaB0, hBaB1, hBaB2, (Fr.refl _).drew⟩)
        (first | (go_at_call 17; (with_reducible refine (toChannel_any iaA jaA (.slice aaA aA.length caA) aA _ (hSaA.fr (‹_ ∧ _ ∧ _ ∧ _ ∧ _ ∧ _ ∧ Fr W2 _›).2.2.2.2.2.2) (by omega)).mono ?_); rintro e V1 ⟨b1, d1, rfl, hown1, hb1⟩) | (go_at_call 17; (with_reducible refine (toChannel_any iaB jaB (.slice aaB aB.length caB) aB _ (hSaB.fr (‹_ ∧ _ ∧ _ ∧ _ ∧ _ ∧ _ ∧ Fr W2 _›).2.2.2.2.2.2) (by omega)).mono ?_); rintro e V2 ⟨b2, d2, rfl, hown2, hb2⟩) | (go_at_call 16; (with_reducible refine (spec_SameChannel _ iaA jaA hiaA hjaA _ aA ((SlR.own hown1).below hb2) xaA (by omega) iaB jaB hiaB hjaB _ aB (SlR.own hown2) xaB (by omega)).mono ?_); rw [HO.out]; (try dsimp only); rintro e Vl ⟨rfl, hbl⟩))
      rename_i hHold
      obtain ⟨hBaA0_, hBaA1_, hBaA2_, hBaB0_, hBaB1_, hBaB2_, hb⟩ := hHold
      replace hBaA0 := hBaA0_; clear hBaA0_
      replace hBaA1 := hBaA1_; clear hBaA1_
      replace hBaA2 := hBaA2_; clear hBaA2_
      replace hBaB0 := hBaB0_; clear hBaB0_
      replace hBaB1 := hBaB1_; clear hBaB1_
      replace hBaB2 := hBaB2_; clear hBaB2_
      replace hZaA := Nat.lt_of_lt_of_le hZaA (Below.size hb)
      replace hZaB := Nat.lt_of_lt_of_le hZaB (Below.size hb)
      replace hSaA := SlR.below hSaA hb
      replace hSaB := SlR.below hSaB hb
      replace hF := Fr.step hF hb
      clear hb
      try clear hown1 hb1
      try clear hown2 hb2
      try clear hbl
      have hE := Fr.refl Vl
      have hFE := hF
      have hBaA0_E := hBaA0
      have hBaA1_E := hBaA1
      have hBaA2_E := hBaA2
      have hBaB0_E := hBaB0
      have hBaB1_E := hBaB1
      have hBaB2_E := hBaB2
      have hSaA_E := hSaA
      have hSaB_E := hSaB
      go_wp2_with fail
      have hLx0 := Below.size hE
      refine (toChannel_any iaA jaA _ aA _ hSaA (by omega)).mono ?_
      rintro e W4 ⟨ax0, cx0, rfl, hOx0, hb⟩
      replace hBaA0 := cell_step hBaA0 hb
      replace hBaA1 := cell_step hBaA1 hb
      replace hBaA2 := cell_step hBaA2 hb
      replace hZaA := Nat.lt_of_lt_of_le hZaA (Below.size hb)
      replace hBaB0 := cell_step hBaB0 hb
      replace hBaB1 := cell_step hBaB1 hb
      replace hBaB2 := cell_step hBaB2 hb
      replace hZaB := Nat.lt_of_lt_of_le hZaB (Below.size hb)
      replace hSaA := SlR.below hSaA hb
      replace hSaB := SlR.below hSaB hb
      replace hF := Fr.step hF hb
      replace hE := Fr.step hE hb
      clear hb
      have hSx0 := SlR.own hOx0
      have hHx0 : ∀ k, Value.ownBlock (.slice ax0 aA.length cx0) = some k → k < (World.heap W4).size := fun k hk => (hOx0.lt k hk).2
      have hXx0 := Nat.le_refl (World.heap W4).size
      go_wp2_with fail
      have hb : Below (World.heap W4).size W4 (World.alloc W4 (.cells #[.int .i64 iaA, .int .i64 jaA, .slice ax0 aA.length cx0] 27)) := by go_grown
      replace hBaA0 := cell_step hBaA0 hb
      replace hBaA1 := cell_step hBaA1 hb
      replace hBaA2 := cell_step hBaA2 hb
      replace hZaA := Nat.lt_of_lt_of_le hZaA (Below.size hb)
      replace hBaB0 := cell_step hBaB0 hb
      replace hBaB1 := cell_step hBaB1 hb
      replace hBaB2 := cell_step hBaB2 hb
      replace hZaB := Nat.lt_of_lt_of_le hZaB (Below.size hb)
      replace hSaA := SlR.below hSaA hb
      replace hSaB := SlR.below hSaB hb
      replace hF := Fr.step hF hb
      replace hE := Fr.step hE hb
      replace hOx0 := ownsRow_below hOx0 hb
      replace hSx0 := SlR.below hSx0 hb
      have hBx00 : World.cell? (World.alloc W4 (.cells #[.int .i64 iaA, .int .i64 jaA, .slice ax0 aA.length cx0] 27)) ⟨(World.heap W4).size, 0, none⟩ = some (.int .i64 iaA) := by simp
      have hBx01 : World.cell? (World.alloc W4 (.cells #[.int .i64 iaA, .int .i64 jaA, .slice ax0 aA.length cx0] 27)) ⟨(World.heap W4).size, 1, none⟩ = some (.int .i64 jaA) := by simp
      have hBx02 : World.cell? (World.alloc W4 (.cells #[.int .i64 iaA, .int .i64 jaA, .slice ax0 aA.length cx0] 27)) ⟨(World.heap W4).size, 2, none⟩ = some (.slice ax0 aA.length cx0) := by simp
      have hZx0 : (World.heap W4).size < (World.heap (World.alloc W4 (.cells #[.int .i64 iaA, .int .i64 jaA, .slice ax0 aA.length cx0] 27))).size := by simp
      clear hb
      generalize (World.alloc W4 (.cells #[.int .i64 iaA, .int .i64 jaA, .slice ax0 aA.length cx0] 27)) = W5 at *
      have hLx1 := Below.size hE
      refine (toChannel_any iaB jaB _ aB _ hSaB (by omega)).mono ?_
      rintro e W6 ⟨ax1, cx1, rfl, hOx1, hb⟩
      replace hBaA0 := cell_step hBaA0 hb
      replace hBaA1 := cell_step hBaA1 hb
      replace hBaA2 := cell_step hBaA2 hb
      replace hZaA := Nat.lt_of_lt_of_le hZaA (Below.size hb)
      replace hBaB0 := cell_step hBaB0 hb
      replace hBaB1 := cell_step hBaB1 hb
      replace hBaB2 := cell_step hBaB2 hb
      replace hZaB := Nat.lt_of_lt_of_le hZaB (Below.size hb)
      replace hSaA := SlR.below hSaA hb
      replace hSaB := SlR.below hSaB hb
      replace hF := Fr.step hF hb
      replace hE := Fr.step hE hb
      replace hOx0 := ownsRow_below hOx0 hb
      replace hSx0 := SlR.below hSx0 hb
      replace hBx00 := cell_step hBx00 hb
      replace hBx01 := cell_step hBx01 hb
      replace hBx02 := cell_step hBx02 hb
      replace hZx0 := Nat.lt_of_lt_of_le hZx0 (Below.size hb)
      clear hb
      have hSx1 := SlR.own hOx1
      have hHx1 : ∀ k, Value.ownBlock (.slice ax1 aB.length cx1) = some k → k < (World.heap W6).size := fun k hk => (hOx1.lt k hk).2
      have hXx1 := Nat.le_refl (World.heap W6).size
      go_wp2_with fail
      have hb : Below (World.heap W6).size W6 (World.alloc W6 (.cells #[.int .i64 iaB, .int .i64 jaB, .slice ax1 aB.length cx1] 27)) := by go_grown
      replace hBaA0 := cell_step hBaA0 hb
      replace hBaA1 := cell_step hBaA1 hb
      replace hBaA2 := cell_step hBaA2 hb
      replace hZaA := Nat.lt_of_lt_of_le hZaA (Below.size hb)
      replace hBaB0 := cell_step hBaB0 hb
      replace hBaB1 := cell_step hBaB1 hb
      replace hBaB2 := cell_step hBaB2 hb
      replace hZaB := Nat.lt_of_lt_of_le hZaB (Below.size hb)
      replace hSaA := SlR.below hSaA hb
      replace hSaB := SlR.below hSaB hb
      replace hF := Fr.step hF hb
      replace hE := Fr.step hE hb
      replace hOx0 := ownsRow_below hOx0 hb
      replace hSx0 := SlR.below hSx0 hb
      replace hBx00 := cell_step hBx00 hb
      replace hBx01 := cell_step hBx01 hb
      replace hBx02 := cell_step hBx02 hb
      replace hZx0 := Nat.lt_of_lt_of_le hZx0 (Below.size hb)
      replace hOx1 := ownsRow_below hOx1 hb
      replace hSx1 := SlR.below hSx1 hb
      have hBx10 : World.cell? (World.alloc W6 (.cells #[.int .i64 iaB, .int .i64 jaB, .slice ax1 aB.length cx1] 27)) ⟨(World.heap W6).size, 0, none⟩ = some (.int .i64 iaB) := by simp
      have hBx11 : World.cell? (World.alloc W6 (.cells #[.int .i64 iaB, .int .i64 jaB, .slice ax1 aB.length cx1] 27)) ⟨(World.heap W6).size, 1, none⟩ = some (.int .i64 jaB) := by simp
      have hBx12 : World.cell? (World.alloc W6 (.cells #[.int .i64 iaB, .int .i64 jaB, .slice ax1 aB.length cx1] 27)) ⟨(World.heap W6).size, 2, none⟩ = some (.slice ax1 aB.length cx1) := by simp
      have hZx1 : (World.heap W6).size < (World.heap (World.alloc W6 (.cells #[.int .i64 iaB, .int .i64 jaB, .slice ax1 aB.length cx1] 27))).size := by simp
      clear hb
      generalize (World.alloc W6 (.cells #[.int .i64 iaB, .int .i64 jaB, .slice ax1 aB.length cx1] 27)) = W7 at *
      refine (impl_SameChannel _ iaA jaA hiaA hjaA _ aA hSx0 xaA (by omega) iaB jaB hiaB hjaB _ aB hSx1 xaB (by omega)).mono ?_
      rw [HO.out]
      try dsimp only
      rintro e W8 ⟨rfl, hb⟩
      replace hBaA0 := cell_step hBaA0 hb
      replace hBaA1 := cell_step hBaA1 hb
      replace hBaA2 := cell_step hBaA2 hb
      replace hZaA := Nat.lt_of_lt_of_le hZaA (Below.size hb)
      replace hBaB0 := cell_step hBaB0 hb
      replace hBaB1 := cell_step hBaB1 hb
      replace hBaB2 := cell_step hBaB2 hb
      replace hZaB := Nat.lt_of_lt_of_le hZaB (Below.size hb)
      replace hSaA := SlR.below hSaA hb
      replace hSaB := SlR.below hSaB hb
      replace hF := Fr.step hF hb
      replace hE := Fr.step hE hb
      replace hOx0 := ownsRow_below hOx0 hb
      replace hSx0 := SlR.below hSx0 hb
      replace hBx00 := cell_step hBx00 hb
      replace hBx01 := cell_step hBx01 hb
      replace hBx02 := cell_step hBx02 hb
      replace hZx0 := Nat.lt_of_lt_of_le hZx0 (Below.size hb)
      replace hOx1 := ownsRow_below hOx1 hb
      replace hSx1 := SlR.below hSx1 hb
      replace hBx10 := cell_step hBx10 hb
      replace hBx11 := cell_step hBx11 hb
      replace hBx12 := cell_step hBx12 hb
      replace hZx1 := Nat.lt_of_lt_of_le hZx1 (Below.size hb)
      clear hb
      go_wp2_with fail
      go_region_held3 (fun W => World.cell? W ⟨w.heap.size, 0, none⟩ = some (.int .i64 iaA) ∧ World.cell? W ⟨w.heap.size, 1, none⟩ = some (.int .i64 jaA) ∧ World.cell? W ⟨w.heap.size, 2, none⟩ = some (.slice aaA aA.length caA) ∧ World.cell? W ⟨(World.heap W4).size, 0, none⟩ = some (.int .i64 iaA) ∧ World.cell? W ⟨(World.heap W4).size, 1, none⟩ = some (.int .i64 jaA) ∧ World.cell? W ⟨(World.heap W4).size, 2, none⟩ = some (.slice ax0 aA.length cx0) ∧ Fr W8 W) (first | exact keep6 (by assumption) (by assumption) | exact ⟨hBaA0, hBaA1, hBaA2, hBx00, hBx01, hBx02, (Fr.refl _).drew⟩)
        (first | (go_at_call 17; (with_reducible refine (toChannel_any iaA jaA (.slice aaA aA.length caA) aA _ (hSaA.fr (‹_ ∧ _ ∧ _ ∧ _ ∧ _ ∧ _ ∧ Fr W8 _›).2.2.2.2.2.2) (by omega)).mono ?_); rintro e V1 ⟨b1, d1, rfl, hown1, hb1⟩) | (go_at_call 19; (with_reducible refine (eqChannel_same iaA jaA _ _ aA _ (hSx0.fr (‹_ ∧ _ ∧ _ ∧ _ ∧ _ ∧ _ ∧ Fr W8 _›).2.2.2.2.2.2) (SlR.own hown1)).mono ?_); rintro e V2 ⟨rfl, hb2⟩))
      rename_i hHold
      obtain ⟨hBaA0_, hBaA1_, hBaA2_, hBx00_, hBx01_, hBx02_, hb⟩ := hHold
      replace hBaA0 := hBaA0_; clear hBaA0_
      replace hBaA1 := hBaA1_; clear hBaA1_
      replace hBaA2 := hBaA2_; clear hBaA2_
      replace hBx00 := hBx00_; clear hBx00_
      replace hBx01 := hBx01_; clear hBx01_
      replace hBx02 := hBx02_; clear hBx02_
      replace hZaA := Nat.lt_of_lt_of_le hZaA (Below.size hb)
      replace hBaB0 := cell_step hBaB0 hb
      replace hBaB1 := cell_step hBaB1 hb
      replace hBaB2 := cell_step hBaB2 hb
      replace hZaB := Nat.lt_of_lt_of_le hZaB (Below.size hb)
      replace hSaA := SlR.below hSaA hb
      replace hSaB := SlR.below hSaB hb
      replace hF := Fr.step hF hb
      replace hE := Fr.step hE hb
      replace hOx0 := ownsRow_below hOx0 hb
      replace hSx0 := SlR.below hSx0 hb
      replace hZx0 := Nat.lt_of_lt_of_le hZx0 (Below.size hb)
      replace hOx1 := ownsRow_below hOx1 hb
      replace hSx1 := SlR.below hSx1 hb
      replace hBx10 := cell_step hBx10 hb
      replace hBx11 := cell_step hBx11 hb
      replace hBx12 := cell_step hBx12 hb
      replace hZx1 := Nat.lt_of_lt_of_le hZx1 (Below.size hb)
      clear hb
      clear hown1 hb1 hb2
      go_wp2_with fail
      go_region_held3 (fun W => World.cell? W ⟨w.heap.size + 1, 0, none⟩ = some (.int .i64 iaB) ∧ World.cell? W ⟨w.heap.size + 1, 1, none⟩ = some (.int .i64 jaB) ∧ World.cell? W ⟨w.heap.size + 1, 2, none⟩ = some (.slice aaB aB.length caB) ∧ World.cell? W ⟨(World.heap W6).size, 0, none⟩ = some (.int .i64 iaB) ∧ World.cell? W ⟨(World.heap W6).size, 1, none⟩ = some (.int .i64 jaB) ∧ World.cell? W ⟨(World.heap W6).size, 2, none⟩ = some (.slice ax1 aB.length cx1) ∧ Fr V2 W) (first | exact keep6 (by assumption) (by assumption) | exact ⟨hBaB0, hBaB1, hBaB2, hBx10, hBx11, hBx12, (Fr.refl _).drew⟩)
        (first | (go_at_call 17; (with_reducible refine (toChannel_any iaB jaB (.slice aaB aB.length caB) aB _ (hSaB.fr (‹_ ∧ _ ∧ _ ∧ _ ∧ _ ∧ _ ∧ Fr V2 _›).2.2.2.2.2.2) (by omega)).mono ?_); rintro e V1 ⟨b1, d1, rfl, hown1, hb1⟩) | (go_at_call 19; (with_reducible refine (eqChannel_same iaB jaB _ _ aB _ (hSx1.fr (‹_ ∧ _ ∧ _ ∧ _ ∧ _ ∧ _ ∧ Fr V2 _›).2.2.2.2.2.2) (SlR.own hown1)).mono ?_); rintro e V2 ⟨rfl, hb2⟩))
      rename_i hHold
      obtain ⟨hBaB0_, hBaB1_, hBaB2_, hBx10_, hBx11_, hBx12_, hb⟩ := hHold
      replace hBaB0 := hBaB0_; clear hBaB0_
      replace hBaB1 := hBaB1_; clear hBaB1_
      replace hBaB2 := hBaB2_; clear hBaB2_
      replace hBx10 := hBx10_; clear hBx10_
      replace hBx11 := hBx11_; clear hBx11_
      replace hBx12 := hBx12_; clear hBx12_
      replace hBaA0 := cell_step hBaA0 hb
      replace hBaA1 := cell_step hBaA1 hb
      replace hBaA2 := cell_step hBaA2 hb
      replace hZaA := Nat.lt_of_lt_of_le hZaA (Below.size hb)
      replace hZaB := Nat.lt_of_lt_of_le hZaB (Below.size hb)
      replace hSaA := SlR.below hSaA hb
      replace hSaB := SlR.below hSaB hb
      replace hF := Fr.step hF hb
      replace hE := Fr.step hE hb
      replace hOx0 := ownsRow_below hOx0 hb
      replace hSx0 := SlR.below hSx0 hb
      replace hBx00 := cell_step hBx00 hb
      replace hBx01 := cell_step hBx01 hb
      replace hBx02 := cell_step hBx02 hb
      replace hZx0 := Nat.lt_of_lt_of_le hZx0 (Below.size hb)
      replace hOx1 := ownsRow_below hOx1 hb
      replace hSx1 := SlR.below hSx1 hb
      replace hZx1 := Nat.lt_of_lt_of_le hZx1 (Below.size hb)
      clear hb
      clear hown1 hb1 hb2
      go_wp2_with fail
      go_ret
      exact ⟨rfl, hF⟩
    · go_enter Try.func3, Try.ntmps3
      go_wp2_with fail
      have hF : Fr w (World.alloc (World.alloc w (.cells #[.int .i64 iaA, .int .i64 jaA, .slice aaA aA.length caA] 24)) (.cells #[.int .i64 iaB, .int .i64 jaB, .slice aaB aB.length caB] 24)) := by (show Below _ _ _); go_grown
      have hBaA0 : World.cell? (World.alloc (World.alloc w (.cells #[.int .i64 iaA, .int .i64 jaA, .slice aaA aA.length caA] 24)) (.cells #[.int .i64 iaB, .int .i64 jaB, .slice aaB aB.length caB] 24)) ⟨w.heap.size, 0, none⟩ = some (.int .i64 iaA) := by go_cell
      have hBaA1 : World.cell? (World.alloc (World.alloc w (.cells #[.int .i64 iaA, .int .i64 jaA, .slice aaA aA.length caA] 24)) (.cells #[.int .i64 iaB, .int .i64 jaB, .slice aaB aB.length caB] 24)) ⟨w.heap.size, 1, none⟩ = some (.int .i64 jaA) := by go_cell
      have hBaA2 : World.cell? (World.alloc (World.alloc w (.cells #[.int .i64 iaA, .int .i64 jaA, .slice aaA aA.length caA] 24)) (.cells #[.int .i64 iaB, .int .i64 jaB, .slice aaB aB.length caB] 24)) ⟨w.heap.size, 2, none⟩ = some (.slice aaA aA.length caA) := by go_cell
      have hZaA : w.heap.size < (World.heap (World.alloc (World.alloc w (.cells #[.int .i64 iaA, .int .i64 jaA, .slice aaA aA.length caA] 24)) (.cells #[.int .i64 iaB, .int .i64 jaB, .slice aaB aB.length caB] 24))).size := by simp only [World.size_alloc]; omega
      have hBaB0 : World.cell? (World.alloc (World.alloc w (.cells #[.int .i64 iaA, .int .i64 jaA, .slice aaA aA.length caA] 24)) (.cells #[.int .i64 iaB, .int .i64 jaB, .slice aaB aB.length caB] 24)) ⟨w.heap.size + 1, 0, none⟩ = some (.int .i64 iaB) := by go_cell
      have hBaB1 : World.cell? (World.alloc (World.alloc w (.cells #[.int .i64 iaA, .int .i64 jaA, .slice aaA aA.length caA] 24)) (.cells #[.int .i64 iaB, .int .i64 jaB, .slice aaB aB.length caB] 24)) ⟨w.heap.size + 1, 1, none⟩ = some (.int .i64 jaB) := by go_cell
      have hBaB2 : World.cell? (World.alloc (World.alloc w (.cells #[.int .i64 iaA, .int .i64 jaA, .slice aaA aA.length caA] 24)) (.cells #[.int .i64 iaB, .int .i64 jaB, .slice aaB aB.length caB] 24)) ⟨w.heap.size + 1, 2, none⟩ = some (.slice aaB aB.length caB) := by go_cell
      have hZaB : w.heap.size + 1 < (World.heap (World.alloc (World.alloc w (.cells #[.int .i64 iaA, .int .i64 jaA, .slice aaA aA.length caA] 24)) (.cells #[.int .i64 iaB, .int .i64 jaB, .slice aaB aB.length caB] 24))).size := by simp only [World.size_alloc]; omega
      have hSaA := saA.fr hF
      have hSaB := saB.fr hF
      generalize (World.alloc (World.alloc w (.cells #[.int .i64 iaA, .int .i64 jaA, .slice aaA aA.length caA] 24)) (.cells #[.int .i64 iaB, .int .i64 jaB, .slice aaB aB.length caB] 24)) = W0 at *
      refine (szChannel_le iaA jaA _ aA.length _ _ _ (by omega) (by omega) (by omega) (by omega)).mono ?_
      rintro e W1 ⟨rfl, hb⟩
      replace hBaA0 := cell_step hBaA0 hb
      replace hBaA1 := cell_step hBaA1 hb
      replace hBaA2 := cell_step hBaA2 hb
      replace hZaA := Nat.lt_of_lt_of_le hZaA (Below.size hb)
      replace hBaB0 := cell_step hBaB0 hb
      replace hBaB1 := cell_step hBaB1 hb
      replace hBaB2 := cell_step hBaB2 hb
      replace hZaB := Nat.lt_of_lt_of_le hZaB (Below.size hb)
      replace hSaA := SlR.below hSaA hb
      replace hSaB := SlR.below hSaB hb
      replace hF := Fr.step hF hb
      clear hb
      go_wp2_with fail
      refine (szChannel_gt iaB jaB _ aB.length _ _ _ (by omega) (by omega) (by omega) (by omega)).mono ?_
      rintro e W2 ⟨rfl, hb⟩
      replace hBaA0 := cell_step hBaA0 hb
      replace hBaA1 := cell_step hBaA1 hb
      replace hBaA2 := cell_step hBaA2 hb
      replace hZaA := Nat.lt_of_lt_of_le hZaA (Below.size hb)
      replace hBaB0 := cell_step hBaB0 hb
      replace hBaB1 := cell_step hBaB1 hb
      replace hBaB2 := cell_step hBaB2 hb
      replace hZaB := Nat.lt_of_lt_of_le hZaB (Below.size hb)
      replace hSaA := SlR.below hSaA hb
      replace hSaB := SlR.below hSaB hb
      replace hF := Fr.step hF hb
      clear hb
      go_wp2_with fail
      go_ret
      exact ⟨rfl, hF⟩
  · go_enter Try.func3, Try.ntmps3
    go_wp2_with fail
    have hF : Fr w (World.alloc (World.alloc w (.cells #[.int .i64 iaA, .int .i64 jaA, .slice aaA aA.length caA] 24)) (.cells #[.int .i64 iaB, .int .i64 jaB, .slice aaB aB.length caB] 24)) := by (show Below _ _ _); go_grown
    have hBaA0 : World.cell? (World.alloc (World.alloc w (.cells #[.int .i64 iaA, .int .i64 jaA, .slice aaA aA.length caA] 24)) (.cells #[.int .i64 iaB, .int .i64 jaB, .slice aaB aB.length caB] 24)) ⟨w.heap.size, 0, none⟩ = some (.int .i64 iaA) := by go_cell
    have hBaA1 : World.cell? (World.alloc (World.alloc w (.cells #[.int .i64 iaA, .int .i64 jaA, .slice aaA aA.length caA] 24)) (.cells #[.int .i64 iaB, .int .i64 jaB, .slice aaB aB.length caB] 24)) ⟨w.heap.size, 1, none⟩ = some (.int .i64 jaA) := by go_cell
    have hBaA2 : World.cell? (World.alloc (World.alloc w (.cells #[.int .i64 iaA, .int .i64 jaA, .slice aaA aA.length caA] 24)) (.cells #[.int .i64 iaB, .int .i64 jaB, .slice aaB aB.length caB] 24)) ⟨w.heap.size, 2, none⟩ = some (.slice aaA aA.length caA) := by go_cell
    have hZaA : w.heap.size < (World.heap (World.alloc (World.alloc w (.cells #[.int .i64 iaA, .int .i64 jaA, .slice aaA aA.length caA] 24)) (.cells #[.int .i64 iaB, .int .i64 jaB, .slice aaB aB.length caB] 24))).size := by simp only [World.size_alloc]; omega
    have hBaB0 : World.cell? (World.alloc (World.alloc w (.cells #[.int .i64 iaA, .int .i64 jaA, .slice aaA aA.length caA] 24)) (.cells #[.int .i64 iaB, .int .i64 jaB, .slice aaB aB.length caB] 24)) ⟨w.heap.size + 1, 0, none⟩ = some (.int .i64 iaB) := by go_cell
    have hBaB1 : World.cell? (World.alloc (World.alloc w (.cells #[.int .i64 iaA, .int .i64 jaA, .slice aaA aA.length caA] 24)) (.cells #[.int .i64 iaB, .int .i64 jaB, .slice aaB aB.length caB] 24)) ⟨w.heap.size + 1, 1, none⟩ = some (.int .i64 jaB) := by go_cell
    have hBaB2 : World.cell? (World.alloc (World.alloc w (.cells #[.int .i64 iaA, .int .i64 jaA, .slice aaA aA.length caA] 24)) (.cells #[.int .i64 iaB, .int .i64 jaB, .slice aaB aB.length caB] 24)) ⟨w.heap.size + 1, 2, none⟩ = some (.slice aaB aB.length caB) := by go_cell
    have hZaB : w.heap.size + 1 < (World.heap (World.alloc (World.alloc w (.cells #[.int .i64 iaA, .int .i64 jaA, .slice aaA aA.length caA] 24)) (.cells #[.int .i64 iaB, .int .i64 jaB, .slice aaB aB.length caB] 24))).size := by simp only [World.size_alloc]; omega
    have hSaA := saA.fr hF
    have hSaB := saB.fr hF
    generalize (World.alloc (World.alloc w (.cells #[.int .i64 iaA, .int .i64 jaA, .slice aaA aA.length caA] 24)) (.cells #[.int .i64 iaB, .int .i64 jaB, .slice aaB aB.length caB] 24)) = W0 at *
    refine (szChannel_gt iaA jaA _ aA.length _ _ _ (by omega) (by omega) (by omega) (by omega)).mono ?_
    rintro e W1 ⟨rfl, hb⟩
    replace hBaA0 := cell_step hBaA0 hb
    replace hBaA1 := cell_step hBaA1 hb
    replace hBaA2 := cell_step hBaA2 hb
    replace hZaA := Nat.lt_of_lt_of_le hZaA (Below.size hb)
    replace hBaB0 := cell_step hBaB0 hb
    replace hBaB1 := cell_step hBaB1 hb
    replace hBaB2 := cell_step hBaB2 hb
    replace hZaB := Nat.lt_of_lt_of_le hZaB (Below.size hb)
    replace hSaA := SlR.below hSaA hb
    replace hSaB := SlR.below hSaB hb
    replace hF := Fr.step hF hb
    clear hb
    go_wp2_with fail
    go_ret
    exact ⟨rfl, hF⟩

end Go.Proofs.Ytadakijlihibeaa
