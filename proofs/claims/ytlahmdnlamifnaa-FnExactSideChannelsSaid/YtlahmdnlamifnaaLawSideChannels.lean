/- The walk of the law FnExactSideChannels, out of the contracts of what it calls. -/
import Derived.Test.YtlahmdnlamifnaaZpk
import Derived.Deep.Cut
import Derived.Deep.RegionHeld3
import Derived.Test.YtlahmdnlamifnaaHrg
import Derived.Test.YtlahmdnlamifnaaMbg
namespace Go.Proofs.Ytlahmdnlamifnaa
set_option linter.unusedSimpArgs false
set_option linter.unusedVariables false
open Go.RowKit

set_option maxRecDepth 100000 in
set_option maxHeartbeats 8000000 in
theorem law_SideChannels (w : World) (iaA jaA : Int) (hiaA : I64 iaA) (hjaA : I64 jaA) (aaA : Option Addr) (caA : Nat) (aA : List Nat) (maA : aA.length ≤ caA ∧ caA ≤ 9223372036854775807) (saA : SlR w (.slice aaA aA.length caA) (aA.map (Value.float .f32))) (xaA : ∀ x ∈ aA, x < 4294967296) (iaB jaB : Int) (hiaB : I64 iaB) (hjaB : I64 jaB) (aaB : Option Addr) (caB : Nat) (aB : List Nat) (maB : aB.length ≤ caB ∧ caB ≤ 9223372036854775807) (saB : SlR w (.slice aaB aB.length caB) (aB.map (Value.float .f32))) (xaB : ∀ x ∈ aB, x < 4294967296) :
    Calls Try.prog 6 #[.agg #[.int .i64 iaA, .int .i64 jaA, .slice aaA aA.length caA], .agg #[.int .i64 iaB, .int .i64 jaB, .slice aaB aB.length caB]] w fun e w' => e = .returned (.bool true) ∧ Below w.heap.size w w' := by
  by_cases z0 : aA.length ≤ 1048576
  · by_cases z1 : aA.length + aB.length ≤ 1048576
    · go_enter Try.func6, Try.ntmps6
      go_wp2_with fail
      have hF : Fr w (World.alloc (World.alloc w (.cells #[.int .i64 iaA, .int .i64 jaA, .slice aaA aA.length caA] 31)) (.cells #[.int .i64 iaB, .int .i64 jaB, .slice aaB aB.length caB] 31)) := by (show Below _ _ _); go_grown
      have hBaA0 : World.cell? (World.alloc (World.alloc w (.cells #[.int .i64 iaA, .int .i64 jaA, .slice aaA aA.length caA] 31)) (.cells #[.int .i64 iaB, .int .i64 jaB, .slice aaB aB.length caB] 31)) ⟨w.heap.size, 0, none⟩ = some (.int .i64 iaA) := by go_cell
      have hBaA1 : World.cell? (World.alloc (World.alloc w (.cells #[.int .i64 iaA, .int .i64 jaA, .slice aaA aA.length caA] 31)) (.cells #[.int .i64 iaB, .int .i64 jaB, .slice aaB aB.length caB] 31)) ⟨w.heap.size, 1, none⟩ = some (.int .i64 jaA) := by go_cell
      have hBaA2 : World.cell? (World.alloc (World.alloc w (.cells #[.int .i64 iaA, .int .i64 jaA, .slice aaA aA.length caA] 31)) (.cells #[.int .i64 iaB, .int .i64 jaB, .slice aaB aB.length caB] 31)) ⟨w.heap.size, 2, none⟩ = some (.slice aaA aA.length caA) := by go_cell
      have hZaA : w.heap.size < (World.heap (World.alloc (World.alloc w (.cells #[.int .i64 iaA, .int .i64 jaA, .slice aaA aA.length caA] 31)) (.cells #[.int .i64 iaB, .int .i64 jaB, .slice aaB aB.length caB] 31))).size := by simp only [World.size_alloc]; omega
      have hBaB0 : World.cell? (World.alloc (World.alloc w (.cells #[.int .i64 iaA, .int .i64 jaA, .slice aaA aA.length caA] 31)) (.cells #[.int .i64 iaB, .int .i64 jaB, .slice aaB aB.length caB] 31)) ⟨w.heap.size + 1, 0, none⟩ = some (.int .i64 iaB) := by go_cell
      have hBaB1 : World.cell? (World.alloc (World.alloc w (.cells #[.int .i64 iaA, .int .i64 jaA, .slice aaA aA.length caA] 31)) (.cells #[.int .i64 iaB, .int .i64 jaB, .slice aaB aB.length caB] 31)) ⟨w.heap.size + 1, 1, none⟩ = some (.int .i64 jaB) := by go_cell
      have hBaB2 : World.cell? (World.alloc (World.alloc w (.cells #[.int .i64 iaA, .int .i64 jaA, .slice aaA aA.length caA] 31)) (.cells #[.int .i64 iaB, .int .i64 jaB, .slice aaB aB.length caB] 31)) ⟨w.heap.size + 1, 2, none⟩ = some (.slice aaB aB.length caB) := by go_cell
      have hZaB : w.heap.size + 1 < (World.heap (World.alloc (World.alloc w (.cells #[.int .i64 iaA, .int .i64 jaA, .slice aaA aA.length caA] 31)) (.cells #[.int .i64 iaB, .int .i64 jaB, .slice aaB aB.length caB] 31))).size := by simp only [World.size_alloc]; omega
      have hSaA := saA.fr hF
      have hSaB := saB.fr hF
      generalize (World.alloc (World.alloc w (.cells #[.int .i64 iaA, .int .i64 jaA, .slice aaA aA.length caA] 31)) (.cells #[.int .i64 iaB, .int .i64 jaB, .slice aaB aB.length caB] 31)) = W0 at *
      refine (szChannel_le iaA jaA _ aA.length _ _ _ (by omega) (by omega) (by omega) (by omega)).mono ?_
      rintro e W1 ⟨rfl, hb⟩
      replace hBaA0 := cell_step hBaA0 hb
      replace hBaA1 := cell_step hBaA1 hb
      replace hBaA2 := cell_step hBaA2 hb
      replace hZaA := Nat.lt_of_lt_of_le hZaA (Below.size hb)
      replace hBaB0 := cell_step hBaB0 hb
      replace hBaB1 := cell_step hBaB1 hb
      replace hBaB2 := cell_step hBaB2 hb
      replace hZaB := Nat.lt_of_lt_of_le hZaB (Below.size hb)
      replace hSaA := SlR.below hSaA hb
      replace hSaB := SlR.below hSaB hb
      replace hF := Fr.step hF hb
      clear hb
      go_wp2_with fail
      refine (szChannel_le iaB jaB _ aB.length _ _ _ (by omega) (by omega) (by omega) (by omega)).mono ?_
      rintro e W2 ⟨rfl, hb⟩
      replace hBaA0 := cell_step hBaA0 hb
      replace hBaA1 := cell_step hBaA1 hb
      replace hBaA2 := cell_step hBaA2 hb
      replace hZaA := Nat.lt_of_lt_of_le hZaA (Below.size hb)
      replace hBaB0 := cell_step hBaB0 hb
      replace hBaB1 := cell_step hBaB1 hb
      replace hBaB2 := cell_step hBaB2 hb
      replace hZaB := Nat.lt_of_lt_of_le hZaB (Below.size hb)
      replace hSaA := SlR.below hSaA hb
      replace hSaB := SlR.below hSaB hb
      replace hF := Fr.step hF hb
      clear hb
      go_wp2_with fail
      generalize hO : out_SideChannels iaA jaA aA iaB jaB aB = o
      obtain ⟨oi0, oj0, o0, o1⟩ := o
      have HO := Lib.hid hO
      have HOl : o0.length ≤ 1048576 := by have h := len_SideChannels iaA jaA hiaA hjaA aA xaA (by omega) iaB jaB hiaB hjaB aB xaB (by omega); rw [hO] at h; exact h
      clear hO
      go_cut [6, 7] from 27 (fun s6 s7 wx => ∃ (kw : Nat) (arw : Option Addr) (crw : Nat), s6 = .pointer (some ⟨kw, 0, none⟩) ∧ s7 = .bool o1 ∧ FP W2 wx kw oi0 oj0 (.slice arw o0.length crw) o0)
      case first =>
        go_region_held3 (fun W => World.cell? W ⟨w.heap.size, 0, none⟩ = some (.int .i64 iaA) ∧ World.cell? W ⟨w.heap.size, 1, none⟩ = some (.int .i64 jaA) ∧ World.cell? W ⟨w.heap.size, 2, none⟩ = some (.slice aaA aA.length caA) ∧ World.cell? W ⟨w.heap.size + 1, 0, none⟩ = some (.int .i64 iaB) ∧ World.cell? W ⟨w.heap.size + 1, 1, none⟩ = some (.int .i64 jaB) ∧ World.cell? W ⟨w.heap.size + 1, 2, none⟩ = some (.slice aaB aB.length caB) ∧ Fr W2 W) (first | exact keep6 (by assumption) (by assumption) | exact ⟨hBaA0, hBaA1, hBaA2, hBaB0, hBaB1, hBaB2, (Fr.refl _).drew⟩ | (refine keepF6 hBaA0 hBaA1 hBaA2 hBaB0 hBaB1 hBaB2 ?_; first | exact Below.alloc hFl (Below.size hFl) _ | exact Below.alloc hF2 (Below.size hF2) _ | exact Below.alloc hF1 (Below.size hF1) _ | exact Below.drew (Below.alloc (Below.refl _ _) (Nat.le_refl _) _) | (refine Below.setCell (Below.setCell (Below.setCell hFl ?_ _) ?_ _) ?_ _ <;> first | exact Nat.le_refl _ | exact Below.size hF1 | exact Below.size hF2)))
          (first | (go_at_call 22; (with_reducible refine (toChannel_any iaA jaA (.slice aaA aA.length caA) aA _ (hSaA.fr (‹_ ∧ _ ∧ _ ∧ _ ∧ _ ∧ _ ∧ Fr W2 _›).2.2.2.2.2.2) (by omega)).mono ?_); rintro e V1 ⟨b1, d1, rfl, hown1, hb1⟩; have hF1 := Fr.step (‹_ ∧ _ ∧ _ ∧ _ ∧ _ ∧ _ ∧ Fr W2 _›).2.2.2.2.2.2 hb1; (first | have hz1 := ZP.newd hb1 | have hz1 := ZP.new hb1 | skip)) | (go_at_call 22; (with_reducible refine (toChannel_any iaB jaB (.slice aaB aB.length caB) aB _ (hSaB.fr (‹_ ∧ _ ∧ _ ∧ _ ∧ _ ∧ _ ∧ Fr W2 _›).2.2.2.2.2.2) (by omega)).mono ?_); rintro e V2 ⟨b2, d2, rfl, hown2, hb2⟩; (first | have hs1 := (SlR.own hown1).below hb2 | have hs1 := ((SlR.own hown1).below ((Below.refl _ _).alloc (Nat.le_refl _) _)).below hb2); have hF2 := Fr.step (‹_ ∧ _ ∧ _ ∧ _ ∧ _ ∧ _ ∧ Fr W2 _›).2.2.2.2.2.2 hb2; (first | have hz2 := ZP.new hb2 | have hz2 := ZP.step hz1 hb2 | skip)) | (go_at_call 21; (with_reducible refine (spec_SideChannels _ iaA jaA hiaA hjaA _ aA hs1 xaA (by omega) iaB jaB hiaB hjaB _ aB (SlR.own hown2) xaB (by omega)).mono ?_); rw [HO.out]; (try dsimp only); rintro e Vl ⟨arw, crw, rfl, hSr, hbl⟩; have hFl := Fr.step (‹_ ∧ _ ∧ _ ∧ _ ∧ _ ∧ _ ∧ Fr W2 _›).2.2.2.2.2.2 hbl; (first | (have hz3 := ZP.new hbl; obtain ⟨⟨y0, y1, y2⟩, y3, y4, y5⟩ := ZP.cells hz3) | (have hz3 := ZP.step hz2 hbl; obtain ⟨⟨y0, y1, y2⟩, y3, y4, y5⟩ := ZP.cells hz3) | skip)) | (go_at_call 21; (with_reducible refine (spec_SideChannels _ iaA jaA hiaA hjaA _ aA (hs1.below ((Below.refl _ _).alloc (Nat.le_refl _) _)) xaA (by omega) iaB jaB hiaB hjaB _ aB ((SlR.own hown2).below ((Below.refl _ _).alloc (Nat.le_refl _) _)) xaB (by omega)).mono ?_); rw [HO.out]; (try dsimp only); rintro e Vl ⟨arw, crw, rfl, hSr, hbl⟩; have hFl := Fr.step (‹_ ∧ _ ∧ _ ∧ _ ∧ _ ∧ _ ∧ Fr W2 _›).2.2.2.2.2.2 hbl; (first | (have hz3 := ZP.new hbl; obtain ⟨⟨y0, y1, y2⟩, y3, y4, y5⟩ := ZP.cells hz3) | (have hz3 := ZP.step hz2 hbl; obtain ⟨⟨y0, y1, y2⟩, y3, y4, y5⟩ := ZP.cells hz3) | skip)))
        all_goals
          go_wp2_with fail
          go_meet
          refine ⟨_, arw, crw, rfl, rfl, ?_⟩
          first | exact FP.alloc hFl hSr | exact FP.set hFl (Nat.le_refl _) hz3 hSr | exact FP.set hFl (Below.size hF1) hz3 hSr | exact FP.set hFl (Below.size hF2) hz3 hSr
      case rest =>
      obtain ⟨kw, arw, crw, rfl, rfl, hkk, hZw0, ⟨hBw00, hBw01, hBw02⟩, hSw0, hb⟩ := hcut
      replace hBaA0 := cell_step hBaA0 hb
      replace hBaA1 := cell_step hBaA1 hb
      replace hBaA2 := cell_step hBaA2 hb
      replace hZaA := Nat.lt_of_lt_of_le hZaA (Below.size hb)
      replace hBaB0 := cell_step hBaB0 hb
      replace hBaB1 := cell_step hBaB1 hb
      replace hBaB2 := cell_step hBaB2 hb
      replace hZaB := Nat.lt_of_lt_of_le hZaB (Below.size hb)
      replace hSaA := SlR.below hSaA hb
      replace hSaB := SlR.below hSaB hb
      replace hF := Fr.step hF hb
      clear hb
      have hE := Fr.refl wc
      have hFE := hF
      have hBaA0_E := hBaA0
      have hBaA1_E := hBaA1
      have hBaA2_E := hBaA2
      have hBaB0_E := hBaB0
      have hBaB1_E := hBaB1
      have hBaB2_E := hBaB2
      have hSaA_E := hSaA
      have hSaB_E := hSaB
      have hSw0_E := hSw0
      go_wp2_with fail
      have hLx0 := Below.size hE
      have hYx0 := hZw0
      refine (toChannel_any iaA jaA _ aA _ hSaA (by omega)).mono ?_
      rintro e W5 ⟨ax0, cx0, rfl, hOx0, hb⟩
      replace hBaA0 := cell_step hBaA0 hb
      replace hBaA1 := cell_step hBaA1 hb
      replace hBaA2 := cell_step hBaA2 hb
      replace hZaA := Nat.lt_of_lt_of_le hZaA (Below.size hb)
      replace hBaB0 := cell_step hBaB0 hb
      replace hBaB1 := cell_step hBaB1 hb
      replace hBaB2 := cell_step hBaB2 hb
      replace hZaB := Nat.lt_of_lt_of_le hZaB (Below.size hb)
      replace hSaA := SlR.below hSaA hb
      replace hSaB := SlR.below hSaB hb
      replace hF := Fr.step hF hb
      replace hSw0 := SlR.below hSw0 hb
      replace hE := Fr.step hE hb
      replace hBw00 := cell_step hBw00 hb
      replace hBw01 := cell_step hBw01 hb
      replace hBw02 := cell_step hBw02 hb
      replace hZw0 := Nat.lt_of_lt_of_le hZw0 (Below.size hb)
      have hVx0 := Below.size hb
      clear hb
      have hSx0 := SlR.own hOx0
      have hHx0 : ∀ k, Value.ownBlock (.slice ax0 aA.length cx0) = some k → k < (World.heap W5).size := fun k hk => (hOx0.lt k hk).2
      have hXx0 := Nat.le_refl (World.heap W5).size
      go_wp2_with fail
      have hb : Below (World.heap W5).size W5 (World.alloc W5 (.cells #[.int .i64 iaA, .int .i64 jaA, .slice ax0 aA.length cx0] 25)) := by go_grown
      replace hBaA0 := cell_step hBaA0 hb
      replace hBaA1 := cell_step hBaA1 hb
      replace hBaA2 := cell_step hBaA2 hb
      replace hZaA := Nat.lt_of_lt_of_le hZaA (Below.size hb)
      replace hBaB0 := cell_step hBaB0 hb
      replace hBaB1 := cell_step hBaB1 hb
      replace hBaB2 := cell_step hBaB2 hb
      replace hZaB := Nat.lt_of_lt_of_le hZaB (Below.size hb)
      replace hSaA := SlR.below hSaA hb
      replace hSaB := SlR.below hSaB hb
      replace hF := Fr.step hF hb
      replace hSw0 := SlR.below hSw0 hb
      replace hE := Fr.step hE hb
      replace hBw00 := cell_step hBw00 hb
      replace hBw01 := cell_step hBw01 hb
      replace hBw02 := cell_step hBw02 hb
      replace hZw0 := Nat.lt_of_lt_of_le hZw0 (Below.size hb)
      replace hOx0 := ownsRow_below hOx0 hb
      replace hSx0 := SlR.below hSx0 hb
      have hBx00 : World.cell? (World.alloc W5 (.cells #[.int .i64 iaA, .int .i64 jaA, .slice ax0 aA.length cx0] 25)) ⟨(World.heap W5).size, 0, none⟩ = some (.int .i64 iaA) := by simp
      have hBx01 : World.cell? (World.alloc W5 (.cells #[.int .i64 iaA, .int .i64 jaA, .slice ax0 aA.length cx0] 25)) ⟨(World.heap W5).size, 1, none⟩ = some (.int .i64 jaA) := by simp
      have hBx02 : World.cell? (World.alloc W5 (.cells #[.int .i64 iaA, .int .i64 jaA, .slice ax0 aA.length cx0] 25)) ⟨(World.heap W5).size, 2, none⟩ = some (.slice ax0 aA.length cx0) := by simp
      have hZx0 : (World.heap W5).size < (World.heap (World.alloc W5 (.cells #[.int .i64 iaA, .int .i64 jaA, .slice ax0 aA.length cx0] 25))).size := by simp
      clear hb
      generalize (World.alloc W5 (.cells #[.int .i64 iaA, .int .i64 jaA, .slice ax0 aA.length cx0] 25)) = W6 at *
      have hKx0x1 : ∀ k, Value.ownBlock (.slice ax0 aA.length cx0) = some k → k < (World.heap W6).size := fun k hk => (hOx0.lt k hk).2
      have hLx1 := Below.size hE
      have hYx1 := hZw0
      refine (toChannel_any iaB jaB _ aB _ hSaB (by omega)).mono ?_
      rintro e W7 ⟨ax1, cx1, rfl, hOx1, hb⟩
      replace hBaA0 := cell_step hBaA0 hb
      replace hBaA1 := cell_step hBaA1 hb
      replace hBaA2 := cell_step hBaA2 hb
      replace hZaA := Nat.lt_of_lt_of_le hZaA (Below.size hb)
      replace hBaB0 := cell_step hBaB0 hb
      replace hBaB1 := cell_step hBaB1 hb
      replace hBaB2 := cell_step hBaB2 hb
      replace hZaB := Nat.lt_of_lt_of_le hZaB (Below.size hb)
      replace hSaA := SlR.below hSaA hb
      replace hSaB := SlR.below hSaB hb
      replace hF := Fr.step hF hb
      replace hSw0 := SlR.below hSw0 hb
      replace hE := Fr.step hE hb
      replace hBw00 := cell_step hBw00 hb
      replace hBw01 := cell_step hBw01 hb
      replace hBw02 := cell_step hBw02 hb
      replace hZw0 := Nat.lt_of_lt_of_le hZw0 (Below.size hb)
      replace hOx0 := ownsRow_below hOx0 hb
      replace hSx0 := SlR.below hSx0 hb
      replace hBx00 := cell_step hBx00 hb
      replace hBx01 := cell_step hBx01 hb
      replace hBx02 := cell_step hBx02 hb
      replace hZx0 := Nat.lt_of_lt_of_le hZx0 (Below.size hb)
      have hVx1 := Below.size hb
      clear hb
      have hSx1 := SlR.own hOx1
      have hHx1 : ∀ k, Value.ownBlock (.slice ax1 aB.length cx1) = some k → k < (World.heap W7).size := fun k hk => (hOx1.lt k hk).2
      have hXx1 := Nat.le_refl (World.heap W7).size
      go_wp2_with fail
      have hb : Below (World.heap W7).size W7 (World.alloc W7 (.cells #[.int .i64 iaB, .int .i64 jaB, .slice ax1 aB.length cx1] 25)) := by go_grown
      replace hBaA0 := cell_step hBaA0 hb
      replace hBaA1 := cell_step hBaA1 hb
      replace hBaA2 := cell_step hBaA2 hb
      replace hZaA := Nat.lt_of_lt_of_le hZaA (Below.size hb)
      replace hBaB0 := cell_step hBaB0 hb
      replace hBaB1 := cell_step hBaB1 hb
      replace hBaB2 := cell_step hBaB2 hb
      replace hZaB := Nat.lt_of_lt_of_le hZaB (Below.size hb)
      replace hSaA := SlR.below hSaA hb
      replace hSaB := SlR.below hSaB hb
      replace hF := Fr.step hF hb
      replace hSw0 := SlR.below hSw0 hb
      replace hE := Fr.step hE hb
      replace hBw00 := cell_step hBw00 hb
      replace hBw01 := cell_step hBw01 hb
      replace hBw02 := cell_step hBw02 hb
      replace hZw0 := Nat.lt_of_lt_of_le hZw0 (Below.size hb)
      replace hOx0 := ownsRow_below hOx0 hb
      replace hSx0 := SlR.below hSx0 hb
      replace hBx00 := cell_step hBx00 hb
      replace hBx01 := cell_step hBx01 hb
      replace hBx02 := cell_step hBx02 hb
      replace hZx0 := Nat.lt_of_lt_of_le hZx0 (Below.size hb)
      replace hOx1 := ownsRow_below hOx1 hb
      replace hSx1 := SlR.below hSx1 hb
      have hBx10 : World.cell? (World.alloc W7 (.cells #[.int .i64 iaB, .int .i64 jaB, .slice ax1 aB.length cx1] 25)) ⟨(World.heap W7).size, 0, none⟩ = some (.int .i64 iaB) := by simp
      have hBx11 : World.cell? (World.alloc W7 (.cells #[.int .i64 iaB, .int .i64 jaB, .slice ax1 aB.length cx1] 25)) ⟨(World.heap W7).size, 1, none⟩ = some (.int .i64 jaB) := by simp
      have hBx12 : World.cell? (World.alloc W7 (.cells #[.int .i64 iaB, .int .i64 jaB, .slice ax1 aB.length cx1] 25)) ⟨(World.heap W7).size, 2, none⟩ = some (.slice ax1 aB.length cx1) := by simp
      have hZx1 : (World.heap W7).size < (World.heap (World.alloc W7 (.cells #[.int .i64 iaB, .int .i64 jaB, .slice ax1 aB.length cx1] 25))).size := by simp
      clear hb
      generalize (World.alloc W7 (.cells #[.int .i64 iaB, .int .i64 jaB, .slice ax1 aB.length cx1] 25)) = W8 at *
      have hgE := Below.size hE
      have hYg0 := hZw0
      have hGx0 : ∀ k, Value.ownBlock (.slice ax0 aA.length cx0) = some k → k < (World.heap W8).size := fun k hk => (hOx0.lt k hk).2
      have hGx1 : ∀ k, Value.ownBlock (.slice ax1 aB.length cx1) = some k → k < (World.heap W8).size := fun k hk => (hOx1.lt k hk).2
      refine (impl_SideChannels _ iaA jaA hiaA hjaA _ aA hSx0 xaA (by omega) iaB jaB hiaB hjaB _ aB hSx1 xaB (by omega)).mono ?_
      rw [HO.out]
      try dsimp only
      rintro e W9 ⟨arg, crg, rfl, hOg0, hb⟩
      replace hBaA0 := cell_step hBaA0 hb
      replace hBaA1 := cell_step hBaA1 hb
      replace hBaA2 := cell_step hBaA2 hb
      replace hZaA := Nat.lt_of_lt_of_le hZaA (Below.size hb)
      replace hBaB0 := cell_step hBaB0 hb
      replace hBaB1 := cell_step hBaB1 hb
      replace hBaB2 := cell_step hBaB2 hb
      replace hZaB := Nat.lt_of_lt_of_le hZaB (Below.size hb)
      replace hSaA := SlR.below hSaA hb
      replace hSaB := SlR.below hSaB hb
      replace hF := Fr.step hF hb
      replace hSw0 := SlR.below hSw0 hb
      replace hE := Fr.step hE hb
      replace hBw00 := cell_step hBw00 hb
      replace hBw01 := cell_step hBw01 hb
      replace hBw02 := cell_step hBw02 hb
      replace hZw0 := Nat.lt_of_lt_of_le hZw0 (Below.size hb)
      replace hOx0 := ownsRow_below hOx0 hb
      replace hSx0 := SlR.below hSx0 hb
      replace hBx00 := cell_step hBx00 hb
      replace hBx01 := cell_step hBx01 hb
      replace hBx02 := cell_step hBx02 hb
      replace hZx0 := Nat.lt_of_lt_of_le hZx0 (Below.size hb)
      replace hOx1 := ownsRow_below hOx1 hb
      replace hSx1 := SlR.below hSx1 hb
      replace hBx10 := cell_step hBx10 hb
      replace hBx11 := cell_step hBx11 hb
      replace hBx12 := cell_step hBx12 hb
      replace hZx1 := Nat.lt_of_lt_of_le hZx1 (Below.size hb)
      have hgsz := Below.size hb
      clear hb
      have hSg0 := SlR.own hOg0
      have hHg0 : ∀ k, Value.ownBlock (.slice arg o0.length crg) = some k → k < (World.heap W9).size := fun k hk => (hOg0.lt k hk).2
      go_wp2_with fail
      have hb : Below (World.heap W9).size W9 (World.alloc W9 (.cells #[.int .i64 oi0, .int .i64 oj0, .slice arg o0.length crg] 25)) := by go_grown
      replace hBaA0 := cell_step hBaA0 hb
      replace hBaA1 := cell_step hBaA1 hb
      replace hBaA2 := cell_step hBaA2 hb
      replace hZaA := Nat.lt_of_lt_of_le hZaA (Below.size hb)
      replace hBaB0 := cell_step hBaB0 hb
      replace hBaB1 := cell_step hBaB1 hb
      replace hBaB2 := cell_step hBaB2 hb
      replace hZaB := Nat.lt_of_lt_of_le hZaB (Below.size hb)
      replace hSaA := SlR.below hSaA hb
      replace hSaB := SlR.below hSaB hb
      replace hF := Fr.step hF hb
      replace hSw0 := SlR.below hSw0 hb
      replace hE := Fr.step hE hb
      replace hBw00 := cell_step hBw00 hb
      replace hBw01 := cell_step hBw01 hb
      replace hBw02 := cell_step hBw02 hb
      replace hZw0 := Nat.lt_of_lt_of_le hZw0 (Below.size hb)
      replace hOx0 := ownsRow_below hOx0 hb
      replace hSx0 := SlR.below hSx0 hb
      replace hBx00 := cell_step hBx00 hb
      replace hBx01 := cell_step hBx01 hb
      replace hBx02 := cell_step hBx02 hb
      replace hZx0 := Nat.lt_of_lt_of_le hZx0 (Below.size hb)
      replace hOx1 := ownsRow_below hOx1 hb
      replace hSx1 := SlR.below hSx1 hb
      replace hBx10 := cell_step hBx10 hb
      replace hBx11 := cell_step hBx11 hb
      replace hBx12 := cell_step hBx12 hb
      replace hZx1 := Nat.lt_of_lt_of_le hZx1 (Below.size hb)
      replace hOg0 := ownsRow_below hOg0 hb
      replace hSg0 := SlR.below hSg0 hb
      have hBg00 : World.cell? (World.alloc W9 (.cells #[.int .i64 oi0, .int .i64 oj0, .slice arg o0.length crg] 25)) ⟨(World.heap W9).size, 0, none⟩ = some (.int .i64 oi0) := by simp
      have hBg01 : World.cell? (World.alloc W9 (.cells #[.int .i64 oi0, .int .i64 oj0, .slice arg o0.length crg] 25)) ⟨(World.heap W9).size, 1, none⟩ = some (.int .i64 oj0) := by simp
      have hBg02 : World.cell? (World.alloc W9 (.cells #[.int .i64 oi0, .int .i64 oj0, .slice arg o0.length crg] 25)) ⟨(World.heap W9).size, 2, none⟩ = some (.slice arg o0.length crg) := by simp
      have hZg0 : (World.heap W9).size < (World.heap (World.alloc W9 (.cells #[.int .i64 oi0, .int .i64 oj0, .slice arg o0.length crg] 25))).size := by simp
      clear hb
      generalize (World.alloc W9 (.cells #[.int .i64 oi0, .int .i64 oj0, .slice arg o0.length crg] 25)) = W10 at *
      refine (eqChannel_same oi0 oj0 _ _ o0 _ hSg0 hSw0).mono ?_
      rintro e W11 ⟨rfl, hb⟩
      replace hBaA0 := cell_step hBaA0 hb
      replace hBaA1 := cell_step hBaA1 hb
      replace hBaA2 := cell_step hBaA2 hb
      replace hZaA := Nat.lt_of_lt_of_le hZaA (Below.size hb)
      replace hBaB0 := cell_step hBaB0 hb
      replace hBaB1 := cell_step hBaB1 hb
      replace hBaB2 := cell_step hBaB2 hb
      replace hZaB := Nat.lt_of_lt_of_le hZaB (Below.size hb)
      replace hSaA := SlR.below hSaA hb
      replace hSaB := SlR.below hSaB hb
      replace hF := Fr.step hF hb
      replace hSw0 := SlR.below hSw0 hb
      replace hE := Fr.step hE hb
      replace hBw00 := cell_step hBw00 hb
      replace hBw01 := cell_step hBw01 hb
      replace hBw02 := cell_step hBw02 hb
      replace hZw0 := Nat.lt_of_lt_of_le hZw0 (Below.size hb)
      replace hOx0 := ownsRow_below hOx0 hb
      replace hSx0 := SlR.below hSx0 hb
      replace hBx00 := cell_step hBx00 hb
      replace hBx01 := cell_step hBx01 hb
      replace hBx02 := cell_step hBx02 hb
      replace hZx0 := Nat.lt_of_lt_of_le hZx0 (Below.size hb)
      replace hOx1 := ownsRow_below hOx1 hb
      replace hSx1 := SlR.below hSx1 hb
      replace hBx10 := cell_step hBx10 hb
      replace hBx11 := cell_step hBx11 hb
      replace hBx12 := cell_step hBx12 hb
      replace hZx1 := Nat.lt_of_lt_of_le hZx1 (Below.size hb)
      replace hOg0 := ownsRow_below hOg0 hb
      replace hSg0 := SlR.below hSg0 hb
      replace hBg00 := cell_step hBg00 hb
      replace hBg01 := cell_step hBg01 hb
      replace hBg02 := cell_step hBg02 hb
      replace hZg0 := Nat.lt_of_lt_of_le hZg0 (Below.size hb)
      clear hb
      go_wp2_with fail
      go_region_held3 (fun W => World.cell? W ⟨w.heap.size, 0, none⟩ = some (.int .i64 iaA) ∧ World.cell? W ⟨w.heap.size, 1, none⟩ = some (.int .i64 jaA) ∧ World.cell? W ⟨w.heap.size, 2, none⟩ = some (.slice aaA aA.length caA) ∧ World.cell? W ⟨(World.heap W5).size, 0, none⟩ = some (.int .i64 iaA) ∧ World.cell? W ⟨(World.heap W5).size, 1, none⟩ = some (.int .i64 jaA) ∧ World.cell? W ⟨(World.heap W5).size, 2, none⟩ = some (.slice ax0 aA.length cx0) ∧ Fr W11 W) (first | exact keep6 (by assumption) (by assumption) | exact ⟨hBaA0, hBaA1, hBaA2, hBx00, hBx01, hBx02, (Fr.refl _).drew⟩)
        (first | (go_at_call 22; (with_reducible refine (toChannel_any iaA jaA (.slice aaA aA.length caA) aA _ (hSaA.fr (‹_ ∧ _ ∧ _ ∧ _ ∧ _ ∧ _ ∧ Fr W11 _›).2.2.2.2.2.2) (by omega)).mono ?_); rintro e V1 ⟨b1, d1, rfl, hown1, hb1⟩) | (go_at_call 13; (with_reducible refine (eqChannel_same iaA jaA _ _ aA _ (hSx0.fr (‹_ ∧ _ ∧ _ ∧ _ ∧ _ ∧ _ ∧ Fr W11 _›).2.2.2.2.2.2) (SlR.own hown1)).mono ?_); rintro e V2 ⟨rfl, hb2⟩))
      rename_i hHold
      obtain ⟨hBaA0_, hBaA1_, hBaA2_, hBx00_, hBx01_, hBx02_, hb⟩ := hHold
      replace hBaA0 := hBaA0_; clear hBaA0_
      replace hBaA1 := hBaA1_; clear hBaA1_
      replace hBaA2 := hBaA2_; clear hBaA2_
      replace hBx00 := hBx00_; clear hBx00_
      replace hBx01 := hBx01_; clear hBx01_
      replace hBx02 := hBx02_; clear hBx02_
      replace hZaA := Nat.lt_of_lt_of_le hZaA (Below.size hb)
      replace hBaB0 := cell_step hBaB0 hb
      replace hBaB1 := cell_step hBaB1 hb
      replace hBaB2 := cell_step hBaB2 hb
      replace hZaB := Nat.lt_of_lt_of_le hZaB (Below.size hb)
      replace hSaA := SlR.below hSaA hb
      replace hSaB := SlR.below hSaB hb
      replace hF := Fr.step hF hb
      replace hSw0 := SlR.below hSw0 hb
      replace hE := Fr.step hE hb
      replace hBw00 := cell_step hBw00 hb
      replace hBw01 := cell_step hBw01 hb
      replace hBw02 := cell_step hBw02 hb
      replace hZw0 := Nat.lt_of_lt_of_le hZw0 (Below.size hb)
      replace hOx0 := ownsRow_below hOx0 hb
      replace hSx0 := SlR.below hSx0 hb
      replace hZx0 := Nat.lt_of_lt_of_le hZx0 (Below.size hb)
      replace hOx1 := ownsRow_below hOx1 hb
      replace hSx1 := SlR.below hSx1 hb
      replace hBx10 := cell_step hBx10 hb
      replace hBx11 := cell_step hBx11 hb
      replace hBx12 := cell_step hBx12 hb
      replace hZx1 := Nat.lt_of_lt_of_le hZx1 (Below.size hb)
      replace hOg0 := ownsRow_below hOg0 hb
      replace hSg0 := SlR.below hSg0 hb
      replace hBg00 := cell_step hBg00 hb
      replace hBg01 := cell_step hBg01 hb
      replace hBg02 := cell_step hBg02 hb
      replace hZg0 := Nat.lt_of_lt_of_le hZg0 (Below.size hb)
      clear hb
      clear hown1 hb1 hb2
      go_wp2_with fail
      go_region_held3 (fun W => World.cell? W ⟨w.heap.size + 1, 0, none⟩ = some (.int .i64 iaB) ∧ World.cell? W ⟨w.heap.size + 1, 1, none⟩ = some (.int .i64 jaB) ∧ World.cell? W ⟨w.heap.size + 1, 2, none⟩ = some (.slice aaB aB.length caB) ∧ World.cell? W ⟨(World.heap W7).size, 0, none⟩ = some (.int .i64 iaB) ∧ World.cell? W ⟨(World.heap W7).size, 1, none⟩ = some (.int .i64 jaB) ∧ World.cell? W ⟨(World.heap W7).size, 2, none⟩ = some (.slice ax1 aB.length cx1) ∧ Fr V2 W) (first | exact keep6 (by assumption) (by assumption) | exact ⟨hBaB0, hBaB1, hBaB2, hBx10, hBx11, hBx12, (Fr.refl _).drew⟩)
        (first | (go_at_call 22; (with_reducible refine (toChannel_any iaB jaB (.slice aaB aB.length caB) aB _ (hSaB.fr (‹_ ∧ _ ∧ _ ∧ _ ∧ _ ∧ _ ∧ Fr V2 _›).2.2.2.2.2.2) (by omega)).mono ?_); rintro e V1 ⟨b1, d1, rfl, hown1, hb1⟩) | (go_at_call 13; (with_reducible refine (eqChannel_same iaB jaB _ _ aB _ (hSx1.fr (‹_ ∧ _ ∧ _ ∧ _ ∧ _ ∧ _ ∧ Fr V2 _›).2.2.2.2.2.2) (SlR.own hown1)).mono ?_); rintro e V2 ⟨rfl, hb2⟩))
      rename_i hHold
      obtain ⟨hBaB0_, hBaB1_, hBaB2_, hBx10_, hBx11_, hBx12_, hb⟩ := hHold
      replace hBaB0 := hBaB0_; clear hBaB0_
      replace hBaB1 := hBaB1_; clear hBaB1_
      replace hBaB2 := hBaB2_; clear hBaB2_
      replace hBx10 := hBx10_; clear hBx10_
      replace hBx11 := hBx11_; clear hBx11_
      replace hBx12 := hBx12_; clear hBx12_
      replace hBaA0 := cell_step hBaA0 hb
      replace hBaA1 := cell_step hBaA1 hb
      replace hBaA2 := cell_step hBaA2 hb
      replace hZaA := Nat.lt_of_lt_of_le hZaA (Below.size hb)
      replace hZaB := Nat.lt_of_lt_of_le hZaB (Below.size hb)
      replace hSaA := SlR.below hSaA hb
      replace hSaB := SlR.below hSaB hb
      replace hF := Fr.step hF hb
      replace hSw0 := SlR.below hSw0 hb
      replace hE := Fr.step hE hb
      replace hBw00 := cell_step hBw00 hb
      replace hBw01 := cell_step hBw01 hb
      replace hBw02 := cell_step hBw02 hb
      replace hZw0 := Nat.lt_of_lt_of_le hZw0 (Below.size hb)
      replace hOx0 := ownsRow_below hOx0 hb
      replace hSx0 := SlR.below hSx0 hb
      replace hBx00 := cell_step hBx00 hb
      replace hBx01 := cell_step hBx01 hb
      replace hBx02 := cell_step hBx02 hb
      replace hZx0 := Nat.lt_of_lt_of_le hZx0 (Below.size hb)
      replace hOx1 := ownsRow_below hOx1 hb
      replace hSx1 := SlR.below hSx1 hb
      replace hZx1 := Nat.lt_of_lt_of_le hZx1 (Below.size hb)
      replace hOg0 := ownsRow_below hOg0 hb
      replace hSg0 := SlR.below hSg0 hb
      replace hBg00 := cell_step hBg00 hb
      replace hBg01 := cell_step hBg01 hb
      replace hBg02 := cell_step hBg02 hb
      replace hZg0 := Nat.lt_of_lt_of_le hZg0 (Below.size hb)
      clear hb
      clear hown1 hb1 hb2
      go_wp2_with fail
      refine (markChannel_any iaA jaA _ aA.length _ _ 1 _ _ (by omega) (by omega) (by omega) hOx0).mono ?_
      rintro e W14 ⟨rfl, hOm, hg⟩
      replace hE := hE.grown hg hOx0 hLx0
      replace hF := hFE.step hE
      replace hBaA0 := cell_step hBaA0_E hE
      replace hBaA1 := cell_step hBaA1_E hE
      replace hBaA2 := cell_step hBaA2_E hE
      replace hBaB0 := cell_step hBaB0_E hE
      replace hBaB1 := cell_step hBaB1_E hE
      replace hBaB2 := cell_step hBaB2_E hE
      replace hSaA := SlR.fr hSaA_E hE
      replace hSaB := SlR.fr hSaB_E hE
      replace hSw0 := SlR.fr hSw0_E hE
      replace hBw00 := cell_grown hBw00 hg (fun k hk => Nat.ne_of_gt (Nat.lt_of_lt_of_le hYx0 (hOx0.lt k hk).1))
      replace hBw01 := cell_grown hBw01 hg (fun k hk => Nat.ne_of_gt (Nat.lt_of_lt_of_le hYx0 (hOx0.lt k hk).1))
      replace hBw02 := cell_grown hBw02 hg (fun k hk => Nat.ne_of_gt (Nat.lt_of_lt_of_le hYx0 (hOx0.lt k hk).1))
      clear hBx00
      clear hBx01
      clear hBx02
      replace hOx1 := own_apart hOx1 hg hKx0x1
      replace hSx1 := SlR.own hOx1
      replace hBx10 := cell_grown hBx10 hg (fun k hk => Nat.ne_of_lt (Nat.lt_of_lt_of_le (hKx0x1 k hk) hVx1))
      replace hBx11 := cell_grown hBx11 hg (fun k hk => Nat.ne_of_lt (Nat.lt_of_lt_of_le (hKx0x1 k hk) hVx1))
      replace hBx12 := cell_grown hBx12 hg (fun k hk => Nat.ne_of_lt (Nat.lt_of_lt_of_le (hKx0x1 k hk) hVx1))
      replace hOg0 := own_apart hOg0 hg hGx0
      replace hSg0 := SlR.own hOg0
      replace hBg00 := cell_grown hBg00 hg (fun k hk => Nat.ne_of_lt (Nat.lt_of_lt_of_le (hGx0 k hk) hgsz))
      replace hBg01 := cell_grown hBg01 hg (fun k hk => Nat.ne_of_lt (Nat.lt_of_lt_of_le (hGx0 k hk) hgsz))
      replace hBg02 := cell_grown hBg02 hg (fun k hk => Nat.ne_of_lt (Nat.lt_of_lt_of_le (hGx0 k hk) hgsz))
      clear hOx0
      clear hSx0
      replace hZaA := Nat.lt_of_lt_of_le hZaA hg.size
      replace hZaB := Nat.lt_of_lt_of_le hZaB hg.size
      replace hZw0 := Nat.lt_of_lt_of_le hZw0 hg.size
      replace hZx0 := Nat.lt_of_lt_of_le hZx0 hg.size
      replace hZx1 := Nat.lt_of_lt_of_le hZx1 hg.size
      replace hZg0 := Nat.lt_of_lt_of_le hZg0 hg.size
      clear hOm hg
      go_wp2_with fail
      refine (markChannel_big iaB jaB _ aB.length _ _ (1 + (aA.length : Int)) _ _ (by omega) (by omega) (by omega) hOx1).mono ?_
      rintro e W15 ⟨rfl, hOm, hg⟩
      replace hE := hE.grown hg hOx1 hLx1
      replace hF := hFE.step hE
      replace hBaA0 := cell_step hBaA0_E hE
      replace hBaA1 := cell_step hBaA1_E hE
      replace hBaA2 := cell_step hBaA2_E hE
      replace hBaB0 := cell_step hBaB0_E hE
      replace hBaB1 := cell_step hBaB1_E hE
      replace hBaB2 := cell_step hBaB2_E hE
      replace hSaA := SlR.fr hSaA_E hE
      replace hSaB := SlR.fr hSaB_E hE
      replace hSw0 := SlR.fr hSw0_E hE
      replace hBw00 := cell_grown hBw00 hg (fun k hk => Nat.ne_of_gt (Nat.lt_of_lt_of_le hYx1 (hOx1.lt k hk).1))
      replace hBw01 := cell_grown hBw01 hg (fun k hk => Nat.ne_of_gt (Nat.lt_of_lt_of_le hYx1 (hOx1.lt k hk).1))
      replace hBw02 := cell_grown hBw02 hg (fun k hk => Nat.ne_of_gt (Nat.lt_of_lt_of_le hYx1 (hOx1.lt k hk).1))
      clear hBx10
      clear hBx11
      clear hBx12
      replace hOg0 := own_apart hOg0 hg hGx1
      replace hSg0 := SlR.own hOg0
      replace hBg00 := cell_grown hBg00 hg (fun k hk => Nat.ne_of_lt (Nat.lt_of_lt_of_le (hGx1 k hk) hgsz))
      replace hBg01 := cell_grown hBg01 hg (fun k hk => Nat.ne_of_lt (Nat.lt_of_lt_of_le (hGx1 k hk) hgsz))
      replace hBg02 := cell_grown hBg02 hg (fun k hk => Nat.ne_of_lt (Nat.lt_of_lt_of_le (hGx1 k hk) hgsz))
      clear hOx1
      clear hSx1
      replace hZaA := Nat.lt_of_lt_of_le hZaA hg.size
      replace hZaB := Nat.lt_of_lt_of_le hZaB hg.size
      replace hZw0 := Nat.lt_of_lt_of_le hZw0 hg.size
      replace hZx0 := Nat.lt_of_lt_of_le hZx0 hg.size
      replace hZx1 := Nat.lt_of_lt_of_le hZx1 hg.size
      replace hZg0 := Nat.lt_of_lt_of_le hZg0 hg.size
      clear hOm hg
      go_wp2_with fail
      refine (eqChannel_same oi0 oj0 _ _ o0 _ hSg0 hSw0).mono ?_
      rintro e W16 ⟨rfl, hb⟩
      replace hBaA0 := cell_step hBaA0 hb
      replace hBaA1 := cell_step hBaA1 hb
      replace hBaA2 := cell_step hBaA2 hb
      replace hZaA := Nat.lt_of_lt_of_le hZaA (Below.size hb)
      replace hBaB0 := cell_step hBaB0 hb
      replace hBaB1 := cell_step hBaB1 hb
      replace hBaB2 := cell_step hBaB2 hb
      replace hZaB := Nat.lt_of_lt_of_le hZaB (Below.size hb)
      replace hSaA := SlR.below hSaA hb
      replace hSaB := SlR.below hSaB hb
      replace hF := Fr.step hF hb
      replace hSw0 := SlR.below hSw0 hb
      replace hE := Fr.step hE hb
      replace hBw00 := cell_step hBw00 hb
      replace hBw01 := cell_step hBw01 hb
      replace hBw02 := cell_step hBw02 hb
      replace hZw0 := Nat.lt_of_lt_of_le hZw0 (Below.size hb)
      replace hZx0 := Nat.lt_of_lt_of_le hZx0 (Below.size hb)
      replace hZx1 := Nat.lt_of_lt_of_le hZx1 (Below.size hb)
      replace hOg0 := ownsRow_below hOg0 hb
      replace hSg0 := SlR.below hSg0 hb
      replace hBg00 := cell_step hBg00 hb
      replace hBg01 := cell_step hBg01 hb
      replace hBg02 := cell_step hBg02 hb
      replace hZg0 := Nat.lt_of_lt_of_le hZg0 (Below.size hb)
      clear hb
      go_wp2_with fail
      refine (markChannel_any oi0 oj0 _ o0.length _ _ 1 _ _ (by omega) (by omega) (by omega) hOg0).mono ?_
      rintro e W17 ⟨rfl, hOm, hg⟩
      replace hE := hE.grown hg hOg0 hgE
      replace hF := hFE.step hE
      replace hBaA0 := cell_step hBaA0_E hE
      replace hBaA1 := cell_step hBaA1_E hE
      replace hBaA2 := cell_step hBaA2_E hE
      replace hBaB0 := cell_step hBaB0_E hE
      replace hBaB1 := cell_step hBaB1_E hE
      replace hBaB2 := cell_step hBaB2_E hE
      replace hSaA := SlR.fr hSaA_E hE
      replace hSaB := SlR.fr hSaB_E hE
      replace hSw0 := SlR.fr hSw0_E hE
      replace hBw00 := cell_grown hBw00 hg (fun k hk => Nat.ne_of_gt (Nat.lt_of_lt_of_le hYg0 (hOg0.lt k hk).1))
      replace hBw01 := cell_grown hBw01 hg (fun k hk => Nat.ne_of_gt (Nat.lt_of_lt_of_le hYg0 (hOg0.lt k hk).1))
      replace hBw02 := cell_grown hBw02 hg (fun k hk => Nat.ne_of_gt (Nat.lt_of_lt_of_le hYg0 (hOg0.lt k hk).1))
      replace hBg00 := cell_grown hBg00 hg (fun k hk => Nat.ne_of_lt (hHg0 k hk))
      replace hBg01 := cell_grown hBg01 hg (fun k hk => Nat.ne_of_lt (hHg0 k hk))
      replace hBg02 := cell_grown hBg02 hg (fun k hk => Nat.ne_of_lt (hHg0 k hk))
      clear hOg0
      clear hSg0
      have hM := SlR.own hOm
      replace hZaA := Nat.lt_of_lt_of_le hZaA hg.size
      replace hZaB := Nat.lt_of_lt_of_le hZaB hg.size
      replace hZw0 := Nat.lt_of_lt_of_le hZw0 hg.size
      replace hZx0 := Nat.lt_of_lt_of_le hZx0 hg.size
      replace hZx1 := Nat.lt_of_lt_of_le hZx1 hg.size
      replace hZg0 := Nat.lt_of_lt_of_le hZg0 hg.size
      clear hOm hg
      go_wp2_with fail
      refine (heldChannel_any oi0 oj0 _ o0.length 1 _ (by omega) (by omega) (by omega) hM).mono ?_
      rintro e W18 ⟨rfl, hb⟩
      replace hBaA0 := cell_step hBaA0 hb
      replace hBaA1 := cell_step hBaA1 hb
      replace hBaA2 := cell_step hBaA2 hb
      replace hZaA := Nat.lt_of_lt_of_le hZaA (Below.size hb)
      replace hBaB0 := cell_step hBaB0 hb
      replace hBaB1 := cell_step hBaB1 hb
      replace hBaB2 := cell_step hBaB2 hb
      replace hZaB := Nat.lt_of_lt_of_le hZaB (Below.size hb)
      replace hSaA := SlR.below hSaA hb
      replace hSaB := SlR.below hSaB hb
      replace hF := Fr.step hF hb
      replace hSw0 := SlR.below hSw0 hb
      replace hE := Fr.step hE hb
      replace hBw00 := cell_step hBw00 hb
      replace hBw01 := cell_step hBw01 hb
      replace hBw02 := cell_step hBw02 hb
      replace hZw0 := Nat.lt_of_lt_of_le hZw0 (Below.size hb)
      replace hZx0 := Nat.lt_of_lt_of_le hZx0 (Below.size hb)
      replace hZx1 := Nat.lt_of_lt_of_le hZx1 (Below.size hb)
      replace hBg00 := cell_step hBg00 hb
      replace hBg01 := cell_step hBg01 hb
      replace hBg02 := cell_step hBg02 hb
      replace hZg0 := Nat.lt_of_lt_of_le hZg0 (Below.size hb)
      replace hM := SlR.below hM hb
      clear hb
      go_wp2_with fail
      have hsz := Nat.le_refl (World.heap W18).size
      go_cut [15, 16] from 94 (fun s6 s7 wx => ∃ (kh : Nat) (arh : Option Addr) (crh : Nat), s6 = .pointer (some ⟨kh, 0, none⟩) ∧ s7 = .bool o1 ∧ FP W18 wx kh oi0 oj0 (.slice arh o0.length crh) o0)
      case first =>
        go_region_held3 (fun W => World.cell? W ⟨w.heap.size, 0, none⟩ = some (.int .i64 iaA) ∧ World.cell? W ⟨w.heap.size, 1, none⟩ = some (.int .i64 jaA) ∧ World.cell? W ⟨w.heap.size, 2, none⟩ = some (.slice aaA aA.length caA) ∧ World.cell? W ⟨w.heap.size + 1, 0, none⟩ = some (.int .i64 iaB) ∧ World.cell? W ⟨w.heap.size + 1, 1, none⟩ = some (.int .i64 jaB) ∧ World.cell? W ⟨w.heap.size + 1, 2, none⟩ = some (.slice aaB aB.length caB) ∧ Fr W18 W) (first | exact keep6 (by assumption) (by assumption) | exact ⟨hBaA0, hBaA1, hBaA2, hBaB0, hBaB1, hBaB2, (Fr.refl _).drew⟩ | (refine keepF6 hBaA0 hBaA1 hBaA2 hBaB0 hBaB1 hBaB2 ?_; first | exact Below.alloc hFl (Below.size hFl) _ | exact Below.alloc hF2 (Below.size hF2) _ | exact Below.alloc hF1 (Below.size hF1) _ | exact Below.drew (Below.alloc (Below.refl _ _) (Nat.le_refl _) _) | (refine Below.setCell (Below.setCell (Below.setCell hFl ?_ _) ?_ _) ?_ _ <;> first | exact Nat.le_refl _ | exact Below.size hF1 | exact Below.size hF2)))
          (first | (go_at_call 22; (with_reducible refine (toChannel_any iaA jaA (.slice aaA aA.length caA) aA _ (hSaA.fr (‹_ ∧ _ ∧ _ ∧ _ ∧ _ ∧ _ ∧ Fr W18 _›).2.2.2.2.2.2) (by omega)).mono ?_); rintro e V1 ⟨b1, d1, rfl, hown1, hb1⟩; have hF1 := Fr.step (‹_ ∧ _ ∧ _ ∧ _ ∧ _ ∧ _ ∧ Fr W18 _›).2.2.2.2.2.2 hb1; (first | have hz1 := ZP.newd hb1 | have hz1 := ZP.new hb1 | skip)) | (go_at_call 22; (with_reducible refine (toChannel_any iaB jaB (.slice aaB aB.length caB) aB _ (hSaB.fr (‹_ ∧ _ ∧ _ ∧ _ ∧ _ ∧ _ ∧ Fr W18 _›).2.2.2.2.2.2) (by omega)).mono ?_); rintro e V2 ⟨b2, d2, rfl, hown2, hb2⟩; (first | have hs1 := (SlR.own hown1).below hb2 | have hs1 := ((SlR.own hown1).below ((Below.refl _ _).alloc (Nat.le_refl _) _)).below hb2); have hF2 := Fr.step (‹_ ∧ _ ∧ _ ∧ _ ∧ _ ∧ _ ∧ Fr W18 _›).2.2.2.2.2.2 hb2; (first | have hz2 := ZP.new hb2 | have hz2 := ZP.step hz1 hb2 | skip)) | (go_at_call 23; (with_reducible refine (impl_SideChannels _ iaA jaA hiaA hjaA _ aA hs1 xaA (by omega) iaB jaB hiaB hjaB _ aB (SlR.own hown2) xaB (by omega)).mono ?_); rw [HO.out]; (try dsimp only); rintro e Vl ⟨arh, crh, rfl, hSr, hbl⟩; have hFl := Fr.step (‹_ ∧ _ ∧ _ ∧ _ ∧ _ ∧ _ ∧ Fr W18 _›).2.2.2.2.2.2 hbl; (first | (have hz3 := ZP.new hbl; obtain ⟨⟨y0, y1, y2⟩, y3, y4, y5⟩ := ZP.cells hz3) | (have hz3 := ZP.step hz2 hbl; obtain ⟨⟨y0, y1, y2⟩, y3, y4, y5⟩ := ZP.cells hz3) | skip)) | (go_at_call 23; (with_reducible refine (impl_SideChannels _ iaA jaA hiaA hjaA _ aA (hs1.below ((Below.refl _ _).alloc (Nat.le_refl _) _)) xaA (by omega) iaB jaB hiaB hjaB _ aB ((SlR.own hown2).below ((Below.refl _ _).alloc (Nat.le_refl _) _)) xaB (by omega)).mono ?_); rw [HO.out]; (try dsimp only); rintro e Vl ⟨arh, crh, rfl, hSr, hbl⟩; have hFl := Fr.step (‹_ ∧ _ ∧ _ ∧ _ ∧ _ ∧ _ ∧ Fr W18 _›).2.2.2.2.2.2 hbl; (first | (have hz3 := ZP.new hbl; obtain ⟨⟨y0, y1, y2⟩, y3, y4, y5⟩ := ZP.cells hz3) | (have hz3 := ZP.step hz2 hbl; obtain ⟨⟨y0, y1, y2⟩, y3, y4, y5⟩ := ZP.cells hz3) | skip)))
        all_goals
          go_wp2_with fail
          go_meet
          refine ⟨_, arh, crh, rfl, rfl, ?_⟩
          first | exact FP.alloc hFl (SlR.own hSr) | exact FP.set hFl (Nat.le_refl _) hz3 (SlR.own hSr) | exact FP.set hFl (Below.size hF1) hz3 (SlR.own hSr) | exact FP.set hFl (Below.size hF2) hz3 (SlR.own hSr)
      case rest =>
      obtain ⟨kh, arh, crh, rfl, rfl, hkk, hZh0, ⟨hBh00, hBh01, hBh02⟩, hSh0, hb⟩ := hcut
      replace hBaA0 := cell_step hBaA0 hb
      replace hBaA1 := cell_step hBaA1 hb
      replace hBaA2 := cell_step hBaA2 hb
      replace hZaA := Nat.lt_of_lt_of_le hZaA (Below.size hb)
      replace hBaB0 := cell_step hBaB0 hb
      replace hBaB1 := cell_step hBaB1 hb
      replace hBaB2 := cell_step hBaB2 hb
      replace hZaB := Nat.lt_of_lt_of_le hZaB (Below.size hb)
      replace hSaA := SlR.below hSaA hb
      replace hSaB := SlR.below hSaB hb
      replace hF := Fr.step hF hb
      replace hSw0 := SlR.below hSw0 hb
      replace hE := Fr.step hE hb
      replace hBw00 := cell_step hBw00 hb
      replace hBw01 := cell_step hBw01 hb
      replace hBw02 := cell_step hBw02 hb
      replace hZw0 := Nat.lt_of_lt_of_le hZw0 (Below.size hb)
      replace hZx0 := Nat.lt_of_lt_of_le hZx0 (Below.size hb)
      replace hZx1 := Nat.lt_of_lt_of_le hZx1 (Below.size hb)
      replace hBg00 := cell_step hBg00 hb
      replace hBg01 := cell_step hBg01 hb
      replace hBg02 := cell_step hBg02 hb
      replace hZg0 := Nat.lt_of_lt_of_le hZg0 (Below.size hb)
      replace hM := SlR.below hM hb
      clear hb
      go_wp2_with fail
      refine (eqChannel_same oi0 oj0 _ _ o0 _ hSh0 hSw0).mono ?_
      rintro e W21 ⟨rfl, hb⟩
      replace hBaA0 := cell_step hBaA0 hb
      replace hBaA1 := cell_step hBaA1 hb
      replace hBaA2 := cell_step hBaA2 hb
      replace hZaA := Nat.lt_of_lt_of_le hZaA (Below.size hb)
      replace hBaB0 := cell_step hBaB0 hb
      replace hBaB1 := cell_step hBaB1 hb
      replace hBaB2 := cell_step hBaB2 hb
      replace hZaB := Nat.lt_of_lt_of_le hZaB (Below.size hb)
      replace hSaA := SlR.below hSaA hb
      replace hSaB := SlR.below hSaB hb
      replace hF := Fr.step hF hb
      replace hSw0 := SlR.below hSw0 hb
      replace hE := Fr.step hE hb
      replace hBw00 := cell_step hBw00 hb
      replace hBw01 := cell_step hBw01 hb
      replace hBw02 := cell_step hBw02 hb
      replace hZw0 := Nat.lt_of_lt_of_le hZw0 (Below.size hb)
      replace hZx0 := Nat.lt_of_lt_of_le hZx0 (Below.size hb)
      replace hZx1 := Nat.lt_of_lt_of_le hZx1 (Below.size hb)
      replace hBg00 := cell_step hBg00 hb
      replace hBg01 := cell_step hBg01 hb
      replace hBg02 := cell_step hBg02 hb
      replace hZg0 := Nat.lt_of_lt_of_le hZg0 (Below.size hb)
      replace hM := SlR.below hM hb
      replace hSh0 := SlR.below hSh0 hb
      replace hBh00 := cell_step hBh00 hb
      replace hBh01 := cell_step hBh01 hb
      replace hBh02 := cell_step hBh02 hb
      replace hZh0 := Nat.lt_of_lt_of_le hZh0 (Below.size hb)
      clear hb
      go_wp2_with fail
      refine (heldChannel_any oi0 oj0 _ o0.length 1 _ (by omega) (by omega) (by omega) hM).mono ?_
      rintro e W22 ⟨rfl, hb⟩
      replace hBaA0 := cell_step hBaA0 hb
      replace hBaA1 := cell_step hBaA1 hb
      replace hBaA2 := cell_step hBaA2 hb
      replace hZaA := Nat.lt_of_lt_of_le hZaA (Below.size hb)
      replace hBaB0 := cell_step hBaB0 hb
      replace hBaB1 := cell_step hBaB1 hb
      replace hBaB2 := cell_step hBaB2 hb
      replace hZaB := Nat.lt_of_lt_of_le hZaB (Below.size hb)
      replace hSaA := SlR.below hSaA hb
      replace hSaB := SlR.below hSaB hb
      replace hF := Fr.step hF hb
      replace hSw0 := SlR.below hSw0 hb
      replace hE := Fr.step hE hb
      replace hBw00 := cell_step hBw00 hb
      replace hBw01 := cell_step hBw01 hb
      replace hBw02 := cell_step hBw02 hb
      replace hZw0 := Nat.lt_of_lt_of_le hZw0 (Below.size hb)
      replace hZx0 := Nat.lt_of_lt_of_le hZx0 (Below.size hb)
      replace hZx1 := Nat.lt_of_lt_of_le hZx1 (Below.size hb)
      replace hBg00 := cell_step hBg00 hb
      replace hBg01 := cell_step hBg01 hb
      replace hBg02 := cell_step hBg02 hb
      replace hZg0 := Nat.lt_of_lt_of_le hZg0 (Below.size hb)
      replace hM := SlR.below hM hb
      replace hSh0 := SlR.below hSh0 hb
      replace hBh00 := cell_step hBh00 hb
      replace hBh01 := cell_step hBh01 hb
      replace hBh02 := cell_step hBh02 hb
      replace hZh0 := Nat.lt_of_lt_of_le hZh0 (Below.size hb)
      clear hb
      go_wp2_with fail
      go_ret
      exact ⟨rfl, hF⟩
    · go_enter Try.func6, Try.ntmps6
      go_wp2_with fail
      have hF : Fr w (World.alloc (World.alloc w (.cells #[.int .i64 iaA, .int .i64 jaA, .slice aaA aA.length caA] 31)) (.cells #[.int .i64 iaB, .int .i64 jaB, .slice aaB aB.length caB] 31)) := by (show Below _ _ _); go_grown
      have hBaA0 : World.cell? (World.alloc (World.alloc w (.cells #[.int .i64 iaA, .int .i64 jaA, .slice aaA aA.length caA] 31)) (.cells #[.int .i64 iaB, .int .i64 jaB, .slice aaB aB.length caB] 31)) ⟨w.heap.size, 0, none⟩ = some (.int .i64 iaA) := by go_cell
      have hBaA1 : World.cell? (World.alloc (World.alloc w (.cells #[.int .i64 iaA, .int .i64 jaA, .slice aaA aA.length caA] 31)) (.cells #[.int .i64 iaB, .int .i64 jaB, .slice aaB aB.length caB] 31)) ⟨w.heap.size, 1, none⟩ = some (.int .i64 jaA) := by go_cell
      have hBaA2 : World.cell? (World.alloc (World.alloc w (.cells #[.int .i64 iaA, .int .i64 jaA, .slice aaA aA.length caA] 31)) (.cells #[.int .i64 iaB, .int .i64 jaB, .slice aaB aB.length caB] 31)) ⟨w.heap.size, 2, none⟩ = some (.slice aaA aA.length caA) := by go_cell
      have hZaA : w.heap.size < (World.heap (World.alloc (World.alloc w (.cells #[.int .i64 iaA, .int .i64 jaA, .slice aaA aA.length caA] 31)) (.cells #[.int .i64 iaB, .int .i64 jaB, .slice aaB aB.length caB] 31))).size := by simp only [World.size_alloc]; omega
      have hBaB0 : World.cell? (World.alloc (World.alloc w (.cells #[.int .i64 iaA, .int .i64 jaA, .slice aaA aA.length caA] 31)) (.cells #[.int .i64 iaB, .int .i64 jaB, .slice aaB aB.length caB] 31)) ⟨w.heap.size + 1, 0, none⟩ = some (.int .i64 iaB) := by go_cell
      have hBaB1 : World.cell? (World.alloc (World.alloc w (.cells #[.int .i64 iaA, .int .i64 jaA, .slice aaA aA.length caA] 31)) (.cells #[.int .i64 iaB, .int .i64 jaB, .slice aaB aB.length caB] 31)) ⟨w.heap.size + 1, 1, none⟩ = some (.int .i64 jaB) := by go_cell
      have hBaB2 : World.cell? (World.alloc (World.alloc w (.cells #[.int .i64 iaA, .int .i64 jaA, .slice aaA aA.length caA] 31)) (.cells #[.int .i64 iaB, .int .i64 jaB, .slice aaB aB.length caB] 31)) ⟨w.heap.size + 1, 2, none⟩ = some (.slice aaB aB.length caB) := by go_cell
      have hZaB : w.heap.size + 1 < (World.heap (World.alloc (World.alloc w (.cells #[.int .i64 iaA, .int .i64 jaA, .slice aaA aA.length caA] 31)) (.cells #[.int .i64 iaB, .int .i64 jaB, .slice aaB aB.length caB] 31))).size := by simp only [World.size_alloc]; omega
      have hSaA := saA.fr hF
      have hSaB := saB.fr hF
      generalize (World.alloc (World.alloc w (.cells #[.int .i64 iaA, .int .i64 jaA, .slice aaA aA.length caA] 31)) (.cells #[.int .i64 iaB, .int .i64 jaB, .slice aaB aB.length caB] 31)) = W0 at *
      refine (szChannel_le iaA jaA _ aA.length _ _ _ (by omega) (by omega) (by omega) (by omega)).mono ?_
      rintro e W1 ⟨rfl, hb⟩
      replace hBaA0 := cell_step hBaA0 hb
      replace hBaA1 := cell_step hBaA1 hb
      replace hBaA2 := cell_step hBaA2 hb
      replace hZaA := Nat.lt_of_lt_of_le hZaA (Below.size hb)
      replace hBaB0 := cell_step hBaB0 hb
      replace hBaB1 := cell_step hBaB1 hb
      replace hBaB2 := cell_step hBaB2 hb
      replace hZaB := Nat.lt_of_lt_of_le hZaB (Below.size hb)
      replace hSaA := SlR.below hSaA hb
      replace hSaB := SlR.below hSaB hb
      replace hF := Fr.step hF hb
      clear hb
      go_wp2_with fail
      refine (szChannel_gt iaB jaB _ aB.length _ _ _ (by omega) (by omega) (by omega) (by omega)).mono ?_
      rintro e W2 ⟨rfl, hb⟩
      replace hBaA0 := cell_step hBaA0 hb
      replace hBaA1 := cell_step hBaA1 hb
      replace hBaA2 := cell_step hBaA2 hb
      replace hZaA := Nat.lt_of_lt_of_le hZaA (Below.size hb)
      replace hBaB0 := cell_step hBaB0 hb
      replace hBaB1 := cell_step hBaB1 hb
      replace hBaB2 := cell_step hBaB2 hb
      replace hZaB := Nat.lt_of_lt_of_le hZaB (Below.size hb)
      replace hSaA := SlR.below hSaA hb
      replace hSaB := SlR.below hSaB hb
      replace hF := Fr.step hF hb
      clear hb
      go_wp2_with fail
      go_ret
      exact ⟨rfl, hF⟩
  · go_enter Try.func6, Try.ntmps6
    go_wp2_with fail
    have hF : Fr w (World.alloc (World.alloc w (.cells #[.int .i64 iaA, .int .i64 jaA, .slice aaA aA.length caA] 31)) (.cells #[.int .i64 iaB, .int .i64 jaB, .slice aaB aB.length caB] 31)) := by (show Below _ _ _); go_grown
    have hBaA0 : World.cell? (World.alloc (World.alloc w (.cells #[.int .i64 iaA, .int .i64 jaA, .slice aaA aA.length caA] 31)) (.cells #[.int .i64 iaB, .int .i64 jaB, .slice aaB aB.length caB] 31)) ⟨w.heap.size, 0, none⟩ = some (.int .i64 iaA) := by go_cell
    have hBaA1 : World.cell? (World.alloc (World.alloc w (.cells #[.int .i64 iaA, .int .i64 jaA, .slice aaA aA.length caA] 31)) (.cells #[.int .i64 iaB, .int .i64 jaB, .slice aaB aB.length caB] 31)) ⟨w.heap.size, 1, none⟩ = some (.int .i64 jaA) := by go_cell
    have hBaA2 : World.cell? (World.alloc (World.alloc w (.cells #[.int .i64 iaA, .int .i64 jaA, .slice aaA aA.length caA] 31)) (.cells #[.int .i64 iaB, .int .i64 jaB, .slice aaB aB.length caB] 31)) ⟨w.heap.size, 2, none⟩ = some (.slice aaA aA.length caA) := by go_cell
    have hZaA : w.heap.size < (World.heap (World.alloc (World.alloc w (.cells #[.int .i64 iaA, .int .i64 jaA, .slice aaA aA.length caA] 31)) (.cells #[.int .i64 iaB, .int .i64 jaB, .slice aaB aB.length caB] 31))).size := by simp only [World.size_alloc]; omega
    have hBaB0 : World.cell? (World.alloc (World.alloc w (.cells #[.int .i64 iaA, .int .i64 jaA, .slice aaA aA.length caA] 31)) (.cells #[.int .i64 iaB, .int .i64 jaB, .slice aaB aB.length caB] 31)) ⟨w.heap.size + 1, 0, none⟩ = some (.int .i64 iaB) := by go_cell
    have hBaB1 : World.cell? (World.alloc (World.alloc w (.cells #[.int .i64 iaA, .int .i64 jaA, .slice aaA aA.length caA] 31)) (.cells #[.int .i64 iaB, .int .i64 jaB, .slice aaB aB.length caB] 31)) ⟨w.heap.size + 1, 1, none⟩ = some (.int .i64 jaB) := by go_cell
    have hBaB2 : World.cell? (World.alloc (World.alloc w (.cells #[.int .i64 iaA, .int .i64 jaA, .slice aaA aA.length caA] 31)) (.cells #[.int .i64 iaB, .int .i64 jaB, .slice aaB aB.length caB] 31)) ⟨w.heap.size + 1, 2, none⟩ = some (.slice aaB aB.length caB) := by go_cell
    have hZaB : w.heap.size + 1 < (World.heap (World.alloc (World.alloc w (.cells #[.int .i64 iaA, .int .i64 jaA, .slice aaA aA.length caA] 31)) (.cells #[.int .i64 iaB, .int .i64 jaB, .slice aaB aB.length caB] 31))).size := by simp only [World.size_alloc]; omega
    have hSaA := saA.fr hF
    have hSaB := saB.fr hF
    generalize (World.alloc (World.alloc w (.cells #[.int .i64 iaA, .int .i64 jaA, .slice aaA aA.length caA] 31)) (.cells #[.int .i64 iaB, .int .i64 jaB, .slice aaB aB.length caB] 31)) = W0 at *
    refine (szChannel_gt iaA jaA _ aA.length _ _ _ (by omega) (by omega) (by omega) (by omega)).mono ?_
    rintro e W1 ⟨rfl, hb⟩
    replace hBaA0 := cell_step hBaA0 hb
    replace hBaA1 := cell_step hBaA1 hb
    replace hBaA2 := cell_step hBaA2 hb
    replace hZaA := Nat.lt_of_lt_of_le hZaA (Below.size hb)
    replace hBaB0 := cell_step hBaB0 hb
    replace hBaB1 := cell_step hBaB1 hb
    replace hBaB2 := cell_step hBaB2 hb
    replace hZaB := Nat.lt_of_lt_of_le hZaB (Below.size hb)
    replace hSaA := SlR.below hSaA hb
    replace hSaB := SlR.below hSaB hb
    replace hF := Fr.step hF hb
    clear hb
    go_wp2_with fail
    go_ret
    exact ⟨rfl, hF⟩

end Go.Proofs.Ytlahmdnlamifnaa
