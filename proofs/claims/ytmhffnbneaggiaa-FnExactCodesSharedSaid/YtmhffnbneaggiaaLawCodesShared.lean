/- The walk of the law FnExactCodesShared, out of the contracts of what it calls. -/
import Derived.Test.YtmhffnbneaggiaaCsh
import Derived.Deep.RegionHeld3
namespace Go.Proofs.Ytmhffnbneaggiaa
set_option linter.unusedSimpArgs false
set_option linter.unusedVariables false
open Go.RowKit

set_option maxHeartbeats 4000000 in
theorem law_CodesShared (w : World) (aaC : Option Addr) (caC : Nat) (aC : List Int) (maC : aC.length ≤ caC ∧ caC ≤ 9223372036854775807) (saC : SlR w (.slice aaC aC.length caC) (aC.map (Value.int .i64))) (xaC : ∀ x ∈ aC, I64 x) (aaWords : Option Addr) (caWords : Nat) (aWords : List (List Int)) (maWords : aWords.length ≤ caWords ∧ caWords ≤ 9223372036854775807) (saWords : MxR w (Value.int .i64) (.slice aaWords aWords.length caWords) aWords) (xaWords : ∀ x ∈ aWords, ∀ y ∈ x, I64 y) (aWorkers : Int) (haWorkers : I64 aWorkers) :
    Calls Try.prog 8 #[.agg #[.slice aaC aC.length caC], .slice aaWords aWords.length caWords, .int .i64 aWorkers] w fun e w' => e = .returned (.bool true) ∧ Below w.heap.size w w' := by
  by_cases z0 : aC.length ≤ 1048576
  · by_cases z1 : aC.length + (aWords.length + tot aWords) ≤ 1048576
    · go_enter Try.func8, Try.ntmps8
      go_wp2_with fail
      have hF : Fr w (World.alloc w (.cells #[.slice aaC aC.length caC] 39)) := by (show Below _ _ _); go_grown
      have hBaC0 : World.cell? (World.alloc w (.cells #[.slice aaC aC.length caC] 39)) ⟨w.heap.size, 0, none⟩ = some (.slice aaC aC.length caC) := by go_cell
      have hZaC : w.heap.size < (World.heap (World.alloc w (.cells #[.slice aaC aC.length caC] 39))).size := by simp only [World.size_alloc]; omega
      have hSaC := saC.fr hF
      have hSaWords := saWords.fr hF
      generalize (World.alloc w (.cells #[.slice aaC aC.length caC] 39)) = W0 at *
      refine (szCode_le _ aC.length _ _ _ (by omega) (by omega) (by omega) (by omega)).mono ?_
      rintro e W1 ⟨rfl, hb⟩
      replace hBaC0 := cell_step hBaC0 hb
      replace hZaC := Nat.lt_of_lt_of_le hZaC (Below.size hb)
      replace hSaC := SlR.below hSaC hb
      replace hSaWords := MxR.below hSaWords hb
      replace hF := Fr.step hF hb
      clear hb
      go_wp2_with fail
      refine (szInt64SS_le _ aWords _ _ hSaWords (by omega) (by omega) (by omega)).mono ?_
      rintro e _ ⟨rfl, rfl⟩
      go_wp2_with fail
      generalize hO : out_CodesShared aC aWords aWorkers = o
      obtain ⟨o0, o1⟩ := o
      have HO := Lib.hid hO
      have HOl : o0.length ≤ 1048576 := by have h := len_CodesShared aC xaC (by omega) aWords xaWords (by omega) aWorkers haWorkers; rw [hO] at h; exact h
      clear hO
      refine (toCode_any _ aC _ hSaC (by omega)).mono ?_
      rintro e W2 ⟨aT1, cT1, rfl, hOt1, hb⟩
      replace hBaC0 := cell_step hBaC0 hb
      replace hZaC := Nat.lt_of_lt_of_le hZaC (Below.size hb)
      replace hSaC := SlR.below hSaC hb
      replace hSaWords := MxR.below hSaWords hb
      replace hF := Fr.step hF hb
      clear hb
      replace hOt1 := SlR.own hOt1
      go_wp2_with fail
      refine (toInt64SS_any _ aWords _ hSaWords (by omega)).mono ?_
      rintro e W3 ⟨aT2, cT2, rfl, hOt2, hb⟩
      replace hBaC0 := cell_step hBaC0 hb
      replace hZaC := Nat.lt_of_lt_of_le hZaC (Below.size hb)
      replace hSaC := SlR.below hSaC hb
      replace hSaWords := MxR.below hSaWords hb
      replace hF := Fr.step hF hb
      replace hOt1 := SlR.below hOt1 hb
      clear hb
      replace hOt2 := OwnMx.rd hOt2
      go_wp2_with fail
      refine (spec_CodesShared _ _ aC hOt1 xaC (by omega) _ aWords hOt2 xaWords (by omega) aWorkers haWorkers).mono ?_
      rw [HO.out]
      try dsimp only
      rintro e W4 ⟨arw, crw, rfl, hSw0, hb⟩
      replace hBaC0 := cell_step hBaC0 hb
      replace hZaC := Nat.lt_of_lt_of_le hZaC (Below.size hb)
      replace hSaC := SlR.below hSaC hb
      replace hSaWords := MxR.below hSaWords hb
      replace hF := Fr.step hF hb
      replace hOt1 := SlR.below hOt1 hb
      replace hOt2 := MxR.below hOt2 hb
      clear hb
      clear hOt1
      clear hOt2
      have hE := Fr.refl W4
      have hFE := hF
      have hBaC0_E := hBaC0
      have hSaC_E := hSaC
      have hSaWords_E := hSaWords
      have hSw0_E := hSw0
      go_wp2_with fail
      have hLx0 := Below.size hE
      refine (toCode_any _ aC _ hSaC (by omega)).mono ?_
      rintro e W5 ⟨ax0, cx0, rfl, hOx0, hb⟩
      replace hBaC0 := cell_step hBaC0 hb
      replace hZaC := Nat.lt_of_lt_of_le hZaC (Below.size hb)
      replace hSaC := SlR.below hSaC hb
      replace hSaWords := MxR.below hSaWords hb
      replace hF := Fr.step hF hb
      replace hSw0 := SlR.below hSw0 hb
      replace hE := Fr.step hE hb
      clear hb
      have hSx0 := SlR.own hOx0
      have hHx0 : ∀ k, Value.ownBlock (.slice ax0 aC.length cx0) = some k → k < (World.heap W5).size := fun k hk => (hOx0.lt k hk).2
      have hXx0 := Nat.le_refl (World.heap W5).size
      go_wp2_with fail
      have hb : Below (World.heap W5).size W5 (World.alloc W5 (.cells #[.slice ax0 aC.length cx0] 24)) := by go_grown
      replace hBaC0 := cell_step hBaC0 hb
      replace hZaC := Nat.lt_of_lt_of_le hZaC (Below.size hb)
      replace hSaC := SlR.below hSaC hb
      replace hSaWords := MxR.below hSaWords hb
      replace hF := Fr.step hF hb
      replace hSw0 := SlR.below hSw0 hb
      replace hE := Fr.step hE hb
      replace hOx0 := ownsRow_below hOx0 hb
      replace hSx0 := SlR.below hSx0 hb
      have hBx00 : World.cell? (World.alloc W5 (.cells #[.slice ax0 aC.length cx0] 24)) ⟨(World.heap W5).size, 0, none⟩ = some (.slice ax0 aC.length cx0) := by simp
      have hZx0 : (World.heap W5).size < (World.heap (World.alloc W5 (.cells #[.slice ax0 aC.length cx0] 24))).size := by simp
      clear hb
      generalize (World.alloc W5 (.cells #[.slice ax0 aC.length cx0] 24)) = W6 at *
      have hKx0x1 : ∀ k, Value.ownBlock (.slice ax0 aC.length cx0) = some k → k < (World.heap W6).size := fun k hk => (hOx0.lt k hk).2
      have hLx1 := Below.size hE
      refine (toInt64SS_any _ aWords _ hSaWords (by omega)).mono ?_
      rintro e W7 ⟨ax1, cx1, rfl, hOx1, hb⟩
      replace hBaC0 := cell_step hBaC0 hb
      replace hZaC := Nat.lt_of_lt_of_le hZaC (Below.size hb)
      replace hSaC := SlR.below hSaC hb
      replace hSaWords := MxR.below hSaWords hb
      replace hF := Fr.step hF hb
      replace hSw0 := SlR.below hSw0 hb
      replace hE := Fr.step hE hb
      replace hOx0 := ownsRow_below hOx0 hb
      replace hSx0 := SlR.below hSx0 hb
      replace hBx00 := cell_step hBx00 hb
      replace hZx0 := Nat.lt_of_lt_of_le hZx0 (Below.size hb)
      have hQx1 := Below.size hb
      clear hb
      have hPx1 := Nat.le_refl (World.heap W7).size
      have hSx1 := OwnMx.rd hOx1
      go_wp2_with fail
      have hgE := Below.size hE
      have hGx0 : ∀ k, Value.ownBlock (.slice ax0 aC.length cx0) = some k → k < (World.heap W7).size := fun k hk => (hOx0.lt k hk).2
      have hGx1 := hPx1
      refine (impl_CodesShared _ _ aC hSx0 xaC (by omega) _ aWords hSx1 xaWords (by omega) aWorkers haWorkers).mono ?_
      rw [HO.out]
      try dsimp only
      rintro e W8 ⟨arg, crg, rfl, hOg0, hb⟩
      replace hBaC0 := cell_step hBaC0 hb
      replace hZaC := Nat.lt_of_lt_of_le hZaC (Below.size hb)
      replace hSaC := SlR.below hSaC hb
      replace hSaWords := MxR.below hSaWords hb
      replace hF := Fr.step hF hb
      replace hSw0 := SlR.below hSw0 hb
      replace hE := Fr.step hE hb
      replace hOx0 := ownsRow_below hOx0 hb
      replace hSx0 := SlR.below hSx0 hb
      replace hBx00 := cell_step hBx00 hb
      replace hZx0 := Nat.lt_of_lt_of_le hZx0 (Below.size hb)
      replace hQx1 := Nat.le_trans hQx1 (Below.size hb)
      replace hPx1 := Nat.le_trans hPx1 (Below.size hb)
      replace hOx1 := OwnMx.below hOx1 hb
      replace hSx1 := MxR.below hSx1 hb
      clear hb
      have hSg0 := SlR.own hOg0
      have hHg0 : ∀ k, Value.ownBlock (.slice arg o0.length crg) = some k → k < (World.heap W8).size := fun k hk => (hOg0.lt k hk).2
      go_wp2_with fail
      refine (eqStringS_same _ _ o0 _ hSg0 hSw0).mono ?_
      rintro e W9 ⟨rfl, hq⟩
      have hb := hq.below (World.heap W8).size
      replace hBaC0 := cell_step hBaC0 hb
      replace hZaC := Nat.lt_of_lt_of_le hZaC (Below.size hb)
      replace hSaC := SlR.below hSaC hb
      replace hSaWords := MxR.below hSaWords hb
      replace hF := Fr.step hF hb
      replace hSw0 := SlR.below hSw0 hb
      replace hE := Fr.step hE hb
      replace hOx0 := ownsRow_below hOx0 hb
      replace hSx0 := SlR.below hSx0 hb
      replace hBx00 := cell_step hBx00 hb
      replace hZx0 := Nat.lt_of_lt_of_le hZx0 (Below.size hb)
      replace hQx1 := Nat.le_trans hQx1 (Below.size hb)
      replace hPx1 := Nat.le_trans hPx1 (Below.size hb)
      replace hOx1 := OwnMx.below hOx1 hb
      replace hSx1 := MxR.below hSx1 hb
      replace hOg0 := ownsRow_below hOg0 hb
      replace hSg0 := SlR.below hSg0 hb
      clear hb hq
      go_wp2_with fail
      go_region_held3 (fun W => World.cell? W ⟨w.heap.size, 0, none⟩ = some (.slice aaC aC.length caC) ∧ World.cell? W ⟨(World.heap W5).size, 0, none⟩ = some (.slice ax0 aC.length cx0) ∧ Fr W9 W) (first | exact keep2 (by assumption) (by assumption) | exact ⟨hBaC0, hBx00, (Fr.refl _).drew⟩)
        (first | (go_at_call 24; (with_reducible refine (toCode_any (.slice aaC aC.length caC) aC _ (hSaC.fr (‹_ ∧ _ ∧ Fr W9 _›).2.2) (by omega)).mono ?_); rintro e V1 ⟨b1, d1, rfl, hown1, hb1⟩) | (go_at_call 13; (with_reducible refine (eqCode_same _ _ aC _ (hSx0.fr (‹_ ∧ _ ∧ Fr W9 _›).2.2) (SlR.own hown1)).mono ?_); rintro e V2 ⟨rfl, hb2⟩))
      rename_i hHold
      obtain ⟨hBaC0_, hBx00_, hb⟩ := hHold
      replace hBaC0 := hBaC0_; clear hBaC0_
      replace hBx00 := hBx00_; clear hBx00_
      replace hZaC := Nat.lt_of_lt_of_le hZaC (Below.size hb)
      replace hSaC := SlR.below hSaC hb
      replace hSaWords := MxR.below hSaWords hb
      replace hF := Fr.step hF hb
      replace hSw0 := SlR.below hSw0 hb
      replace hE := Fr.step hE hb
      replace hOx0 := ownsRow_below hOx0 hb
      replace hSx0 := SlR.below hSx0 hb
      replace hZx0 := Nat.lt_of_lt_of_le hZx0 (Below.size hb)
      replace hQx1 := Nat.le_trans hQx1 (Below.size hb)
      replace hPx1 := Nat.le_trans hPx1 (Below.size hb)
      replace hOx1 := OwnMx.below hOx1 hb
      replace hSx1 := MxR.below hSx1 hb
      replace hOg0 := ownsRow_below hOg0 hb
      replace hSg0 := SlR.below hSg0 hb
      clear hb
      clear hown1 hb1 hb2
      go_wp2_with fail
      refine (toInt64SS_any _ aWords _ hSaWords (by omega)).mono ?_
      rintro e W11 ⟨aT, cT, rfl, hOt, hb⟩
      replace hBaC0 := cell_step hBaC0 hb
      replace hZaC := Nat.lt_of_lt_of_le hZaC (Below.size hb)
      replace hSaC := SlR.below hSaC hb
      replace hSaWords := MxR.below hSaWords hb
      replace hF := Fr.step hF hb
      replace hSw0 := SlR.below hSw0 hb
      replace hE := Fr.step hE hb
      replace hOx0 := ownsRow_below hOx0 hb
      replace hSx0 := SlR.below hSx0 hb
      replace hBx00 := cell_step hBx00 hb
      replace hZx0 := Nat.lt_of_lt_of_le hZx0 (Below.size hb)
      replace hQx1 := Nat.le_trans hQx1 (Below.size hb)
      replace hPx1 := Nat.le_trans hPx1 (Below.size hb)
      replace hOx1 := OwnMx.below hOx1 hb
      replace hSx1 := MxR.below hSx1 hb
      replace hOg0 := ownsRow_below hOg0 hb
      replace hSg0 := SlR.below hSg0 hb
      clear hb
      replace hOt := OwnMx.rd hOt
      go_wp2_with fail
      refine (eqInt64SS_same _ _ aWords _ hSx1 hOt (fun W x y zs h1 h2 _ => eqInt64S_same x y zs W h1 h2)).mono ?_
      rintro e W12 ⟨rfl, hq⟩
      have hb := hq.below (World.heap W11).size
      replace hBaC0 := cell_step hBaC0 hb
      replace hZaC := Nat.lt_of_lt_of_le hZaC (Below.size hb)
      replace hSaC := SlR.below hSaC hb
      replace hSaWords := MxR.below hSaWords hb
      replace hF := Fr.step hF hb
      replace hSw0 := SlR.below hSw0 hb
      replace hE := Fr.step hE hb
      replace hOx0 := ownsRow_below hOx0 hb
      replace hSx0 := SlR.below hSx0 hb
      replace hBx00 := cell_step hBx00 hb
      replace hZx0 := Nat.lt_of_lt_of_le hZx0 (Below.size hb)
      replace hQx1 := Nat.le_trans hQx1 (Below.size hb)
      replace hPx1 := Nat.le_trans hPx1 (Below.size hb)
      replace hOx1 := OwnMx.below hOx1 hb
      replace hSx1 := MxR.below hSx1 hb
      replace hOg0 := ownsRow_below hOg0 hb
      replace hSg0 := SlR.below hSg0 hb
      clear hb hq
      clear hOt
      go_wp2_with fail
      refine (markCode_any _ aC.length _ _ 1 _ _ (by omega) (by omega) (by omega) hOx0).mono ?_
      rintro e W13 ⟨rfl, hOm, hg⟩
      replace hE := hE.grown hg hOx0 hLx0
      replace hF := hFE.step hE
      replace hBaC0 := cell_step hBaC0_E hE
      replace hSaC := SlR.fr hSaC_E hE
      replace hSaWords := MxR.fr hSaWords_E hE
      replace hSw0 := SlR.fr hSw0_E hE
      clear hBx00
      replace hOx1 := OwnMx.apart hOx1 hg hKx0x1
      replace hSx1 := OwnMx.rd hOx1
      replace hOg0 := own_apart hOg0 hg hGx0
      replace hSg0 := SlR.own hOg0
      clear hOx0
      clear hSx0
      replace hZaC := Nat.lt_of_lt_of_le hZaC hg.size
      replace hZx0 := Nat.lt_of_lt_of_le hZx0 hg.size
      replace hQx1 := Nat.le_trans hQx1 hg.size
      replace hPx1 := Nat.le_trans hPx1 hg.size
      clear hOm hg
      go_wp2_with fail
      refine (markInt64SS_any _ _ _ aWords (1 + (aC.length : Int)) _ hOx1 (by omega) (by omega) hQx1).mono ?_
      rintro e W14 ⟨rfl, hb, hfar⟩
      replace hE := Below.trans hE (hb.mono hLx1)
      replace hF := hFE.step hE
      replace hBaC0 := cell_step hBaC0_E hE
      replace hSaC := SlR.fr hSaC_E hE
      replace hSaWords := MxR.fr hSaWords_E hE
      replace hSw0 := SlR.fr hSw0_E hE
      replace hZaC := Nat.lt_of_lt_of_le hZaC (Below.size hb)
      replace hZx0 := Nat.lt_of_lt_of_le hZx0 (Below.size hb)
      replace hOg0 := own_far hOg0 hGx1 hfar
      replace hSg0 := SlR.own hOg0
      clear hOx1
      clear hSx1
      clear hPx1
      clear hQx1
      clear hb hfar
      go_wp2_with fail
      refine (eqStringS_same _ _ o0 _ hSg0 hSw0).mono ?_
      rintro e W15 ⟨rfl, hq⟩
      have hb := hq.below (World.heap W14).size
      replace hBaC0 := cell_step hBaC0 hb
      replace hZaC := Nat.lt_of_lt_of_le hZaC (Below.size hb)
      replace hSaC := SlR.below hSaC hb
      replace hSaWords := MxR.below hSaWords hb
      replace hF := Fr.step hF hb
      replace hSw0 := SlR.below hSw0 hb
      replace hE := Fr.step hE hb
      replace hZx0 := Nat.lt_of_lt_of_le hZx0 (Below.size hb)
      replace hOg0 := ownsRow_below hOg0 hb
      replace hSg0 := SlR.below hSg0 hb
      clear hb hq
      go_wp2_with fail
      refine (markStringS_any _ o0.length _ _ 1 _ _ (by omega) (by omega) (by omega) hOg0).mono ?_
      rintro e W16 ⟨rfl, hOm, hg⟩
      replace hE := hE.grown hg hOg0 hgE
      replace hF := hFE.step hE
      replace hBaC0 := cell_step hBaC0_E hE
      replace hSaC := SlR.fr hSaC_E hE
      replace hSaWords := MxR.fr hSaWords_E hE
      replace hSw0 := SlR.fr hSw0_E hE
      clear hOg0
      clear hSg0
      have hM := SlR.own hOm
      replace hZaC := Nat.lt_of_lt_of_le hZaC hg.size
      replace hZx0 := Nat.lt_of_lt_of_le hZx0 hg.size
      clear hOm hg
      go_wp2_with fail
      refine (heldStringS_any _ o0.length 1 _ (by omega) (by omega) (by omega) hM).mono ?_
      rintro e W17 ⟨rfl, hb⟩
      replace hBaC0 := cell_step hBaC0 hb
      replace hZaC := Nat.lt_of_lt_of_le hZaC (Below.size hb)
      replace hSaC := SlR.below hSaC hb
      replace hSaWords := MxR.below hSaWords hb
      replace hF := Fr.step hF hb
      replace hSw0 := SlR.below hSw0 hb
      replace hE := Fr.step hE hb
      replace hZx0 := Nat.lt_of_lt_of_le hZx0 (Below.size hb)
      replace hM := SlR.below hM hb
      clear hb
      go_wp2_with fail
      refine (toCode_any _ aC _ hSaC (by omega)).mono ?_
      rintro e W18 ⟨aT1, cT1, rfl, hOt1, hb⟩
      replace hBaC0 := cell_step hBaC0 hb
      replace hZaC := Nat.lt_of_lt_of_le hZaC (Below.size hb)
      replace hSaC := SlR.below hSaC hb
      replace hSaWords := MxR.below hSaWords hb
      replace hF := Fr.step hF hb
      replace hSw0 := SlR.below hSw0 hb
      replace hE := Fr.step hE hb
      replace hZx0 := Nat.lt_of_lt_of_le hZx0 (Below.size hb)
      replace hM := SlR.below hM hb
      clear hb
      replace hOt1 := SlR.own hOt1
      go_wp2_with fail
      refine (toInt64SS_any _ aWords _ hSaWords (by omega)).mono ?_
      rintro e W19 ⟨aT2, cT2, rfl, hOt2, hb⟩
      replace hBaC0 := cell_step hBaC0 hb
      replace hZaC := Nat.lt_of_lt_of_le hZaC (Below.size hb)
      replace hSaC := SlR.below hSaC hb
      replace hSaWords := MxR.below hSaWords hb
      replace hF := Fr.step hF hb
      replace hSw0 := SlR.below hSw0 hb
      replace hE := Fr.step hE hb
      replace hZx0 := Nat.lt_of_lt_of_le hZx0 (Below.size hb)
      replace hM := SlR.below hM hb
      replace hOt1 := SlR.below hOt1 hb
      clear hb
      replace hOt2 := OwnMx.rd hOt2
      go_wp2_with fail
      refine (impl_CodesShared _ _ aC hOt1 xaC (by omega) _ aWords hOt2 xaWords (by omega) aWorkers haWorkers).mono ?_
      rw [HO.out]
      try dsimp only
      rintro e W20 ⟨arh, crh, rfl, hOh0, hb⟩
      replace hBaC0 := cell_step hBaC0 hb
      replace hZaC := Nat.lt_of_lt_of_le hZaC (Below.size hb)
      replace hSaC := SlR.below hSaC hb
      replace hSaWords := MxR.below hSaWords hb
      replace hF := Fr.step hF hb
      replace hSw0 := SlR.below hSw0 hb
      replace hE := Fr.step hE hb
      replace hZx0 := Nat.lt_of_lt_of_le hZx0 (Below.size hb)
      replace hM := SlR.below hM hb
      replace hOt1 := SlR.below hOt1 hb
      replace hOt2 := MxR.below hOt2 hb
      clear hb
      clear hOt1
      clear hOt2
      have hSh0 := SlR.own hOh0
      go_wp2_with fail
      refine (eqStringS_same _ _ o0 _ hSh0 hSw0).mono ?_
      rintro e W21 ⟨rfl, hq⟩
      have hb := hq.below (World.heap W20).size
      replace hBaC0 := cell_step hBaC0 hb
      replace hZaC := Nat.lt_of_lt_of_le hZaC (Below.size hb)
      replace hSaC := SlR.below hSaC hb
      replace hSaWords := MxR.below hSaWords hb
      replace hF := Fr.step hF hb
      replace hSw0 := SlR.below hSw0 hb
      replace hE := Fr.step hE hb
      replace hZx0 := Nat.lt_of_lt_of_le hZx0 (Below.size hb)
      replace hM := SlR.below hM hb
      replace hOh0 := ownsRow_below hOh0 hb
      replace hSh0 := SlR.below hSh0 hb
      clear hb hq
      go_wp2_with fail
      refine (heldStringS_any _ o0.length 1 _ (by omega) (by omega) (by omega) hM).mono ?_
      rintro e W22 ⟨rfl, hb⟩
      replace hBaC0 := cell_step hBaC0 hb
      replace hZaC := Nat.lt_of_lt_of_le hZaC (Below.size hb)
      replace hSaC := SlR.below hSaC hb
      replace hSaWords := MxR.below hSaWords hb
      replace hF := Fr.step hF hb
      replace hSw0 := SlR.below hSw0 hb
      replace hE := Fr.step hE hb
      replace hZx0 := Nat.lt_of_lt_of_le hZx0 (Below.size hb)
      replace hM := SlR.below hM hb
      replace hOh0 := ownsRow_below hOh0 hb
      replace hSh0 := SlR.below hSh0 hb
      clear hb
      go_wp2_with fail
      go_ret
      exact ⟨rfl, hF⟩
    · go_enter Try.func8, Try.ntmps8
      go_wp2_with fail
      have hF : Fr w (World.alloc w (.cells #[.slice aaC aC.length caC] 39)) := by (show Below _ _ _); go_grown
      have hBaC0 : World.cell? (World.alloc w (.cells #[.slice aaC aC.length caC] 39)) ⟨w.heap.size, 0, none⟩ = some (.slice aaC aC.length caC) := by go_cell
      have hZaC : w.heap.size < (World.heap (World.alloc w (.cells #[.slice aaC aC.length caC] 39))).size := by simp only [World.size_alloc]; omega
      have hSaC := saC.fr hF
      have hSaWords := saWords.fr hF
      generalize (World.alloc w (.cells #[.slice aaC aC.length caC] 39)) = W0 at *
      refine (szCode_le _ aC.length _ _ _ (by omega) (by omega) (by omega) (by omega)).mono ?_
      rintro e W1 ⟨rfl, hb⟩
      replace hBaC0 := cell_step hBaC0 hb
      replace hZaC := Nat.lt_of_lt_of_le hZaC (Below.size hb)
      replace hSaC := SlR.below hSaC hb
      replace hSaWords := MxR.below hSaWords hb
      replace hF := Fr.step hF hb
      clear hb
      go_wp2_with fail
      refine (szInt64SS_gt _ aWords _ _ hSaWords (by omega) (by omega) (by omega)).mono ?_
      rintro e _ ⟨rfl, rfl⟩
      go_wp2_with fail
      go_ret
      exact ⟨rfl, hF⟩
  · go_enter Try.func8, Try.ntmps8
    go_wp2_with fail
    have hF : Fr w (World.alloc w (.cells #[.slice aaC aC.length caC] 39)) := by (show Below _ _ _); go_grown
    have hBaC0 : World.cell? (World.alloc w (.cells #[.slice aaC aC.length caC] 39)) ⟨w.heap.size, 0, none⟩ = some (.slice aaC aC.length caC) := by go_cell
    have hZaC : w.heap.size < (World.heap (World.alloc w (.cells #[.slice aaC aC.length caC] 39))).size := by simp only [World.size_alloc]; omega
    have hSaC := saC.fr hF
    have hSaWords := saWords.fr hF
    generalize (World.alloc w (.cells #[.slice aaC aC.length caC] 39)) = W0 at *
    refine (szCode_gt _ aC.length _ _ _ (by omega) (by omega) (by omega) (by omega)).mono ?_
    rintro e W1 ⟨rfl, hb⟩
    replace hBaC0 := cell_step hBaC0 hb
    replace hZaC := Nat.lt_of_lt_of_le hZaC (Below.size hb)
    replace hSaC := SlR.below hSaC hb
    replace hSaWords := MxR.below hSaWords hb
    replace hF := Fr.step hF hb
    clear hb
    go_wp2_with fail
    go_ret
    exact ⟨rfl, hF⟩

end Go.Proofs.Ytmhffnbneaggiaa
