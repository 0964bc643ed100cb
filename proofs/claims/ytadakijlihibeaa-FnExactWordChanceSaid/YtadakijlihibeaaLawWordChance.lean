/- The walk of the law FnExactWordChance, out of the contracts of what it calls. -/
import Derived.Test.YtadakijlihibeaaWcs
import Derived.Deep.RegionHeld3
import Derived.Test.YtadakijlihibeaaHrg
namespace Go.Proofs.Ytadakijlihibeaa
set_option linter.unusedSimpArgs false
set_option linter.unusedVariables false
open Go.RowKit

set_option maxHeartbeats 4000000 in
theorem law_WordChance (w : World) (iaC jaC : Int) (hiaC : I64 iaC) (hjaC : I64 jaC) (aaC : Option Addr) (caC : Nat) (aC : List Nat) (maC : aC.length ≤ caC ∧ caC ≤ 9223372036854775807) (saC : SlR w (.slice aaC aC.length caC) (aC.map (Value.float .f32))) (xaC : ∀ x ∈ aC, x < 4294967296) (aaRow : Option Addr) (caRow : Nat) (aRow : List Nat) (maRow : aRow.length ≤ caRow ∧ caRow ≤ 9223372036854775807) (saRow : SlR w (.slice aaRow aRow.length caRow) (aRow.map (Value.float .f32))) (xaRow : ∀ x ∈ aRow, x < 4294967296) (aaWord : Option Addr) (caWord : Nat) (aWord : List Int) (maWord : aWord.length ≤ caWord ∧ caWord ≤ 9223372036854775807) (saWord : SlR w (.slice aaWord aWord.length caWord) (aWord.map (Value.int .i64))) (xaWord : ∀ x ∈ aWord, I64 x) :
    Calls Try.prog 12 #[.agg #[.int .i64 iaC, .int .i64 jaC, .slice aaC aC.length caC], .slice aaRow aRow.length caRow, .slice aaWord aWord.length caWord] w fun e w' => e = .returned (.bool true) ∧ Below w.heap.size w w' := by
  by_cases z0 : aRow.length ≤ 1048576
  · by_cases z1 : aWord.length ≤ 1048576
    · by_cases z2 : aC.length ≤ 1048576
      · go_enter Try.func12, Try.ntmps12
        go_wp2_with fail
        have hF : Fr w (World.alloc w (.cells #[.int .i64 iaC, .int .i64 jaC, .slice aaC aC.length caC] 24)) := by (show Below _ _ _); go_grown
        have hBaC0 : World.cell? (World.alloc w (.cells #[.int .i64 iaC, .int .i64 jaC, .slice aaC aC.length caC] 24)) ⟨w.heap.size, 0, none⟩ = some (.int .i64 iaC) := by go_cell
        have hBaC1 : World.cell? (World.alloc w (.cells #[.int .i64 iaC, .int .i64 jaC, .slice aaC aC.length caC] 24)) ⟨w.heap.size, 1, none⟩ = some (.int .i64 jaC) := by go_cell
        have hBaC2 : World.cell? (World.alloc w (.cells #[.int .i64 iaC, .int .i64 jaC, .slice aaC aC.length caC] 24)) ⟨w.heap.size, 2, none⟩ = some (.slice aaC aC.length caC) := by go_cell
        have hZaC : w.heap.size < (World.heap (World.alloc w (.cells #[.int .i64 iaC, .int .i64 jaC, .slice aaC aC.length caC] 24))).size := by simp only [World.size_alloc]; omega
        have hSaC := saC.fr hF
        have hSaRow := saRow.fr hF
        have hSaWord := saWord.fr hF
        generalize (World.alloc w (.cells #[.int .i64 iaC, .int .i64 jaC, .slice aaC aC.length caC] 24)) = W0 at *
        refine (szChannel_le iaC jaC _ aC.length _ _ _ (by omega) (by omega) (by omega) (by omega)).mono ?_
        rintro e W1 ⟨rfl, hb⟩
        replace hBaC0 := cell_step hBaC0 hb
        replace hBaC1 := cell_step hBaC1 hb
        replace hBaC2 := cell_step hBaC2 hb
        replace hZaC := Nat.lt_of_lt_of_le hZaC (Below.size hb)
        replace hSaC := SlR.below hSaC hb
        replace hSaRow := SlR.below hSaRow hb
        replace hSaWord := SlR.below hSaWord hb
        replace hF := Fr.step hF hb
        clear hb
        go_wp2_with fail
        generalize hO : out_WordChance iaC jaC aC aRow aWord = o
        obtain ⟨o0, o1⟩ := o
        have HO := Lib.hid hO
        have HN0 : nanB o0 = false := by have h := nan0_WordChance iaC jaC hiaC hjaC aC xaC (by omega) aRow xaRow (by omega) aWord xaWord (by omega); rw [hO] at h; exact h
        clear hO
        obtain ⟨fr0, hfr0, -⟩ := conv_up_some HN0
        have HCV0 : Hid (∀ W : World, (convert 44 63 (.float .f32 o0)).run Try.prog W = .ok (.float .f64 fr0) W) := by show ∀ W : World, _; exact fun W => run_convert_float_float W _ _ .f32 .f64 o0 fr0 (by rw [Try.underlying44]; rfl) Try.underlying63 hfr0
        clear HN0 hfr0
        refine (toChannel_any iaC jaC _ aC _ hSaC (by omega)).mono ?_
        rintro e W2 ⟨aT1, cT1, rfl, hOt1, hb⟩
        replace hBaC0 := cell_step hBaC0 hb
        replace hBaC1 := cell_step hBaC1 hb
        replace hBaC2 := cell_step hBaC2 hb
        replace hZaC := Nat.lt_of_lt_of_le hZaC (Below.size hb)
        replace hSaC := SlR.below hSaC hb
        replace hSaRow := SlR.below hSaRow hb
        replace hSaWord := SlR.below hSaWord hb
        replace hF := Fr.step hF hb
        clear hb
        replace hOt1 := SlR.own hOt1
        go_wp2_with fail
        refine (toFloat32S_any _ aRow _ hSaRow (by omega)).mono ?_
        rintro e W3 ⟨aT2, cT2, rfl, hOt2, hb⟩
        replace hBaC0 := cell_step hBaC0 hb
        replace hBaC1 := cell_step hBaC1 hb
        replace hBaC2 := cell_step hBaC2 hb
        replace hZaC := Nat.lt_of_lt_of_le hZaC (Below.size hb)
        replace hSaC := SlR.below hSaC hb
        replace hSaRow := SlR.below hSaRow hb
        replace hSaWord := SlR.below hSaWord hb
        replace hF := Fr.step hF hb
        replace hOt1 := SlR.below hOt1 hb
        clear hb
        replace hOt2 := SlR.own hOt2
        go_wp2_with fail
        refine (toInt64S_any _ aWord _ hSaWord (by omega)).mono ?_
        rintro e W4 ⟨aT3, cT3, rfl, hOt3, hb⟩
        replace hBaC0 := cell_step hBaC0 hb
        replace hBaC1 := cell_step hBaC1 hb
        replace hBaC2 := cell_step hBaC2 hb
        replace hZaC := Nat.lt_of_lt_of_le hZaC (Below.size hb)
        replace hSaC := SlR.below hSaC hb
        replace hSaRow := SlR.below hSaRow hb
        replace hSaWord := SlR.below hSaWord hb
        replace hF := Fr.step hF hb
        replace hOt1 := SlR.below hOt1 hb
        replace hOt2 := SlR.below hOt2 hb
        clear hb
        replace hOt3 := SlR.own hOt3
        go_wp2_with fail
        refine (spec_WordChance _ iaC jaC hiaC hjaC _ aC hOt1 xaC (by omega) _ aRow hOt2 xaRow (by omega) _ aWord hOt3 xaWord (by omega)).mono ?_
        rw [HO.out]
        try dsimp only
        rintro e W5 ⟨rfl, hb⟩
        replace hBaC0 := cell_step hBaC0 hb
        replace hBaC1 := cell_step hBaC1 hb
        replace hBaC2 := cell_step hBaC2 hb
        replace hZaC := Nat.lt_of_lt_of_le hZaC (Below.size hb)
        replace hSaC := SlR.below hSaC hb
        replace hSaRow := SlR.below hSaRow hb
        replace hSaWord := SlR.below hSaWord hb
        replace hF := Fr.step hF hb
        replace hOt1 := SlR.below hOt1 hb
        replace hOt2 := SlR.below hOt2 hb
        replace hOt3 := SlR.below hOt3 hb
        clear hb
        clear hOt1
        clear hOt2
        clear hOt3
        have hE := Fr.refl W5
        have hFE := hF
        have hBaC0_E := hBaC0
        have hBaC1_E := hBaC1
        have hBaC2_E := hBaC2
        have hSaC_E := hSaC
        have hSaRow_E := hSaRow
        have hSaWord_E := hSaWord
        go_wp2_with fail
        have hLx0 := Below.size hE
        refine (toChannel_any iaC jaC _ aC _ hSaC (by omega)).mono ?_
        rintro e W6 ⟨ax0, cx0, rfl, hOx0, hb⟩
        replace hBaC0 := cell_step hBaC0 hb
        replace hBaC1 := cell_step hBaC1 hb
        replace hBaC2 := cell_step hBaC2 hb
        replace hZaC := Nat.lt_of_lt_of_le hZaC (Below.size hb)
        replace hSaC := SlR.below hSaC hb
        replace hSaRow := SlR.below hSaRow hb
        replace hSaWord := SlR.below hSaWord hb
        replace hF := Fr.step hF hb
        replace hE := Fr.step hE hb
        clear hb
        have hSx0 := SlR.own hOx0
        have hHx0 : ∀ k, Value.ownBlock (.slice ax0 aC.length cx0) = some k → k < (World.heap W6).size := fun k hk => (hOx0.lt k hk).2
        have hXx0 := Nat.le_refl (World.heap W6).size
        go_wp2_with fail
        have hb : Below (World.heap W6).size W6 (World.alloc W6 (.cells #[.int .i64 iaC, .int .i64 jaC, .slice ax0 aC.length cx0] 27)) := by go_grown
        replace hBaC0 := cell_step hBaC0 hb
        replace hBaC1 := cell_step hBaC1 hb
        replace hBaC2 := cell_step hBaC2 hb
        replace hZaC := Nat.lt_of_lt_of_le hZaC (Below.size hb)
        replace hSaC := SlR.below hSaC hb
        replace hSaRow := SlR.below hSaRow hb
        replace hSaWord := SlR.below hSaWord hb
        replace hF := Fr.step hF hb
        replace hE := Fr.step hE hb
        replace hOx0 := ownsRow_below hOx0 hb
        replace hSx0 := SlR.below hSx0 hb
        have hBx00 : World.cell? (World.alloc W6 (.cells #[.int .i64 iaC, .int .i64 jaC, .slice ax0 aC.length cx0] 27)) ⟨(World.heap W6).size, 0, none⟩ = some (.int .i64 iaC) := by simp
        have hBx01 : World.cell? (World.alloc W6 (.cells #[.int .i64 iaC, .int .i64 jaC, .slice ax0 aC.length cx0] 27)) ⟨(World.heap W6).size, 1, none⟩ = some (.int .i64 jaC) := by simp
        have hBx02 : World.cell? (World.alloc W6 (.cells #[.int .i64 iaC, .int .i64 jaC, .slice ax0 aC.length cx0] 27)) ⟨(World.heap W6).size, 2, none⟩ = some (.slice ax0 aC.length cx0) := by simp
        have hZx0 : (World.heap W6).size < (World.heap (World.alloc W6 (.cells #[.int .i64 iaC, .int .i64 jaC, .slice ax0 aC.length cx0] 27))).size := by simp
        clear hb
        generalize (World.alloc W6 (.cells #[.int .i64 iaC, .int .i64 jaC, .slice ax0 aC.length cx0] 27)) = W7 at *
        have hLx1 := Below.size hE
        refine (toFloat32S_any _ aRow _ hSaRow (by omega)).mono ?_
        rintro e W8 ⟨ax1, cx1, rfl, hOx1, hb⟩
        replace hBaC0 := cell_step hBaC0 hb
        replace hBaC1 := cell_step hBaC1 hb
        replace hBaC2 := cell_step hBaC2 hb
        replace hZaC := Nat.lt_of_lt_of_le hZaC (Below.size hb)
        replace hSaC := SlR.below hSaC hb
        replace hSaRow := SlR.below hSaRow hb
        replace hSaWord := SlR.below hSaWord hb
        replace hF := Fr.step hF hb
        replace hE := Fr.step hE hb
        replace hOx0 := ownsRow_below hOx0 hb
        replace hSx0 := SlR.below hSx0 hb
        replace hBx00 := cell_step hBx00 hb
        replace hBx01 := cell_step hBx01 hb
        replace hBx02 := cell_step hBx02 hb
        replace hZx0 := Nat.lt_of_lt_of_le hZx0 (Below.size hb)
        clear hb
        have hSx1 := SlR.own hOx1
        have hHx1 : ∀ k, Value.ownBlock (.slice ax1 aRow.length cx1) = some k → k < (World.heap W8).size := fun k hk => (hOx1.lt k hk).2
        go_wp2_with fail
        have hLx2 := Below.size hE
        refine (toInt64S_any _ aWord _ hSaWord (by omega)).mono ?_
        rintro e W9 ⟨ax2, cx2, rfl, hOx2, hb⟩
        replace hBaC0 := cell_step hBaC0 hb
        replace hBaC1 := cell_step hBaC1 hb
        replace hBaC2 := cell_step hBaC2 hb
        replace hZaC := Nat.lt_of_lt_of_le hZaC (Below.size hb)
        replace hSaC := SlR.below hSaC hb
        replace hSaRow := SlR.below hSaRow hb
        replace hSaWord := SlR.below hSaWord hb
        replace hF := Fr.step hF hb
        replace hE := Fr.step hE hb
        replace hOx0 := ownsRow_below hOx0 hb
        replace hSx0 := SlR.below hSx0 hb
        replace hBx00 := cell_step hBx00 hb
        replace hBx01 := cell_step hBx01 hb
        replace hBx02 := cell_step hBx02 hb
        replace hZx0 := Nat.lt_of_lt_of_le hZx0 (Below.size hb)
        replace hOx1 := ownsRow_below hOx1 hb
        replace hSx1 := SlR.below hSx1 hb
        clear hb
        have hSx2 := SlR.own hOx2
        have hHx2 : ∀ k, Value.ownBlock (.slice ax2 aWord.length cx2) = some k → k < (World.heap W9).size := fun k hk => (hOx2.lt k hk).2
        go_wp2_with fail
        refine (impl_WordChance _ iaC jaC hiaC hjaC _ aC hSx0 xaC (by omega) _ aRow hSx1 xaRow (by omega) _ aWord hSx2 xaWord (by omega)).mono ?_
        rw [HO.out]
        try dsimp only
        rintro e W10 ⟨rfl, hb⟩
        replace hBaC0 := cell_step hBaC0 hb
        replace hBaC1 := cell_step hBaC1 hb
        replace hBaC2 := cell_step hBaC2 hb
        replace hZaC := Nat.lt_of_lt_of_le hZaC (Below.size hb)
        replace hSaC := SlR.below hSaC hb
        replace hSaRow := SlR.below hSaRow hb
        replace hSaWord := SlR.below hSaWord hb
        replace hF := Fr.step hF hb
        replace hE := Fr.step hE hb
        replace hOx0 := ownsRow_below hOx0 hb
        replace hSx0 := SlR.below hSx0 hb
        replace hBx00 := cell_step hBx00 hb
        replace hBx01 := cell_step hBx01 hb
        replace hBx02 := cell_step hBx02 hb
        replace hZx0 := Nat.lt_of_lt_of_le hZx0 (Below.size hb)
        replace hOx1 := ownsRow_below hOx1 hb
        replace hSx1 := SlR.below hSx1 hb
        replace hOx2 := ownsRow_below hOx2 hb
        replace hSx2 := SlR.below hSx2 hb
        clear hb
        have hcv0 := HCV0.out
        go_wp2_with fail
        refine (sameFloat_self _ _).mono ?_
        rintro e W11 ⟨rfl, hq⟩
        have hb := hq.below (World.heap W10).size
        replace hBaC0 := cell_step hBaC0 hb
        replace hBaC1 := cell_step hBaC1 hb
        replace hBaC2 := cell_step hBaC2 hb
        replace hZaC := Nat.lt_of_lt_of_le hZaC (Below.size hb)
        replace hSaC := SlR.below hSaC hb
        replace hSaRow := SlR.below hSaRow hb
        replace hSaWord := SlR.below hSaWord hb
        replace hF := Fr.step hF hb
        replace hE := Fr.step hE hb
        replace hOx0 := ownsRow_below hOx0 hb
        replace hSx0 := SlR.below hSx0 hb
        replace hBx00 := cell_step hBx00 hb
        replace hBx01 := cell_step hBx01 hb
        replace hBx02 := cell_step hBx02 hb
        replace hZx0 := Nat.lt_of_lt_of_le hZx0 (Below.size hb)
        replace hOx1 := ownsRow_below hOx1 hb
        replace hSx1 := SlR.below hSx1 hb
        replace hOx2 := ownsRow_below hOx2 hb
        replace hSx2 := SlR.below hSx2 hb
        clear hb hq
        go_wp2_with fail
        go_region_held3 (fun W => World.cell? W ⟨w.heap.size, 0, none⟩ = some (.int .i64 iaC) ∧ World.cell? W ⟨w.heap.size, 1, none⟩ = some (.int .i64 jaC) ∧ World.cell? W ⟨w.heap.size, 2, none⟩ = some (.slice aaC aC.length caC) ∧ World.cell? W ⟨(World.heap W6).size, 0, none⟩ = some (.int .i64 iaC) ∧ World.cell? W ⟨(World.heap W6).size, 1, none⟩ = some (.int .i64 jaC) ∧ World.cell? W ⟨(World.heap W6).size, 2, none⟩ = some (.slice ax0 aC.length cx0) ∧ Fr W11 W) (first | exact keep6 (by assumption) (by assumption) | exact ⟨hBaC0, hBaC1, hBaC2, hBx00, hBx01, hBx02, (Fr.refl _).drew⟩)
          (first | (go_at_call 17; (with_reducible refine (toChannel_any iaC jaC (.slice aaC aC.length caC) aC _ (hSaC.fr (‹_ ∧ _ ∧ _ ∧ _ ∧ _ ∧ _ ∧ Fr W11 _›).2.2.2.2.2.2) (by omega)).mono ?_); rintro e V1 ⟨b1, d1, rfl, hown1, hb1⟩) | (go_at_call 19; (with_reducible refine (eqChannel_same iaC jaC _ _ aC _ (hSx0.fr (‹_ ∧ _ ∧ _ ∧ _ ∧ _ ∧ _ ∧ Fr W11 _›).2.2.2.2.2.2) (SlR.own hown1)).mono ?_); rintro e V2 ⟨rfl, hb2⟩))
        rename_i hHold
        obtain ⟨hBaC0_, hBaC1_, hBaC2_, hBx00_, hBx01_, hBx02_, hb⟩ := hHold
        replace hBaC0 := hBaC0_; clear hBaC0_
        replace hBaC1 := hBaC1_; clear hBaC1_
        replace hBaC2 := hBaC2_; clear hBaC2_
        replace hBx00 := hBx00_; clear hBx00_
        replace hBx01 := hBx01_; clear hBx01_
        replace hBx02 := hBx02_; clear hBx02_
        replace hZaC := Nat.lt_of_lt_of_le hZaC (Below.size hb)
        replace hSaC := SlR.below hSaC hb
        replace hSaRow := SlR.below hSaRow hb
        replace hSaWord := SlR.below hSaWord hb
        replace hF := Fr.step hF hb
        replace hE := Fr.step hE hb
        replace hOx0 := ownsRow_below hOx0 hb
        replace hSx0 := SlR.below hSx0 hb
        replace hZx0 := Nat.lt_of_lt_of_le hZx0 (Below.size hb)
        replace hOx1 := ownsRow_below hOx1 hb
        replace hSx1 := SlR.below hSx1 hb
        replace hOx2 := ownsRow_below hOx2 hb
        replace hSx2 := SlR.below hSx2 hb
        clear hb
        clear hown1 hb1 hb2
        go_wp2_with fail
        refine (toFloat32S_any _ aRow _ hSaRow (by omega)).mono ?_
        rintro e W13 ⟨aT, cT, rfl, hOt, hb⟩
        replace hBaC0 := cell_step hBaC0 hb
        replace hBaC1 := cell_step hBaC1 hb
        replace hBaC2 := cell_step hBaC2 hb
        replace hZaC := Nat.lt_of_lt_of_le hZaC (Below.size hb)
        replace hSaC := SlR.below hSaC hb
        replace hSaRow := SlR.below hSaRow hb
        replace hSaWord := SlR.below hSaWord hb
        replace hF := Fr.step hF hb
        replace hE := Fr.step hE hb
        replace hOx0 := ownsRow_below hOx0 hb
        replace hSx0 := SlR.below hSx0 hb
        replace hBx00 := cell_step hBx00 hb
        replace hBx01 := cell_step hBx01 hb
        replace hBx02 := cell_step hBx02 hb
        replace hZx0 := Nat.lt_of_lt_of_le hZx0 (Below.size hb)
        replace hOx1 := ownsRow_below hOx1 hb
        replace hSx1 := SlR.below hSx1 hb
        replace hOx2 := ownsRow_below hOx2 hb
        replace hSx2 := SlR.below hSx2 hb
        clear hb
        replace hOt := SlR.own hOt
        go_wp2_with fail
        refine (eqFloat32S_same _ _ aRow _ hSx1 hOt).mono ?_
        rintro e W14 ⟨rfl, hq⟩
        have hb := hq.below (World.heap W13).size
        replace hBaC0 := cell_step hBaC0 hb
        replace hBaC1 := cell_step hBaC1 hb
        replace hBaC2 := cell_step hBaC2 hb
        replace hZaC := Nat.lt_of_lt_of_le hZaC (Below.size hb)
        replace hSaC := SlR.below hSaC hb
        replace hSaRow := SlR.below hSaRow hb
        replace hSaWord := SlR.below hSaWord hb
        replace hF := Fr.step hF hb
        replace hE := Fr.step hE hb
        replace hOx0 := ownsRow_below hOx0 hb
        replace hSx0 := SlR.below hSx0 hb
        replace hBx00 := cell_step hBx00 hb
        replace hBx01 := cell_step hBx01 hb
        replace hBx02 := cell_step hBx02 hb
        replace hZx0 := Nat.lt_of_lt_of_le hZx0 (Below.size hb)
        replace hOx1 := ownsRow_below hOx1 hb
        replace hSx1 := SlR.below hSx1 hb
        replace hOx2 := ownsRow_below hOx2 hb
        replace hSx2 := SlR.below hSx2 hb
        clear hb hq
        clear hOt
        go_wp2_with fail
        refine (toInt64S_any _ aWord _ hSaWord (by omega)).mono ?_
        rintro e W15 ⟨aT, cT, rfl, hOt, hb⟩
        replace hBaC0 := cell_step hBaC0 hb
        replace hBaC1 := cell_step hBaC1 hb
        replace hBaC2 := cell_step hBaC2 hb
        replace hZaC := Nat.lt_of_lt_of_le hZaC (Below.size hb)
        replace hSaC := SlR.below hSaC hb
        replace hSaRow := SlR.below hSaRow hb
        replace hSaWord := SlR.below hSaWord hb
        replace hF := Fr.step hF hb
        replace hE := Fr.step hE hb
        replace hOx0 := ownsRow_below hOx0 hb
        replace hSx0 := SlR.below hSx0 hb
        replace hBx00 := cell_step hBx00 hb
        replace hBx01 := cell_step hBx01 hb
        replace hBx02 := cell_step hBx02 hb
        replace hZx0 := Nat.lt_of_lt_of_le hZx0 (Below.size hb)
        replace hOx1 := ownsRow_below hOx1 hb
        replace hSx1 := SlR.below hSx1 hb
        replace hOx2 := ownsRow_below hOx2 hb
        replace hSx2 := SlR.below hSx2 hb
        clear hb
        replace hOt := SlR.own hOt
        go_wp2_with fail
        refine (eqInt64S_same _ _ aWord _ hSx2 hOt).mono ?_
        rintro e W16 ⟨rfl, hq⟩
        have hb := hq.below (World.heap W15).size
        replace hBaC0 := cell_step hBaC0 hb
        replace hBaC1 := cell_step hBaC1 hb
        replace hBaC2 := cell_step hBaC2 hb
        replace hZaC := Nat.lt_of_lt_of_le hZaC (Below.size hb)
        replace hSaC := SlR.below hSaC hb
        replace hSaRow := SlR.below hSaRow hb
        replace hSaWord := SlR.below hSaWord hb
        replace hF := Fr.step hF hb
        replace hE := Fr.step hE hb
        replace hOx0 := ownsRow_below hOx0 hb
        replace hSx0 := SlR.below hSx0 hb
        replace hBx00 := cell_step hBx00 hb
        replace hBx01 := cell_step hBx01 hb
        replace hBx02 := cell_step hBx02 hb
        replace hZx0 := Nat.lt_of_lt_of_le hZx0 (Below.size hb)
        replace hOx1 := ownsRow_below hOx1 hb
        replace hSx1 := SlR.below hSx1 hb
        replace hOx2 := ownsRow_below hOx2 hb
        replace hSx2 := SlR.below hSx2 hb
        clear hb hq
        clear hOt
        go_wp2_with fail
        go_ret
        exact ⟨rfl, hF⟩
      · go_enter Try.func12, Try.ntmps12
        go_wp2_with fail
        have hF : Fr w (World.alloc w (.cells #[.int .i64 iaC, .int .i64 jaC, .slice aaC aC.length caC] 24)) := by (show Below _ _ _); go_grown
        have hBaC0 : World.cell? (World.alloc w (.cells #[.int .i64 iaC, .int .i64 jaC, .slice aaC aC.length caC] 24)) ⟨w.heap.size, 0, none⟩ = some (.int .i64 iaC) := by go_cell
        have hBaC1 : World.cell? (World.alloc w (.cells #[.int .i64 iaC, .int .i64 jaC, .slice aaC aC.length caC] 24)) ⟨w.heap.size, 1, none⟩ = some (.int .i64 jaC) := by go_cell
        have hBaC2 : World.cell? (World.alloc w (.cells #[.int .i64 iaC, .int .i64 jaC, .slice aaC aC.length caC] 24)) ⟨w.heap.size, 2, none⟩ = some (.slice aaC aC.length caC) := by go_cell
        have hZaC : w.heap.size < (World.heap (World.alloc w (.cells #[.int .i64 iaC, .int .i64 jaC, .slice aaC aC.length caC] 24))).size := by simp only [World.size_alloc]; omega
        have hSaC := saC.fr hF
        have hSaRow := saRow.fr hF
        have hSaWord := saWord.fr hF
        generalize (World.alloc w (.cells #[.int .i64 iaC, .int .i64 jaC, .slice aaC aC.length caC] 24)) = W0 at *
        refine (szChannel_gt iaC jaC _ aC.length _ _ _ (by omega) (by omega) (by omega) (by omega)).mono ?_
        rintro e W1 ⟨rfl, hb⟩
        replace hBaC0 := cell_step hBaC0 hb
        replace hBaC1 := cell_step hBaC1 hb
        replace hBaC2 := cell_step hBaC2 hb
        replace hZaC := Nat.lt_of_lt_of_le hZaC (Below.size hb)
        replace hSaC := SlR.below hSaC hb
        replace hSaRow := SlR.below hSaRow hb
        replace hSaWord := SlR.below hSaWord hb
        replace hF := Fr.step hF hb
        clear hb
        go_wp2_with fail
        go_ret
        exact ⟨rfl, hF⟩
    · go_enter Try.func12, Try.ntmps12
      go_wp2_with fail
      have hF : Fr w (World.alloc w (.cells #[.int .i64 iaC, .int .i64 jaC, .slice aaC aC.length caC] 24)) := by (show Below _ _ _); go_grown
      have hBaC0 : World.cell? (World.alloc w (.cells #[.int .i64 iaC, .int .i64 jaC, .slice aaC aC.length caC] 24)) ⟨w.heap.size, 0, none⟩ = some (.int .i64 iaC) := by go_cell
      have hBaC1 : World.cell? (World.alloc w (.cells #[.int .i64 iaC, .int .i64 jaC, .slice aaC aC.length caC] 24)) ⟨w.heap.size, 1, none⟩ = some (.int .i64 jaC) := by go_cell
      have hBaC2 : World.cell? (World.alloc w (.cells #[.int .i64 iaC, .int .i64 jaC, .slice aaC aC.length caC] 24)) ⟨w.heap.size, 2, none⟩ = some (.slice aaC aC.length caC) := by go_cell
      have hZaC : w.heap.size < (World.heap (World.alloc w (.cells #[.int .i64 iaC, .int .i64 jaC, .slice aaC aC.length caC] 24))).size := by simp only [World.size_alloc]; omega
      have hSaC := saC.fr hF
      have hSaRow := saRow.fr hF
      have hSaWord := saWord.fr hF
      generalize (World.alloc w (.cells #[.int .i64 iaC, .int .i64 jaC, .slice aaC aC.length caC] 24)) = W0 at *
      go_ret
      exact ⟨rfl, hF⟩
  · go_enter Try.func12, Try.ntmps12
    go_wp2_with fail
    have hF : Fr w (World.alloc w (.cells #[.int .i64 iaC, .int .i64 jaC, .slice aaC aC.length caC] 24)) := by (show Below _ _ _); go_grown
    have hBaC0 : World.cell? (World.alloc w (.cells #[.int .i64 iaC, .int .i64 jaC, .slice aaC aC.length caC] 24)) ⟨w.heap.size, 0, none⟩ = some (.int .i64 iaC) := by go_cell
    have hBaC1 : World.cell? (World.alloc w (.cells #[.int .i64 iaC, .int .i64 jaC, .slice aaC aC.length caC] 24)) ⟨w.heap.size, 1, none⟩ = some (.int .i64 jaC) := by go_cell
    have hBaC2 : World.cell? (World.alloc w (.cells #[.int .i64 iaC, .int .i64 jaC, .slice aaC aC.length caC] 24)) ⟨w.heap.size, 2, none⟩ = some (.slice aaC aC.length caC) := by go_cell
    have hZaC : w.heap.size < (World.heap (World.alloc w (.cells #[.int .i64 iaC, .int .i64 jaC, .slice aaC aC.length caC] 24))).size := by simp only [World.size_alloc]; omega
    have hSaC := saC.fr hF
    have hSaRow := saRow.fr hF
    have hSaWord := saWord.fr hF
    generalize (World.alloc w (.cells #[.int .i64 iaC, .int .i64 jaC, .slice aaC aC.length caC] 24)) = W0 at *
    go_ret
    exact ⟨rfl, hF⟩

end Go.Proofs.Ytadakijlihibeaa
