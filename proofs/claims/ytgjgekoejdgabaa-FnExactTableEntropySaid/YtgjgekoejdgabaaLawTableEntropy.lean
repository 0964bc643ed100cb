/- The walk of the law FnExactTableEntropy, out of the contracts of what it calls. -/
import Derived.Test.YtgjgekoejdgabaaTbe
import Derived.Deep.RegionHeld3
import Derived.Test.YtgjgekoejdgabaaHrg
namespace Go.Proofs.Ytgjgekoejdgabaa
set_option linter.unusedSimpArgs false
set_option linter.unusedVariables false
open Go.RowKit

set_option maxHeartbeats 4000000 in
theorem law_TableEntropy (w : World) (iaT jaT : Int) (hiaT : I64 iaT) (hjaT : I64 jaT) (aaT : Option Addr) (caT : Nat) (aT : List Nat) (maT : aT.length ≤ caT ∧ caT ≤ 9223372036854775807) (saT : SlR w (.slice aaT aT.length caT) (aT.map (Value.float .f32))) (xaT : ∀ x ∈ aT, x < 4294967296) :
    Calls Try.prog 5 #[.agg #[.int .i64 iaT, .int .i64 jaT, .slice aaT aT.length caT]] w fun e w' => e = .returned (.bool true) ∧ Below w.heap.size w w' := by
  by_cases z0 : aT.length ≤ 1048576
  · go_enter Try.func5, Try.ntmps5
    go_wp2_with fail
    have hF : Fr w (World.alloc w (.cells #[.int .i64 iaT, .int .i64 jaT, .slice aaT aT.length caT] 45)) := by (show Below _ _ _); go_grown
    have hBaT0 : World.cell? (World.alloc w (.cells #[.int .i64 iaT, .int .i64 jaT, .slice aaT aT.length caT] 45)) ⟨w.heap.size, 0, none⟩ = some (.int .i64 iaT) := by go_cell
    have hBaT1 : World.cell? (World.alloc w (.cells #[.int .i64 iaT, .int .i64 jaT, .slice aaT aT.length caT] 45)) ⟨w.heap.size, 1, none⟩ = some (.int .i64 jaT) := by go_cell
    have hBaT2 : World.cell? (World.alloc w (.cells #[.int .i64 iaT, .int .i64 jaT, .slice aaT aT.length caT] 45)) ⟨w.heap.size, 2, none⟩ = some (.slice aaT aT.length caT) := by go_cell
    have hZaT : w.heap.size < (World.heap (World.alloc w (.cells #[.int .i64 iaT, .int .i64 jaT, .slice aaT aT.length caT] 45))).size := by simp only [World.size_alloc]; omega
    have hSaT := saT.fr hF
    generalize (World.alloc w (.cells #[.int .i64 iaT, .int .i64 jaT, .slice aaT aT.length caT] 45)) = W0 at *
    refine (szTable_le iaT jaT _ aT.length _ _ _ (by omega) (by omega) (by omega) (by omega)).mono ?_
    rintro e W1 ⟨rfl, hb⟩
    replace hBaT0 := cell_step hBaT0 hb
    replace hBaT1 := cell_step hBaT1 hb
    replace hBaT2 := cell_step hBaT2 hb
    replace hZaT := Nat.lt_of_lt_of_le hZaT (Below.size hb)
    replace hSaT := SlR.below hSaT hb
    replace hF := Fr.step hF hb
    clear hb
    go_wp2_with fail
    generalize hO : out_TableEntropy iaT jaT aT = o
    obtain ⟨o0, o1⟩ := o
    have HO := Lib.hid hO
    have HN0 : nanB o0 = false := by have h := nan0_TableEntropy iaT jaT hiaT hjaT aT xaT (by omega); rw [hO] at h; exact h
    clear hO
    obtain ⟨fr0, hfr0, -⟩ := conv_up_some HN0
    have HCV0 : Hid (∀ W : World, (convert 23 28 (.float .f32 o0)).run Try.prog W = .ok (.float .f64 fr0) W) := by show ∀ W : World, _; exact fun W => run_convert_float_float W _ _ .f32 .f64 o0 fr0 (by rw [Try.underlying23]; rfl) Try.underlying28 hfr0
    clear HN0 hfr0
    refine (toTable_any iaT jaT _ aT _ hSaT (by omega)).mono ?_
    rintro e W2 ⟨aT1, cT1, rfl, hOt1, hb⟩
    replace hBaT0 := cell_step hBaT0 hb
    replace hBaT1 := cell_step hBaT1 hb
    replace hBaT2 := cell_step hBaT2 hb
    replace hZaT := Nat.lt_of_lt_of_le hZaT (Below.size hb)
    replace hSaT := SlR.below hSaT hb
    replace hF := Fr.step hF hb
    clear hb
    replace hOt1 := SlR.own hOt1
    go_wp2_with fail
    refine (spec_TableEntropy _ iaT jaT hiaT hjaT _ aT hOt1 xaT (by omega)).mono ?_
    rw [HO.out]
    try dsimp only
    rintro e W3 ⟨rfl, hb⟩
    replace hBaT0 := cell_step hBaT0 hb
    replace hBaT1 := cell_step hBaT1 hb
    replace hBaT2 := cell_step hBaT2 hb
    replace hZaT := Nat.lt_of_lt_of_le hZaT (Below.size hb)
    replace hSaT := SlR.below hSaT hb
    replace hF := Fr.step hF hb
    replace hOt1 := SlR.below hOt1 hb
    clear hb
    clear hOt1
    have hE := Fr.refl W3
    have hFE := hF
    have hBaT0_E := hBaT0
    have hBaT1_E := hBaT1
    have hBaT2_E := hBaT2
    have hSaT_E := hSaT
    go_wp2_with fail
    have hLx0 := Below.size hE
    refine (toTable_any iaT jaT _ aT _ hSaT (by omega)).mono ?_
    rintro e W4 ⟨ax0, cx0, rfl, hOx0, hb⟩
    replace hBaT0 := cell_step hBaT0 hb
    replace hBaT1 := cell_step hBaT1 hb
    replace hBaT2 := cell_step hBaT2 hb
    replace hZaT := Nat.lt_of_lt_of_le hZaT (Below.size hb)
    replace hSaT := SlR.below hSaT hb
    replace hF := Fr.step hF hb
    replace hE := Fr.step hE hb
    clear hb
    have hSx0 := SlR.own hOx0
    have hHx0 : ∀ k, Value.ownBlock (.slice ax0 aT.length cx0) = some k → k < (World.heap W4).size := fun k hk => (hOx0.lt k hk).2
    have hXx0 := Nat.le_refl (World.heap W4).size
    go_wp2_with fail
    have hb : Below (World.heap W4).size W4 (World.alloc W4 (.cells #[.int .i64 iaT, .int .i64 jaT, .slice ax0 aT.length cx0] 34)) := by go_grown
    replace hBaT0 := cell_step hBaT0 hb
    replace hBaT1 := cell_step hBaT1 hb
    replace hBaT2 := cell_step hBaT2 hb
    replace hZaT := Nat.lt_of_lt_of_le hZaT (Below.size hb)
    replace hSaT := SlR.below hSaT hb
    replace hF := Fr.step hF hb
    replace hE := Fr.step hE hb
    replace hOx0 := ownsRow_below hOx0 hb
    replace hSx0 := SlR.below hSx0 hb
    have hBx00 : World.cell? (World.alloc W4 (.cells #[.int .i64 iaT, .int .i64 jaT, .slice ax0 aT.length cx0] 34)) ⟨(World.heap W4).size, 0, none⟩ = some (.int .i64 iaT) := by simp
    have hBx01 : World.cell? (World.alloc W4 (.cells #[.int .i64 iaT, .int .i64 jaT, .slice ax0 aT.length cx0] 34)) ⟨(World.heap W4).size, 1, none⟩ = some (.int .i64 jaT) := by simp
    have hBx02 : World.cell? (World.alloc W4 (.cells #[.int .i64 iaT, .int .i64 jaT, .slice ax0 aT.length cx0] 34)) ⟨(World.heap W4).size, 2, none⟩ = some (.slice ax0 aT.length cx0) := by simp
    have hZx0 : (World.heap W4).size < (World.heap (World.alloc W4 (.cells #[.int .i64 iaT, .int .i64 jaT, .slice ax0 aT.length cx0] 34))).size := by simp
    clear hb
    generalize (World.alloc W4 (.cells #[.int .i64 iaT, .int .i64 jaT, .slice ax0 aT.length cx0] 34)) = W5 at *
    refine (impl_TableEntropy _ iaT jaT hiaT hjaT _ aT hSx0 xaT (by omega)).mono ?_
    rw [HO.out]
    try dsimp only
    rintro e W6 ⟨rfl, hb⟩
    replace hBaT0 := cell_step hBaT0 hb
    replace hBaT1 := cell_step hBaT1 hb
    replace hBaT2 := cell_step hBaT2 hb
    replace hZaT := Nat.lt_of_lt_of_le hZaT (Below.size hb)
    replace hSaT := SlR.below hSaT hb
    replace hF := Fr.step hF hb
    replace hE := Fr.step hE hb
    replace hOx0 := ownsRow_below hOx0 hb
    replace hSx0 := SlR.below hSx0 hb
    replace hBx00 := cell_step hBx00 hb
    replace hBx01 := cell_step hBx01 hb
    replace hBx02 := cell_step hBx02 hb
    replace hZx0 := Nat.lt_of_lt_of_le hZx0 (Below.size hb)
    clear hb
    have hcv0 := HCV0.out
    go_wp2_with fail
    refine (sameFloat_self _ _).mono ?_
    rintro e W7 ⟨rfl, hq⟩
    have hb := hq.below (World.heap W6).size
    replace hBaT0 := cell_step hBaT0 hb
    replace hBaT1 := cell_step hBaT1 hb
    replace hBaT2 := cell_step hBaT2 hb
    replace hZaT := Nat.lt_of_lt_of_le hZaT (Below.size hb)
    replace hSaT := SlR.below hSaT hb
    replace hF := Fr.step hF hb
    replace hE := Fr.step hE hb
    replace hOx0 := ownsRow_below hOx0 hb
    replace hSx0 := SlR.below hSx0 hb
    replace hBx00 := cell_step hBx00 hb
    replace hBx01 := cell_step hBx01 hb
    replace hBx02 := cell_step hBx02 hb
    replace hZx0 := Nat.lt_of_lt_of_le hZx0 (Below.size hb)
    clear hb hq
    go_wp2_with fail
    go_region_held3 (fun W => World.cell? W ⟨w.heap.size, 0, none⟩ = some (.int .i64 iaT) ∧ World.cell? W ⟨w.heap.size, 1, none⟩ = some (.int .i64 jaT) ∧ World.cell? W ⟨w.heap.size, 2, none⟩ = some (.slice aaT aT.length caT) ∧ World.cell? W ⟨(World.heap W4).size, 0, none⟩ = some (.int .i64 iaT) ∧ World.cell? W ⟨(World.heap W4).size, 1, none⟩ = some (.int .i64 jaT) ∧ World.cell? W ⟨(World.heap W4).size, 2, none⟩ = some (.slice ax0 aT.length cx0) ∧ Fr W7 W) (first | exact keep6 (by assumption) (by assumption) | exact ⟨hBaT0, hBaT1, hBaT2, hBx00, hBx01, hBx02, (Fr.refl _).drew⟩)
      (first | (go_at_call 32; (with_reducible refine (toTable_any iaT jaT (.slice aaT aT.length caT) aT _ (hSaT.fr (‹_ ∧ _ ∧ _ ∧ _ ∧ _ ∧ _ ∧ Fr W7 _›).2.2.2.2.2.2) (by omega)).mono ?_); rintro e V1 ⟨b1, d1, rfl, hown1, hb1⟩) | (go_at_call 24; (with_reducible refine (eqTable_same iaT jaT _ _ aT _ (hSx0.fr (‹_ ∧ _ ∧ _ ∧ _ ∧ _ ∧ _ ∧ Fr W7 _›).2.2.2.2.2.2) (SlR.own hown1)).mono ?_); rintro e V2 ⟨rfl, hb2⟩))
    rename_i hHold
    obtain ⟨hBaT0_, hBaT1_, hBaT2_, hBx00_, hBx01_, hBx02_, hb⟩ := hHold
    replace hBaT0 := hBaT0_; clear hBaT0_
    replace hBaT1 := hBaT1_; clear hBaT1_
    replace hBaT2 := hBaT2_; clear hBaT2_
    replace hBx00 := hBx00_; clear hBx00_
    replace hBx01 := hBx01_; clear hBx01_
    replace hBx02 := hBx02_; clear hBx02_
    replace hZaT := Nat.lt_of_lt_of_le hZaT (Below.size hb)
    replace hSaT := SlR.below hSaT hb
    replace hF := Fr.step hF hb
    replace hE := Fr.step hE hb
    replace hOx0 := ownsRow_below hOx0 hb
    replace hSx0 := SlR.below hSx0 hb
    replace hZx0 := Nat.lt_of_lt_of_le hZx0 (Below.size hb)
    clear hb
    clear hown1 hb1 hb2
    go_wp2_with fail
    go_ret
    exact ⟨rfl, hF⟩
  · go_enter Try.func5, Try.ntmps5
    go_wp2_with fail
    have hF : Fr w (World.alloc w (.cells #[.int .i64 iaT, .int .i64 jaT, .slice aaT aT.length caT] 45)) := by (show Below _ _ _); go_grown
    have hBaT0 : World.cell? (World.alloc w (.cells #[.int .i64 iaT, .int .i64 jaT, .slice aaT aT.length caT] 45)) ⟨w.heap.size, 0, none⟩ = some (.int .i64 iaT) := by go_cell
    have hBaT1 : World.cell? (World.alloc w (.cells #[.int .i64 iaT, .int .i64 jaT, .slice aaT aT.length caT] 45)) ⟨w.heap.size, 1, none⟩ = some (.int .i64 jaT) := by go_cell
    have hBaT2 : World.cell? (World.alloc w (.cells #[.int .i64 iaT, .int .i64 jaT, .slice aaT aT.length caT] 45)) ⟨w.heap.size, 2, none⟩ = some (.slice aaT aT.length caT) := by go_cell
    have hZaT : w.heap.size < (World.heap (World.alloc w (.cells #[.int .i64 iaT, .int .i64 jaT, .slice aaT aT.length caT] 45))).size := by simp only [World.size_alloc]; omega
    have hSaT := saT.fr hF
    generalize (World.alloc w (.cells #[.int .i64 iaT, .int .i64 jaT, .slice aaT aT.length caT] 45)) = W0 at *
    refine (szTable_gt iaT jaT _ aT.length _ _ _ (by omega) (by omega) (by omega) (by omega)).mono ?_
    rintro e W1 ⟨rfl, hb⟩
    replace hBaT0 := cell_step hBaT0 hb
    replace hBaT1 := cell_step hBaT1 hb
    replace hBaT2 := cell_step hBaT2 hb
    replace hZaT := Nat.lt_of_lt_of_le hZaT (Below.size hb)
    replace hSaT := SlR.below hSaT hb
    replace hF := Fr.step hF hb
    clear hb
    go_wp2_with fail
    go_ret
    exact ⟨rfl, hF⟩

end Go.Proofs.Ytgjgekoejdgabaa
