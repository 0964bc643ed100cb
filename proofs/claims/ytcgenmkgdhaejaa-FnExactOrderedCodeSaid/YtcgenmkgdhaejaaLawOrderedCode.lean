/- The walk of the law FnExactOrderedCode, out of the contracts of what it calls. -/
import Derived.Test.YtcgenmkgdhaejaaOcl
import Derived.Deep.RegionHeld3
namespace Go.Proofs.Ytcgenmkgdhaejaa
set_option linter.unusedSimpArgs false
set_option linter.unusedVariables false
open Go.RowKit

set_option maxHeartbeats 4000000 in
theorem law_OrderedCode (w : World) (aaWeights : Option Addr) (caWeights : Nat) (aWeights : List Int) (maWeights : aWeights.length ≤ caWeights ∧ caWeights ≤ 9223372036854775807) (saWeights : SlR w (.slice aaWeights aWeights.length caWeights) (aWeights.map (Value.int .i64))) (xaWeights : ∀ x ∈ aWeights, I64 x) :
    Calls Try.prog 3 #[.slice aaWeights aWeights.length caWeights] w fun e w' => e = .returned (.bool true) ∧ Below w.heap.size w w' := by
  by_cases z0 : aWeights.length ≤ 1048576
  · go_enter Try.func3, Try.ntmps3
    go_wp2_with fail
    have hF : Fr w w := by (show Below _ _ _); go_grown
    have hSaWeights := saWeights.fr hF
    generalize hO : out_OrderedCode aWeights = o
    obtain ⟨o0, o1⟩ := o
    have HO := Lib.hid hO
    have HOl : o0.length ≤ 1048576 := by have h := len_OrderedCode aWeights xaWeights (by omega); rw [hO] at h; exact h
    clear hO
    refine (toInt64S_any _ aWeights _ hSaWeights (by omega)).mono ?_
    rintro e W1 ⟨aT1, cT1, rfl, hOt1, hb⟩
    replace hSaWeights := SlR.below hSaWeights hb
    replace hF := Fr.step hF hb
    clear hb
    replace hOt1 := SlR.own hOt1
    go_wp2_with fail
    refine (spec_OrderedCode _ _ aWeights hOt1 xaWeights (by omega)).mono ?_
    rw [HO.out]
    try dsimp only
    rintro e W2 ⟨arw, crw, rfl, hSw0, hb⟩
    replace hSaWeights := SlR.below hSaWeights hb
    replace hF := Fr.step hF hb
    replace hOt1 := SlR.below hOt1 hb
    clear hb
    clear hOt1
    have hE := Fr.refl W2
    have hFE := hF
    have hSaWeights_E := hSaWeights
    have hSw0_E := hSw0
    go_wp2_with fail
    have hb : Below (World.heap W2).size W2 (World.alloc W2 (.cells #[.slice arw o0.length crw] 24)) := by go_grown
    replace hSaWeights := SlR.below hSaWeights hb
    replace hF := Fr.step hF hb
    replace hSw0 := SlR.below hSw0 hb
    replace hE := Fr.step hE hb
    have hBw00 : World.cell? (World.alloc W2 (.cells #[.slice arw o0.length crw] 24)) ⟨(World.heap W2).size, 0, none⟩ = some (.slice arw o0.length crw) := by simp
    have hZw0 : (World.heap W2).size < (World.heap (World.alloc W2 (.cells #[.slice arw o0.length crw] 24))).size := by simp
    clear hb
    generalize (World.alloc W2 (.cells #[.slice arw o0.length crw] 24)) = W3 at *
    have hLx0 := Below.size hE
    have hYx0 := hZw0
    refine (toInt64S_any _ aWeights _ hSaWeights (by omega)).mono ?_
    rintro e W4 ⟨ax0, cx0, rfl, hOx0, hb⟩
    replace hSaWeights := SlR.below hSaWeights hb
    replace hF := Fr.step hF hb
    replace hSw0 := SlR.below hSw0 hb
    replace hE := Fr.step hE hb
    replace hBw00 := cell_step hBw00 hb
    replace hZw0 := Nat.lt_of_lt_of_le hZw0 (Below.size hb)
    clear hb
    have hSx0 := SlR.own hOx0
    have hHx0 : ∀ k, Value.ownBlock (.slice ax0 aWeights.length cx0) = some k → k < (World.heap W4).size := fun k hk => (hOx0.lt k hk).2
    go_wp2_with fail
    have hgE := Below.size hE
    have hYg0 := hZw0
    have hGx0 : ∀ k, Value.ownBlock (.slice ax0 aWeights.length cx0) = some k → k < (World.heap W4).size := fun k hk => (hOx0.lt k hk).2
    refine (impl_OrderedCode _ _ aWeights hSx0 xaWeights (by omega)).mono ?_
    rw [HO.out]
    try dsimp only
    rintro e W5 ⟨arg, crg, rfl, hOg0, hb⟩
    replace hSaWeights := SlR.below hSaWeights hb
    replace hF := Fr.step hF hb
    replace hSw0 := SlR.below hSw0 hb
    replace hE := Fr.step hE hb
    replace hBw00 := cell_step hBw00 hb
    replace hZw0 := Nat.lt_of_lt_of_le hZw0 (Below.size hb)
    replace hOx0 := ownsRow_below hOx0 hb
    replace hSx0 := SlR.below hSx0 hb
    have hgsz := Below.size hb
    clear hb
    have hSg0 := SlR.own hOg0
    have hHg0 : ∀ k, Value.ownBlock (.slice arg o0.length crg) = some k → k < (World.heap W5).size := fun k hk => (hOg0.lt k hk).2
    go_wp2_with fail
    have hb : Below (World.heap W5).size W5 (World.alloc W5 (.cells #[.slice arg o0.length crg] 24)) := by go_grown
    replace hSaWeights := SlR.below hSaWeights hb
    replace hF := Fr.step hF hb
    replace hSw0 := SlR.below hSw0 hb
    replace hE := Fr.step hE hb
    replace hBw00 := cell_step hBw00 hb
    replace hZw0 := Nat.lt_of_lt_of_le hZw0 (Below.size hb)
    replace hOx0 := ownsRow_below hOx0 hb
    replace hSx0 := SlR.below hSx0 hb
    replace hOg0 := ownsRow_below hOg0 hb
    replace hSg0 := SlR.below hSg0 hb
    have hBg00 : World.cell? (World.alloc W5 (.cells #[.slice arg o0.length crg] 24)) ⟨(World.heap W5).size, 0, none⟩ = some (.slice arg o0.length crg) := by simp
    have hZg0 : (World.heap W5).size < (World.heap (World.alloc W5 (.cells #[.slice arg o0.length crg] 24))).size := by simp
    clear hb
    generalize (World.alloc W5 (.cells #[.slice arg o0.length crg] 24)) = W6 at *
    refine (eqCode_same _ _ o0 _ hSg0 hSw0).mono ?_
    rintro e W7 ⟨rfl, hb⟩
    replace hSaWeights := SlR.below hSaWeights hb
    replace hF := Fr.step hF hb
    replace hSw0 := SlR.below hSw0 hb
    replace hE := Fr.step hE hb
    replace hBw00 := cell_step hBw00 hb
    replace hZw0 := Nat.lt_of_lt_of_le hZw0 (Below.size hb)
    replace hOx0 := ownsRow_below hOx0 hb
    replace hSx0 := SlR.below hSx0 hb
    replace hOg0 := ownsRow_below hOg0 hb
    replace hSg0 := SlR.below hSg0 hb
    replace hBg00 := cell_step hBg00 hb
    replace hZg0 := Nat.lt_of_lt_of_le hZg0 (Below.size hb)
    clear hb
    go_wp2_with fail
    refine (toInt64S_any _ aWeights _ hSaWeights (by omega)).mono ?_
    rintro e W8 ⟨aT, cT, rfl, hOt, hb⟩
    replace hSaWeights := SlR.below hSaWeights hb
    replace hF := Fr.step hF hb
    replace hSw0 := SlR.below hSw0 hb
    replace hE := Fr.step hE hb
    replace hBw00 := cell_step hBw00 hb
    replace hZw0 := Nat.lt_of_lt_of_le hZw0 (Below.size hb)
    replace hOx0 := ownsRow_below hOx0 hb
    replace hSx0 := SlR.below hSx0 hb
    replace hOg0 := ownsRow_below hOg0 hb
    replace hSg0 := SlR.below hSg0 hb
    replace hBg00 := cell_step hBg00 hb
    replace hZg0 := Nat.lt_of_lt_of_le hZg0 (Below.size hb)
    clear hb
    replace hOt := SlR.own hOt
    go_wp2_with fail
    refine (eqInt64S_same _ _ aWeights _ hSx0 hOt).mono ?_
    rintro e W9 ⟨rfl, hq⟩
    have hb := hq.below (World.heap W8).size
    replace hSaWeights := SlR.below hSaWeights hb
    replace hF := Fr.step hF hb
    replace hSw0 := SlR.below hSw0 hb
    replace hE := Fr.step hE hb
    replace hBw00 := cell_step hBw00 hb
    replace hZw0 := Nat.lt_of_lt_of_le hZw0 (Below.size hb)
    replace hOx0 := ownsRow_below hOx0 hb
    replace hSx0 := SlR.below hSx0 hb
    replace hOg0 := ownsRow_below hOg0 hb
    replace hSg0 := SlR.below hSg0 hb
    replace hBg00 := cell_step hBg00 hb
    replace hZg0 := Nat.lt_of_lt_of_le hZg0 (Below.size hb)
    clear hb hq
    clear hOt
    go_wp2_with fail
    refine (markInt64S_any _ aWeights.length _ _ 1 _ _ (by omega) (by omega) (by omega) hOx0).mono ?_
    rintro e W10 ⟨rfl, hOm, hg⟩
    replace hE := hE.grown hg hOx0 hLx0
    replace hF := hFE.step hE
    replace hSaWeights := SlR.fr hSaWeights_E hE
    replace hSw0 := SlR.fr hSw0_E hE
    replace hBw00 := cell_grown hBw00 hg (fun k hk => Nat.ne_of_gt (Nat.lt_of_lt_of_le hYx0 (hOx0.lt k hk).1))
    replace hOg0 := own_apart hOg0 hg hGx0
    replace hSg0 := SlR.own hOg0
    replace hBg00 := cell_grown hBg00 hg (fun k hk => Nat.ne_of_lt (Nat.lt_of_lt_of_le (hGx0 k hk) hgsz))
    clear hOx0
    clear hSx0
    replace hZw0 := Nat.lt_of_lt_of_le hZw0 hg.size
    replace hZg0 := Nat.lt_of_lt_of_le hZg0 hg.size
    clear hOm hg
    go_wp2_with fail
    refine (eqCode_same _ _ o0 _ hSg0 hSw0).mono ?_
    rintro e W11 ⟨rfl, hb⟩
    replace hSaWeights := SlR.below hSaWeights hb
    replace hF := Fr.step hF hb
    replace hSw0 := SlR.below hSw0 hb
    replace hE := Fr.step hE hb
    replace hBw00 := cell_step hBw00 hb
    replace hZw0 := Nat.lt_of_lt_of_le hZw0 (Below.size hb)
    replace hOg0 := ownsRow_below hOg0 hb
    replace hSg0 := SlR.below hSg0 hb
    replace hBg00 := cell_step hBg00 hb
    replace hZg0 := Nat.lt_of_lt_of_le hZg0 (Below.size hb)
    clear hb
    go_wp2_with fail
    refine (markCode_any _ o0.length _ _ 1 _ _ (by omega) (by omega) (by omega) hOg0).mono ?_
    rintro e W12 ⟨rfl, hOm, hg⟩
    replace hE := hE.grown hg hOg0 hgE
    replace hF := hFE.step hE
    replace hSaWeights := SlR.fr hSaWeights_E hE
    replace hSw0 := SlR.fr hSw0_E hE
    replace hBw00 := cell_grown hBw00 hg (fun k hk => Nat.ne_of_gt (Nat.lt_of_lt_of_le hYg0 (hOg0.lt k hk).1))
    replace hBg00 := cell_grown hBg00 hg (fun k hk => Nat.ne_of_lt (hHg0 k hk))
    clear hOg0
    clear hSg0
    have hM := SlR.own hOm
    replace hZw0 := Nat.lt_of_lt_of_le hZw0 hg.size
    replace hZg0 := Nat.lt_of_lt_of_le hZg0 hg.size
    clear hOm hg
    go_wp2_with fail
    refine (heldCode_any _ o0.length 1 _ (by omega) (by omega) (by omega) hM).mono ?_
    rintro e W13 ⟨rfl, hb⟩
    replace hSaWeights := SlR.below hSaWeights hb
    replace hF := Fr.step hF hb
    replace hSw0 := SlR.below hSw0 hb
    replace hE := Fr.step hE hb
    replace hBw00 := cell_step hBw00 hb
    replace hZw0 := Nat.lt_of_lt_of_le hZw0 (Below.size hb)
    replace hBg00 := cell_step hBg00 hb
    replace hZg0 := Nat.lt_of_lt_of_le hZg0 (Below.size hb)
    replace hM := SlR.below hM hb
    clear hb
    go_wp2_with fail
    refine (toInt64S_any _ aWeights _ hSaWeights (by omega)).mono ?_
    rintro e W14 ⟨aT1, cT1, rfl, hOt1, hb⟩
    replace hSaWeights := SlR.below hSaWeights hb
    replace hF := Fr.step hF hb
    replace hSw0 := SlR.below hSw0 hb
    replace hE := Fr.step hE hb
    replace hBw00 := cell_step hBw00 hb
    replace hZw0 := Nat.lt_of_lt_of_le hZw0 (Below.size hb)
    replace hBg00 := cell_step hBg00 hb
    replace hZg0 := Nat.lt_of_lt_of_le hZg0 (Below.size hb)
    replace hM := SlR.below hM hb
    clear hb
    replace hOt1 := SlR.own hOt1
    go_wp2_with fail
    refine (impl_OrderedCode _ _ aWeights hOt1 xaWeights (by omega)).mono ?_
    rw [HO.out]
    try dsimp only
    rintro e W15 ⟨arh, crh, rfl, hOh0, hb⟩
    replace hSaWeights := SlR.below hSaWeights hb
    replace hF := Fr.step hF hb
    replace hSw0 := SlR.below hSw0 hb
    replace hE := Fr.step hE hb
    replace hBw00 := cell_step hBw00 hb
    replace hZw0 := Nat.lt_of_lt_of_le hZw0 (Below.size hb)
    replace hBg00 := cell_step hBg00 hb
    replace hZg0 := Nat.lt_of_lt_of_le hZg0 (Below.size hb)
    replace hM := SlR.below hM hb
    replace hOt1 := SlR.below hOt1 hb
    clear hb
    clear hOt1
    have hSh0 := SlR.own hOh0
    go_wp2_with fail
    have hb : Below (World.heap W15).size W15 (World.alloc W15 (.cells #[.slice arh o0.length crh] 24)) := by go_grown
    replace hSaWeights := SlR.below hSaWeights hb
    replace hF := Fr.step hF hb
    replace hSw0 := SlR.below hSw0 hb
    replace hE := Fr.step hE hb
    replace hBw00 := cell_step hBw00 hb
    replace hZw0 := Nat.lt_of_lt_of_le hZw0 (Below.size hb)
    replace hBg00 := cell_step hBg00 hb
    replace hZg0 := Nat.lt_of_lt_of_le hZg0 (Below.size hb)
    replace hM := SlR.below hM hb
    replace hOh0 := ownsRow_below hOh0 hb
    replace hSh0 := SlR.below hSh0 hb
    have hBh00 : World.cell? (World.alloc W15 (.cells #[.slice arh o0.length crh] 24)) ⟨(World.heap W15).size, 0, none⟩ = some (.slice arh o0.length crh) := by simp
    have hZh0 : (World.heap W15).size < (World.heap (World.alloc W15 (.cells #[.slice arh o0.length crh] 24))).size := by simp
    clear hb
    generalize (World.alloc W15 (.cells #[.slice arh o0.length crh] 24)) = W16 at *
    refine (eqCode_same _ _ o0 _ hSh0 hSw0).mono ?_
    rintro e W17 ⟨rfl, hb⟩
    replace hSaWeights := SlR.below hSaWeights hb
    replace hF := Fr.step hF hb
    replace hSw0 := SlR.below hSw0 hb
    replace hE := Fr.step hE hb
    replace hBw00 := cell_step hBw00 hb
    replace hZw0 := Nat.lt_of_lt_of_le hZw0 (Below.size hb)
    replace hBg00 := cell_step hBg00 hb
    replace hZg0 := Nat.lt_of_lt_of_le hZg0 (Below.size hb)
    replace hM := SlR.below hM hb
    replace hOh0 := ownsRow_below hOh0 hb
    replace hSh0 := SlR.below hSh0 hb
    replace hBh00 := cell_step hBh00 hb
    replace hZh0 := Nat.lt_of_lt_of_le hZh0 (Below.size hb)
    clear hb
    go_wp2_with fail
    refine (heldCode_any _ o0.length 1 _ (by omega) (by omega) (by omega) hM).mono ?_
    rintro e W18 ⟨rfl, hb⟩
    replace hSaWeights := SlR.below hSaWeights hb
    replace hF := Fr.step hF hb
    replace hSw0 := SlR.below hSw0 hb
    replace hE := Fr.step hE hb
    replace hBw00 := cell_step hBw00 hb
    replace hZw0 := Nat.lt_of_lt_of_le hZw0 (Below.size hb)
    replace hBg00 := cell_step hBg00 hb
    replace hZg0 := Nat.lt_of_lt_of_le hZg0 (Below.size hb)
    replace hM := SlR.below hM hb
    replace hOh0 := ownsRow_below hOh0 hb
    replace hSh0 := SlR.below hSh0 hb
    replace hBh00 := cell_step hBh00 hb
    replace hZh0 := Nat.lt_of_lt_of_le hZh0 (Below.size hb)
    clear hb
    go_wp2_with fail
    go_ret
    exact ⟨rfl, hF⟩
  · go_enter Try.func3, Try.ntmps3
    go_wp2_with fail
    have hF : Fr w w := by (show Below _ _ _); go_grown
    have hSaWeights := saWeights.fr hF
    go_ret
    exact ⟨rfl, hF⟩

end Go.Proofs.Ytcgenmkgdhaejaa
