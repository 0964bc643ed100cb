/- The walk of the law FnExactTestErrors, out of the contracts of what it calls. -/
import Derived.Test.YtjobgobeiiakgaaTe6
import Derived.Deep.RegionHeld3
import Derived.Test.YtjobgobeiiakgaaHrg
namespace Go.Proofs.Ytjobgobeiiakgaa
set_option linter.unusedSimpArgs false
set_option linter.unusedVariables false
open Go.RowKit

set_option maxHeartbeats 4000000 in
theorem law_TestErrors (w : World) (aaA : Option Addr) (caA : Nat) (aA : List Nat) (maA : aA.length ≤ caA ∧ caA ≤ 9223372036854775807) (saA : SlR w (.slice aaA aA.length caA) (aA.map (Value.float .f32))) (xaA : ∀ x ∈ aA, x < 4294967296) (aaB : Option Addr) (caB : Nat) (aB : List Nat) (maB : aB.length ≤ caB ∧ caB ≤ 9223372036854775807) (saB : SlR w (.slice aaB aB.length caB) (aB.map (Value.float .f32))) (xaB : ∀ x ∈ aB, x < 4294967296) (aN : Int) (haN : I64 aN) (aBar : Nat) (haBar : aBar < 4294967296) :
    Calls Try.prog 6 #[.slice aaA aA.length caA, .slice aaB aB.length caB, .int .i64 aN, .float .f32 aBar] w fun e w' => e = .returned (.bool true) ∧ Below w.heap.size w w' := by
  by_cases z0 : aA.length ≤ 1048576
  · by_cases z1 : aB.length ≤ 1048576
    · go_enter Try.func6, Try.ntmps6
      go_wp2_with fail
      have hF : Fr w w := by (show Below _ _ _); go_grown
      have hSaA := saA.fr hF
      have hSaB := saB.fr hF
      generalize hO : out_TestErrors aA aB aN aBar = o
      obtain ⟨o0, o1, o2⟩ := o
      have HO := Lib.hid hO
      have HN0 : nanB o0 = false := by have h := nan0_TestErrors aA xaA (by omega) aB xaB (by omega) aN haN aBar haBar; rw [hO] at h; exact h
      have HN1 : nanB o1 = false := by have h := nan1_TestErrors aA xaA (by omega) aB xaB (by omega) aN haN aBar haBar; rw [hO] at h; exact h
      clear hO
      obtain ⟨fr0, hfr0, -⟩ := conv_up_some HN0
      have HCV0 : Hid (∀ W : World, (convert 33 37 (.float .f32 o0)).run Try.prog W = .ok (.float .f64 fr0) W) := by show ∀ W : World, _; exact fun W => run_convert_float_float W _ _ .f32 .f64 o0 fr0 (by rw [Try.underlying33]; rfl) Try.underlying37 hfr0
      clear HN0 hfr0
      obtain ⟨fr1, hfr1, -⟩ := conv_up_some HN1
      have HCV1 : Hid (∀ W : World, (convert 33 37 (.float .f32 o1)).run Try.prog W = .ok (.float .f64 fr1) W) := by show ∀ W : World, _; exact fun W => run_convert_float_float W _ _ .f32 .f64 o1 fr1 (by rw [Try.underlying33]; rfl) Try.underlying37 hfr1
      clear HN1 hfr1
      refine (toFloat32S_any _ aA _ hSaA (by omega)).mono ?_
      rintro e W1 ⟨aT1, cT1, rfl, hOt1, hb⟩
      replace hSaA := SlR.below hSaA hb
      replace hSaB := SlR.below hSaB hb
      replace hF := Fr.step hF hb
      clear hb
      replace hOt1 := SlR.own hOt1
      go_wp2_with fail
      refine (toFloat32S_any _ aB _ hSaB (by omega)).mono ?_
      rintro e W2 ⟨aT2, cT2, rfl, hOt2, hb⟩
      replace hSaA := SlR.below hSaA hb
      replace hSaB := SlR.below hSaB hb
      replace hF := Fr.step hF hb
      replace hOt1 := SlR.below hOt1 hb
      clear hb
      replace hOt2 := SlR.own hOt2
      go_wp2_with fail
      refine (spec_TestErrors _ _ aA hOt1 xaA (by omega) _ aB hOt2 xaB (by omega) aN haN aBar haBar).mono ?_
      rw [HO.out]
      try dsimp only
      rintro e W3 ⟨rfl, hb⟩
      replace hSaA := SlR.below hSaA hb
      replace hSaB := SlR.below hSaB hb
      replace hF := Fr.step hF hb
      replace hOt1 := SlR.below hOt1 hb
      replace hOt2 := SlR.below hOt2 hb
      clear hb
      clear hOt1
      clear hOt2
      have hE := Fr.refl W3
      have hFE := hF
      have hSaA_E := hSaA
      have hSaB_E := hSaB
      go_wp2_with fail
      have hLx0 := Below.size hE
      refine (toFloat32S_any _ aA _ hSaA (by omega)).mono ?_
      rintro e W4 ⟨ax0, cx0, rfl, hOx0, hb⟩
      replace hSaA := SlR.below hSaA hb
      replace hSaB := SlR.below hSaB hb
      replace hF := Fr.step hF hb
      replace hE := Fr.step hE hb
      clear hb
      have hSx0 := SlR.own hOx0
      have hHx0 : ∀ k, Value.ownBlock (.slice ax0 aA.length cx0) = some k → k < (World.heap W4).size := fun k hk => (hOx0.lt k hk).2
      go_wp2_with fail
      have hKx0x1 : ∀ k, Value.ownBlock (.slice ax0 aA.length cx0) = some k → k < (World.heap W4).size := fun k hk => (hOx0.lt k hk).2
      have hLx1 := Below.size hE
      refine (toFloat32S_any _ aB _ hSaB (by omega)).mono ?_
      rintro e W5 ⟨ax1, cx1, rfl, hOx1, hb⟩
      replace hSaA := SlR.below hSaA hb
      replace hSaB := SlR.below hSaB hb
      replace hF := Fr.step hF hb
      replace hE := Fr.step hE hb
      replace hOx0 := ownsRow_below hOx0 hb
      replace hSx0 := SlR.below hSx0 hb
      clear hb
      have hSx1 := SlR.own hOx1
      have hHx1 : ∀ k, Value.ownBlock (.slice ax1 aB.length cx1) = some k → k < (World.heap W5).size := fun k hk => (hOx1.lt k hk).2
      go_wp2_with fail
      refine (impl_TestErrors _ _ aA hSx0 xaA (by omega) _ aB hSx1 xaB (by omega) aN haN aBar haBar).mono ?_
      rw [HO.out]
      try dsimp only
      rintro e W6 ⟨rfl, hb⟩
      replace hSaA := SlR.below hSaA hb
      replace hSaB := SlR.below hSaB hb
      replace hF := Fr.step hF hb
      replace hE := Fr.step hE hb
      replace hOx0 := ownsRow_below hOx0 hb
      replace hSx0 := SlR.below hSx0 hb
      replace hOx1 := ownsRow_below hOx1 hb
      replace hSx1 := SlR.below hSx1 hb
      clear hb
      have hcv0 := HCV0.out
      have hcv1 := HCV1.out
      go_wp2_with fail
      refine (sameFloat_self _ _).mono ?_
      rintro e W7 ⟨rfl, hq⟩
      have hb := hq.below (World.heap W6).size
      replace hSaA := SlR.below hSaA hb
      replace hSaB := SlR.below hSaB hb
      replace hF := Fr.step hF hb
      replace hE := Fr.step hE hb
      replace hOx0 := ownsRow_below hOx0 hb
      replace hSx0 := SlR.below hSx0 hb
      replace hOx1 := ownsRow_below hOx1 hb
      replace hSx1 := SlR.below hSx1 hb
      clear hb hq
      go_wp2_with fail
      refine (sameFloat_self _ _).mono ?_
      rintro e W8 ⟨rfl, hq⟩
      have hb := hq.below (World.heap W7).size
      replace hSaA := SlR.below hSaA hb
      replace hSaB := SlR.below hSaB hb
      replace hF := Fr.step hF hb
      replace hE := Fr.step hE hb
      replace hOx0 := ownsRow_below hOx0 hb
      replace hSx0 := SlR.below hSx0 hb
      replace hOx1 := ownsRow_below hOx1 hb
      replace hSx1 := SlR.below hSx1 hb
      clear hb hq
      go_wp2_with fail
      refine (toFloat32S_any _ aA _ hSaA (by omega)).mono ?_
      rintro e W9 ⟨aT, cT, rfl, hOt, hb⟩
      replace hSaA := SlR.below hSaA hb
      replace hSaB := SlR.below hSaB hb
      replace hF := Fr.step hF hb
      replace hE := Fr.step hE hb
      replace hOx0 := ownsRow_below hOx0 hb
      replace hSx0 := SlR.below hSx0 hb
      replace hOx1 := ownsRow_below hOx1 hb
      replace hSx1 := SlR.below hSx1 hb
      clear hb
      replace hOt := SlR.own hOt
      go_wp2_with fail
      refine (eqFloat32S_same _ _ aA _ hSx0 hOt).mono ?_
      rintro e W10 ⟨rfl, hq⟩
      have hb := hq.below (World.heap W9).size
      replace hSaA := SlR.below hSaA hb
      replace hSaB := SlR.below hSaB hb
      replace hF := Fr.step hF hb
      replace hE := Fr.step hE hb
      replace hOx0 := ownsRow_below hOx0 hb
      replace hSx0 := SlR.below hSx0 hb
      replace hOx1 := ownsRow_below hOx1 hb
      replace hSx1 := SlR.below hSx1 hb
      clear hb hq
      clear hOt
      go_wp2_with fail
      refine (toFloat32S_any _ aB _ hSaB (by omega)).mono ?_
      rintro e W11 ⟨aT, cT, rfl, hOt, hb⟩
      replace hSaA := SlR.below hSaA hb
      replace hSaB := SlR.below hSaB hb
      replace hF := Fr.step hF hb
      replace hE := Fr.step hE hb
      replace hOx0 := ownsRow_below hOx0 hb
      replace hSx0 := SlR.below hSx0 hb
      replace hOx1 := ownsRow_below hOx1 hb
      replace hSx1 := SlR.below hSx1 hb
      clear hb
      replace hOt := SlR.own hOt
      go_wp2_with fail
      refine (eqFloat32S_same _ _ aB _ hSx1 hOt).mono ?_
      rintro e W12 ⟨rfl, hq⟩
      have hb := hq.below (World.heap W11).size
      replace hSaA := SlR.below hSaA hb
      replace hSaB := SlR.below hSaB hb
      replace hF := Fr.step hF hb
      replace hE := Fr.step hE hb
      replace hOx0 := ownsRow_below hOx0 hb
      replace hSx0 := SlR.below hSx0 hb
      replace hOx1 := ownsRow_below hOx1 hb
      replace hSx1 := SlR.below hSx1 hb
      clear hb hq
      clear hOt
      go_wp2_with fail
      go_ret
      exact ⟨rfl, hF⟩
    · go_enter Try.func6, Try.ntmps6
      go_wp2_with fail
      have hF : Fr w w := by (show Below _ _ _); go_grown
      have hSaA := saA.fr hF
      have hSaB := saB.fr hF
      go_ret
      exact ⟨rfl, hF⟩
  · go_enter Try.func6, Try.ntmps6
    go_wp2_with fail
    have hF : Fr w w := by (show Below _ _ _); go_grown
    have hSaA := saA.fr hF
    have hSaB := saB.fr hF
    go_ret
    exact ⟨rfl, hF⟩

end Go.Proofs.Ytjobgobeiiakgaa
