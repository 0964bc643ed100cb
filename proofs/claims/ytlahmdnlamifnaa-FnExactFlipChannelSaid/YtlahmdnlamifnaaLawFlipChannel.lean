/- The walk of the law FnExactFlipChannel, out of the contracts of what it calls. -/
import Derived.Test.YtlahmdnlamifnaaLff
import Derived.Deep.RegionHeld3
import Derived.Test.YtlahmdnlamifnaaHrg
namespace Go.Proofs.Ytlahmdnlamifnaa
set_option linter.unusedSimpArgs false
set_option linter.unusedVariables false
open Go.RowKit

set_option maxHeartbeats 4000000 in
theorem law_FlipChannel (w : World) (aLetters : Int) (haLetters : I64 aLetters) (aWrong : Nat) (haWrong : aWrong < 4294967296) :
    Calls Try.prog 5 #[.int .i64 aLetters, .float .f32 aWrong] w fun e w' => e = .returned (.bool true) ∧ Below w.heap.size w w' := by
  go_enter Try.func5, Try.ntmps5
  go_wp2_with fail
  have hF : Fr w w := by (show Below _ _ _); go_grown
  generalize hO : out_FlipChannel aLetters aWrong = o
  obtain ⟨oi0, oj0, o0, o1⟩ := o
  have HO := Lib.hid hO
  have HOl : o0.length ≤ 1048576 := by have h := len_FlipChannel aLetters haLetters aWrong haWrong; rw [hO] at h; exact h
  clear hO
  refine (spec_FlipChannel _ aLetters haLetters aWrong haWrong).mono ?_
  rw [HO.out]
  try dsimp only
  rintro e W1 ⟨arw, crw, rfl, hSw0, hb⟩
  replace hF := Fr.step hF hb
  clear hb
  have hE := Fr.refl W1
  have hFE := hF
  have hSw0_E := hSw0
  go_wp2_with fail
  have hb : Below (World.heap W1).size W1 (World.alloc W1 (.cells #[.int .i64 oi0, .int .i64 oj0, .slice arw o0.length crw] 25)) := by go_grown
  replace hF := Fr.step hF hb
  replace hSw0 := SlR.below hSw0 hb
  replace hE := Fr.step hE hb
  have hBw00 : World.cell? (World.alloc W1 (.cells #[.int .i64 oi0, .int .i64 oj0, .slice arw o0.length crw] 25)) ⟨(World.heap W1).size, 0, none⟩ = some (.int .i64 oi0) := by simp
  have hBw01 : World.cell? (World.alloc W1 (.cells #[.int .i64 oi0, .int .i64 oj0, .slice arw o0.length crw] 25)) ⟨(World.heap W1).size, 1, none⟩ = some (.int .i64 oj0) := by simp
  have hBw02 : World.cell? (World.alloc W1 (.cells #[.int .i64 oi0, .int .i64 oj0, .slice arw o0.length crw] 25)) ⟨(World.heap W1).size, 2, none⟩ = some (.slice arw o0.length crw) := by simp
  have hZw0 : (World.heap W1).size < (World.heap (World.alloc W1 (.cells #[.int .i64 oi0, .int .i64 oj0, .slice arw o0.length crw] 25))).size := by simp
  clear hb
  generalize (World.alloc W1 (.cells #[.int .i64 oi0, .int .i64 oj0, .slice arw o0.length crw] 25)) = W2 at *
  have hgE := Below.size hE
  have hYg0 := hZw0
  refine (impl_FlipChannel _ aLetters haLetters aWrong haWrong).mono ?_
  rw [HO.out]
  try dsimp only
  rintro e W3 ⟨arg, crg, rfl, hOg0, hb⟩
  replace hF := Fr.step hF hb
  replace hSw0 := SlR.below hSw0 hb
  replace hE := Fr.step hE hb
  replace hBw00 := cell_step hBw00 hb
  replace hBw01 := cell_step hBw01 hb
  replace hBw02 := cell_step hBw02 hb
  replace hZw0 := Nat.lt_of_lt_of_le hZw0 (Below.size hb)
  have hgsz := Below.size hb
  clear hb
  have hSg0 := SlR.own hOg0
  have hHg0 : ∀ k, Value.ownBlock (.slice arg o0.length crg) = some k → k < (World.heap W3).size := fun k hk => (hOg0.lt k hk).2
  go_wp2_with fail
  have hb : Below (World.heap W3).size W3 (World.alloc W3 (.cells #[.int .i64 oi0, .int .i64 oj0, .slice arg o0.length crg] 25)) := by go_grown
  replace hF := Fr.step hF hb
  replace hSw0 := SlR.below hSw0 hb
  replace hE := Fr.step hE hb
  replace hBw00 := cell_step hBw00 hb
  replace hBw01 := cell_step hBw01 hb
  replace hBw02 := cell_step hBw02 hb
  replace hZw0 := Nat.lt_of_lt_of_le hZw0 (Below.size hb)
  replace hOg0 := ownsRow_below hOg0 hb
  replace hSg0 := SlR.below hSg0 hb
  have hBg00 : World.cell? (World.alloc W3 (.cells #[.int .i64 oi0, .int .i64 oj0, .slice arg o0.length crg] 25)) ⟨(World.heap W3).size, 0, none⟩ = some (.int .i64 oi0) := by simp
  have hBg01 : World.cell? (World.alloc W3 (.cells #[.int .i64 oi0, .int .i64 oj0, .slice arg o0.length crg] 25)) ⟨(World.heap W3).size, 1, none⟩ = some (.int .i64 oj0) := by simp
  have hBg02 : World.cell? (World.alloc W3 (.cells #[.int .i64 oi0, .int .i64 oj0, .slice arg o0.length crg] 25)) ⟨(World.heap W3).size, 2, none⟩ = some (.slice arg o0.length crg) := by simp
  have hZg0 : (World.heap W3).size < (World.heap (World.alloc W3 (.cells #[.int .i64 oi0, .int .i64 oj0, .slice arg o0.length crg] 25))).size := by simp
  clear hb
  generalize (World.alloc W3 (.cells #[.int .i64 oi0, .int .i64 oj0, .slice arg o0.length crg] 25)) = W4 at *
  refine (eqChannel_same oi0 oj0 _ _ o0 _ hSg0 hSw0).mono ?_
  rintro e W5 ⟨rfl, hb⟩
  replace hF := Fr.step hF hb
  replace hSw0 := SlR.below hSw0 hb
  replace hE := Fr.step hE hb
  replace hBw00 := cell_step hBw00 hb
  replace hBw01 := cell_step hBw01 hb
  replace hBw02 := cell_step hBw02 hb
  replace hZw0 := Nat.lt_of_lt_of_le hZw0 (Below.size hb)
  replace hOg0 := ownsRow_below hOg0 hb
  replace hSg0 := SlR.below hSg0 hb
  replace hBg00 := cell_step hBg00 hb
  replace hBg01 := cell_step hBg01 hb
  replace hBg02 := cell_step hBg02 hb
  replace hZg0 := Nat.lt_of_lt_of_le hZg0 (Below.size hb)
  clear hb
  go_wp2_with fail
  refine (markChannel_any oi0 oj0 _ o0.length _ _ 1 _ _ (by omega) (by omega) (by omega) hOg0).mono ?_
  rintro e W6 ⟨rfl, hOm, hg⟩
  replace hE := hE.grown hg hOg0 hgE
  replace hF := hFE.step hE
  replace hSw0 := SlR.fr hSw0_E hE
  replace hBw00 := cell_grown hBw00 hg (fun k hk => Nat.ne_of_gt (Nat.lt_of_lt_of_le hYg0 (hOg0.lt k hk).1))
  replace hBw01 := cell_grown hBw01 hg (fun k hk => Nat.ne_of_gt (Nat.lt_of_lt_of_le hYg0 (hOg0.lt k hk).1))
  replace hBw02 := cell_grown hBw02 hg (fun k hk => Nat.ne_of_gt (Nat.lt_of_lt_of_le hYg0 (hOg0.lt k hk).1))
  replace hBg00 := cell_grown hBg00 hg (fun k hk => Nat.ne_of_lt (hHg0 k hk))
  replace hBg01 := cell_grown hBg01 hg (fun k hk => Nat.ne_of_lt (hHg0 k hk))
  replace hBg02 := cell_grown hBg02 hg (fun k hk => Nat.ne_of_lt (hHg0 k hk))
  clear hOg0
  clear hSg0
  have hM := SlR.own hOm
  replace hZw0 := Nat.lt_of_lt_of_le hZw0 hg.size
  replace hZg0 := Nat.lt_of_lt_of_le hZg0 hg.size
  clear hOm hg
  go_wp2_with fail
  refine (heldChannel_any oi0 oj0 _ o0.length 1 _ (by omega) (by omega) (by omega) hM).mono ?_
  rintro e W7 ⟨rfl, hb⟩
  replace hF := Fr.step hF hb
  replace hSw0 := SlR.below hSw0 hb
  replace hE := Fr.step hE hb
  replace hBw00 := cell_step hBw00 hb
  replace hBw01 := cell_step hBw01 hb
  replace hBw02 := cell_step hBw02 hb
  replace hZw0 := Nat.lt_of_lt_of_le hZw0 (Below.size hb)
  replace hBg00 := cell_step hBg00 hb
  replace hBg01 := cell_step hBg01 hb
  replace hBg02 := cell_step hBg02 hb
  replace hZg0 := Nat.lt_of_lt_of_le hZg0 (Below.size hb)
  replace hM := SlR.below hM hb
  clear hb
  go_wp2_with fail
  refine (impl_FlipChannel _ aLetters haLetters aWrong haWrong).mono ?_
  rw [HO.out]
  try dsimp only
  rintro e W8 ⟨arh, crh, rfl, hOh0, hb⟩
  replace hF := Fr.step hF hb
  replace hSw0 := SlR.below hSw0 hb
  replace hE := Fr.step hE hb
  replace hBw00 := cell_step hBw00 hb
  replace hBw01 := cell_step hBw01 hb
  replace hBw02 := cell_step hBw02 hb
  replace hZw0 := Nat.lt_of_lt_of_le hZw0 (Below.size hb)
  replace hBg00 := cell_step hBg00 hb
  replace hBg01 := cell_step hBg01 hb
  replace hBg02 := cell_step hBg02 hb
  replace hZg0 := Nat.lt_of_lt_of_le hZg0 (Below.size hb)
  replace hM := SlR.below hM hb
  clear hb
  have hSh0 := SlR.own hOh0
  go_wp2_with fail
  have hb : Below (World.heap W8).size W8 (World.alloc W8 (.cells #[.int .i64 oi0, .int .i64 oj0, .slice arh o0.length crh] 25)) := by go_grown
  replace hF := Fr.step hF hb
  replace hSw0 := SlR.below hSw0 hb
  replace hE := Fr.step hE hb
  replace hBw00 := cell_step hBw00 hb
  replace hBw01 := cell_step hBw01 hb
  replace hBw02 := cell_step hBw02 hb
  replace hZw0 := Nat.lt_of_lt_of_le hZw0 (Below.size hb)
  replace hBg00 := cell_step hBg00 hb
  replace hBg01 := cell_step hBg01 hb
  replace hBg02 := cell_step hBg02 hb
  replace hZg0 := Nat.lt_of_lt_of_le hZg0 (Below.size hb)
  replace hM := SlR.below hM hb
  replace hOh0 := ownsRow_below hOh0 hb
  replace hSh0 := SlR.below hSh0 hb
  have hBh00 : World.cell? (World.alloc W8 (.cells #[.int .i64 oi0, .int .i64 oj0, .slice arh o0.length crh] 25)) ⟨(World.heap W8).size, 0, none⟩ = some (.int .i64 oi0) := by simp
  have hBh01 : World.cell? (World.alloc W8 (.cells #[.int .i64 oi0, .int .i64 oj0, .slice arh o0.length crh] 25)) ⟨(World.heap W8).size, 1, none⟩ = some (.int .i64 oj0) := by simp
  have hBh02 : World.cell? (World.alloc W8 (.cells #[.int .i64 oi0, .int .i64 oj0, .slice arh o0.length crh] 25)) ⟨(World.heap W8).size, 2, none⟩ = some (.slice arh o0.length crh) := by simp
  have hZh0 : (World.heap W8).size < (World.heap (World.alloc W8 (.cells #[.int .i64 oi0, .int .i64 oj0, .slice arh o0.length crh] 25))).size := by simp
  clear hb
  generalize (World.alloc W8 (.cells #[.int .i64 oi0, .int .i64 oj0, .slice arh o0.length crh] 25)) = W9 at *
  refine (eqChannel_same oi0 oj0 _ _ o0 _ hSh0 hSw0).mono ?_
  rintro e W10 ⟨rfl, hb⟩
  replace hF := Fr.step hF hb
  replace hSw0 := SlR.below hSw0 hb
  replace hE := Fr.step hE hb
  replace hBw00 := cell_step hBw00 hb
  replace hBw01 := cell_step hBw01 hb
  replace hBw02 := cell_step hBw02 hb
  replace hZw0 := Nat.lt_of_lt_of_le hZw0 (Below.size hb)
  replace hBg00 := cell_step hBg00 hb
  replace hBg01 := cell_step hBg01 hb
  replace hBg02 := cell_step hBg02 hb
  replace hZg0 := Nat.lt_of_lt_of_le hZg0 (Below.size hb)
  replace hM := SlR.below hM hb
  replace hOh0 := ownsRow_below hOh0 hb
  replace hSh0 := SlR.below hSh0 hb
  replace hBh00 := cell_step hBh00 hb
  replace hBh01 := cell_step hBh01 hb
  replace hBh02 := cell_step hBh02 hb
  replace hZh0 := Nat.lt_of_lt_of_le hZh0 (Below.size hb)
  clear hb
  go_wp2_with fail
  refine (heldChannel_any oi0 oj0 _ o0.length 1 _ (by omega) (by omega) (by omega) hM).mono ?_
  rintro e W11 ⟨rfl, hb⟩
  replace hF := Fr.step hF hb
  replace hSw0 := SlR.below hSw0 hb
  replace hE := Fr.step hE hb
  replace hBw00 := cell_step hBw00 hb
  replace hBw01 := cell_step hBw01 hb
  replace hBw02 := cell_step hBw02 hb
  replace hZw0 := Nat.lt_of_lt_of_le hZw0 (Below.size hb)
  replace hBg00 := cell_step hBg00 hb
  replace hBg01 := cell_step hBg01 hb
  replace hBg02 := cell_step hBg02 hb
  replace hZg0 := Nat.lt_of_lt_of_le hZg0 (Below.size hb)
  replace hM := SlR.below hM hb
  replace hOh0 := ownsRow_below hOh0 hb
  replace hSh0 := SlR.below hSh0 hb
  replace hBh00 := cell_step hBh00 hb
  replace hBh01 := cell_step hBh01 hb
  replace hBh02 := cell_step hBh02 hb
  replace hZh0 := Nat.lt_of_lt_of_le hZh0 (Below.size hb)
  clear hb
  go_wp2_with fail
  go_ret
  exact ⟨rfl, hF⟩

end Go.Proofs.Ytlahmdnlamifnaa
