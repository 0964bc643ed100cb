/- Surprise codes: what a chance tells, and how long its word is. -/
import Derived.Test.YtmhffnbneaggiaaEnt
import Derived.Test.YtmhffnbneaggiaaHrc
import Derived.Test.YtmhffnbneaggiaaCtr1
namespace Go.Proofs.Ytmhffnbneaggiaa
set_option linter.unusedSimpArgs false
set_option linter.unusedVariables false
open Go.RowKit

/-- What a chance tells. -/
def suF (x : Nat) : Nat := fA .sub .f32 0 (enB x)
theorem suF_bd {x : Nat} (h0 : 0 < x) (hx : x < 2139095040) : (floatBits .sub .f32 0 (enB x)).isSome = true ∧ Bd .f32 17 (suF x) := by
  obtain ⟨a, b, _⟩ := bd_sub (Bd.of (show rg Ieee.single 0 ≤ WK .f32 16 by decide) : Bd .f32 16 0) (enB_bd h0 hx).2 (by decide)
  exact ⟨a, b⟩
theorem suF_fin {x : Nat} (h0 : 0 < x) (hx : x < 2139095040) : finB (suF x) = true := by
  have h := (suF_bd h0 hx).2.fnt (by decide)
  unfold Fnt at h
  exact decide_eq_true h
def su (x : Nat) : Nat × Bool := if 0 < x ∧ x ≤ 1065353216 then (suF x, true) else (0, false)
theorem su_no {x : Nat} (h : ¬ (0 < x ∧ x ≤ 1065353216)) : su x = (0, false) := by unfold su; rw [if_neg h]
theorem su_yes {x : Nat} (h : 0 < x ∧ x ≤ 1065353216) : su x = (suF x, true) := by unfold su; rw [if_pos h]
theorem su_fz {x : Nat} (h : 0 < x ∧ x ≤ 1065353216) : fz (suF x) = suF x := by unfold fz; rw [suF_fin h.1 (by omega), if_pos rfl]

set_option maxHeartbeats 1000000 in
theorem implSurpriseOf_any (x : Nat) (w : World) (hx : Ch x) :
    Calls Try.prog 74 #[.float .f32 x] w fun e w' => e = .returned (.tuple #[.float .f32 (su x).1, .bool (su x).2]) ∧ Qu w w' := by
  have ho := order_p0 hx.pn
  by_cases hz : x % 2147483648 = 0
  · rw [if_pos hz] at ho
    replace ho : FloatKind.f32.format.order x 0 = some .eq := ho
    rw [su_no (by unfold Ch at hx; omega)]
    clear hx hz
    go_enter Try.func74, Try.ntmps74
    go_wp2
    go_ret2
    exact ⟨rfl, Qu.refl _⟩
  · rw [if_neg hz] at ho
    replace ho : FloatKind.f32.format.order x 0 = some .gt := ho
    have h0 : 0 < x ∧ x < 2139095040 := by unfold Ch at hx; omega
    have hl : (FloatKind.f32.format.order x 1065353216 == some .lt || FloatKind.f32.format.order x 1065353216 == some .eq) = decide (x ≤ 1065353216) := leq_pp (by omega) (by omega)
    by_cases h1 : x ≤ 1065353216
    · rw [decide_eq_true h1] at hl
      rw [su_yes ⟨h0.1, h1⟩]
      have hs := suF_bd h0.1 h0.2
      have hrun := fun W : World => run_fA (P := Try.prog) (w := W) .sub 97 .f32 _ _ hs.1
      have hz2 := su_fz ⟨h0.1, h1⟩
      have hf := suF_fin h0.1 h0.2
      have HS : Hid (∀ w, Calls Try.prog 93 #[.float .f32 (suF x)] w fun e w' => e = .returned (.tuple #[.float .f32 (suF x), .bool true]) ∧ Qu w w') := by
        show ∀ w, _
        intro w
        have h := asNumber_any (suF x) w
        rw [hz2, hf] at h
        exact h
      have H0 := Lib.hid h0
      rw [show fA .sub .f32 0 (enB x) = suF x from rfl] at hrun
      clear hs hz2 hf hz hx h0 h1
      generalize suF x = s at *
      go_enter Try.func74, Try.ntmps74
      go_wp2_with (first | (go_at_call 94; refine (bitsOf_any _ _ H0.out.1 H0.out.2).mono ?_; rintro e w1 ⟨rfl, hq1⟩) | (go_at_call 93; refine (HS.out _).mono ?_; rintro e w2 ⟨rfl, hq2⟩))
      go_ret2
      exact ⟨rfl, hq1.trans hq2⟩
    · rw [decide_eq_false h1] at hl
      rw [su_no (by omega)]
      clear hx hz h0 h1
      go_enter Try.func74, Try.ntmps74
      go_wp2
      go_ret2
      exact ⟨rfl, Qu.refl _⟩

set_option maxHeartbeats 1000000 in
theorem specSurpriseOf_any (x : Nat) (w : World) (hx : Ch x) :
    Calls Try.prog 72 #[.float .f32 x] w fun e w' => e = .returned (.tuple #[.float .f32 (su x).1, .bool (su x).2]) ∧ Qu w w' := by
  have ho := order_p0 hx.pn
  have hx4 : x < 4294967296 := by unfold Ch at hx; omega
  by_cases hz : x % 2147483648 = 0
  · rw [if_pos hz] at ho
    replace ho : FloatKind.f32.format.order x 0 = some .eq := ho
    rw [su_no (by unfold Ch at hx; omega)]
    have HX := Lib.hid hx4
    have HD : Hid (decide (x ≤ 1065353216 ∨ x = 2147483648) = true) := decide_eq_true (by unfold Ch at hx; omega)
    clear hx hz hx4
    go_enter Try.func72, Try.ntmps72
    go_wp2_with (go_at_call 89; refine (l02Share_any _ _ HX.out).mono ?_; rw [HD.out]; rintro e w' ⟨rfl, rfl⟩)
    go_ret2
    exact ⟨rfl, Qu.refl _⟩
  · rw [if_neg hz] at ho
    replace ho : FloatKind.f32.format.order x 0 = some .gt := ho
    have h0 : 0 < x ∧ x < 2139095040 := by unfold Ch at hx; omega
    have HX := Lib.hid hx4
    by_cases h1 : x ≤ 1065353216
    · have HD : Hid (decide (x ≤ 1065353216 ∨ x = 2147483648) = true) := decide_eq_true (.inl h1)
      rw [su_yes ⟨h0.1, h1⟩]
      have hs := suF_bd h0.1 h0.2
      have hrun := fun W : World => run_fA (P := Try.prog) (w := W) .sub 97 .f32 _ _ hs.1
      have hz2 := su_fz ⟨h0.1, h1⟩
      have hf := suF_fin h0.1 h0.2
      have HS : Hid (∀ w, Calls Try.prog 90 #[.float .f32 (suF x)] w fun e w' => e = .returned (.tuple #[.float .f32 (suF x), .bool true]) ∧ Qu w w') := by
        show ∀ w, _
        intro w
        have h := l02Number_any (suF x) w
        rw [hz2, hf] at h
        exact h
      have H0 := Lib.hid h0
      rw [show fA .sub .f32 0 (enB x) = suF x from rfl] at hrun
      clear hs hz2 hf hz hx hx4 h0 h1
      generalize suF x = s at *
      go_enter Try.func72, Try.ntmps72
      go_wp2_with (first | (go_at_call 91; refine (l02Bits_any _ _ H0.out.1 H0.out.2).mono ?_; rintro e w1 ⟨rfl, hq1⟩) | (go_at_call 90; refine (HS.out _).mono ?_; rintro e w2 ⟨rfl, hq2⟩) | (go_at_call 89; refine (l02Share_any _ _ HX.out).mono ?_; rw [HD.out]; rintro e w' ⟨rfl, rfl⟩))
      go_ret2
      exact ⟨rfl, hq1.trans hq2⟩
    · have HD : Hid (decide (x ≤ 1065353216 ∨ x = 2147483648) = false) := decide_eq_false (by omega)
      rw [su_no (by omega)]
      clear hx hx4 hz h0 h1
      go_enter Try.func72, Try.ntmps72
      go_wp2_with (go_at_call 89; refine (l02Share_any _ _ HX.out).mono ?_; rw [HD.out]; rintro e w' ⟨rfl, rfl⟩)
      go_ret2
      exact ⟨rfl, Qu.refl _⟩

end Go.Proofs.Ytmhffnbneaggiaa
