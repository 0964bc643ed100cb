/- Complex numbers' simple functions. -/
import Derived.Test.YtimhljcebeiofaaGreatDoorPrA
import Derived.Test.YtimhljcebeiofaaGreatDoorPrX
import Derived.Test.YtimhljcebeiofaaGreatDoorCir3
namespace Go.Proofs.YtimhljcebeiofaaGreatDoor
set_option linter.unusedSimpArgs false
set_option linter.unusedVariables false
open Go.RowKit
open Ieee

set_option maxHeartbeats 400000 in
theorem conj_any (a b : Nat) (w : World) : Calls Tryz.prog 8 #[.complex .f32 a b] w fun e w' => e = .returned (.complex .f32 a (Op.negFloat .f32 b)) ∧ w = w' := by
  go_enter Tryz.func8, Tryz.ntmps8
  go_wp2
  go_ret
  exact ⟨rfl, rfl⟩

set_option maxHeartbeats 400000 in
theorem scale_any (a b c : Nat) (w : World) (h1 : (floatBits .mul .f32 a c).isSome = true) (h2 : (floatBits .mul .f32 b c).isSome = true) : Calls Tryz.prog 13 #[.complex .f32 a b, .float .f32 c] w fun e w' => e = .returned (.complex .f32 (fA .mul .f32 a c) (fA .mul .f32 b c)) ∧ w = w' := by
  go_enter Tryz.func13, Tryz.ntmps13
  go_wp2
  go_ret
  exact ⟨rfl, rfl⟩

set_option maxHeartbeats 1000000 in
theorem longOf_any (a b : Nat) (h : pwOk a b = true) (hs : (FloatKind.f64.format.sqrt (pwW a b)).isSome = true) (hd : (floatToFloatBits .f64 (sqW (pwW a b)) .f32).isSome = true) (w : World) : Calls Tryz.prog 10 #[.complex .f32 a b] w fun e w' => e = .returned (.float .f32 (dn32 (sqW (pwW a b)))) ∧ w = w' := by
  have HP := Lib.hid (power_any a b h w)
  have HS := Lib.hid (fun w => sqrt_any _ hs w)
  have k1 := dn_run _ hd
  have e1 := fun W : World => run_convert_float_float (P := Tryz.prog) W 46 28 .f64 .f32 _ _ (by rw [Tryz.underlying46]; rfl) Tryz.underlying28 k1
  clear k1 hd hs h
  generalize pwW a b = r at *
  generalize sqW r = r1 at *
  generalize dn32 r1 = r' at *
  go_enter Tryz.func10, Tryz.ntmps10
  go_wp2_with (first
    | (go_at_call 33; refine (HS.out _).mono ?_; rintro e w' ⟨rfl, rfl⟩)
    | (go_at_call 31; refine HP.out.mono ?_; rintro e w' ⟨rfl, rfl⟩))
  go_ret
  exact ⟨rfl, rfl⟩

set_option maxHeartbeats 400000 in
theorem l01Narrow_any (x : Nat) (hd : (floatToFloatBits .f64 x .f32).isSome = true) (w : World) : Calls Tryz.prog 55 #[.float .f64 x] w fun e w' => e = .returned (.float .f32 (dn32 x)) ∧ w = w' := by
  have k1 := dn_run _ hd
  have e1 := fun W : World => run_convert_float_float (P := Tryz.prog) W 46 28 .f64 .f32 _ _ (by rw [Tryz.underlying46]; rfl) Tryz.underlying28 k1
  clear k1 hd
  generalize dn32 x = r' at *
  go_enter Tryz.func55, Tryz.ntmps55
  go_wp2
  go_ret
  exact ⟨rfl, rfl⟩

set_option maxHeartbeats 1000000 in
theorem l01Sqrt_any (x : Nat) (h1 : (floatToFloatBits .f32 x .f64).isSome = true) (hs : (FloatKind.f64.format.sqrt (up64 x)).isSome = true) (hd : (floatToFloatBits .f64 (sqW (up64 x)) .f32).isSome = true) (w : World) : Calls Tryz.prog 34 #[.float .f32 x] w fun e w' => e = .returned (.float .f32 (dn32 (sqW (up64 x)))) ∧ w = w' := by
  have HS := Lib.hid (fun w => sqrt_any _ hs w)
  have k0 := up_run x h1
  have HN := Lib.hid (fun w => l01Narrow_any _ hd w)
  have e0 := fun W : World => run_convert_float_float (P := Tryz.prog) W 28 46 .f32 .f64 _ _ (by rw [Tryz.underlying28]; rfl) Tryz.underlying46 k0
  clear k0 hd hs h1
  generalize up64 x = r at *
  generalize sqW r = r1 at *
  generalize dn32 r1 = r' at *
  go_enter Tryz.func34, Tryz.ntmps34
  go_wp2_with (first
    | (go_at_call 33; refine (HS.out _).mono ?_; rintro e w' ⟨rfl, rfl⟩)
    | (go_at_call 55; refine (HN.out _).mono ?_; rintro e w' ⟨rfl, rfl⟩))
  go_ret
  exact ⟨rfl, rfl⟩

set_option maxHeartbeats 400000 in
theorem rootS_any (x : Nat) (h1 : (floatToFloatBits .f32 x .f64).isSome = true) (hs : (FloatKind.f64.format.sqrt (up64 x)).isSome = true) (hd : (floatToFloatBits .f64 (sqW (up64 x)) .f32).isSome = true) (w : World) : Calls Tryz.prog 11 #[.float .f32 x] w fun e w' => e = .returned (.float .f32 (dn32 (sqW (up64 x)))) ∧ w = w' := by
  have H := Lib.hid (l01Sqrt_any x h1 hs hd w)
  clear h1 hs hd
  generalize dn32 (sqW (up64 x)) = r at *
  go_enter Tryz.func11, Tryz.ntmps11
  go_wp2_with (go_at_call 34; refine H.out.mono ?_; rintro e w' ⟨rfl, rfl⟩)
  go_ret
  exact ⟨rfl, rfl⟩

set_option maxHeartbeats 400000 in
theorem sameS_any (x y : Nat) (w : World) (hx : x < 4294967296) (hy : y < 4294967296) : Calls Tryz.prog 9 #[.float .f32 x, .float .f32 y] w fun e w' => e = .returned (.bool (decide (cn x = cn y))) ∧ w = w' := by
  have H := Lib.hid (l01Same_any x y w hx hy)
  clear hx hy
  generalize decide (cn x = cn y) = t at *
  go_enter Tryz.func9, Tryz.ntmps9
  go_wp2_with (go_at_call 32; refine H.out.mono ?_; rintro e w' ⟨rfl, rfl⟩)
  go_ret
  exact ⟨rfl, rfl⟩

set_option maxHeartbeats 400000 in
theorem sameCS_any (a b c d : Nat) (w : World) (ha : a < 4294967296) (hb : b < 4294967296) (hc : c < 4294967296) (hd : d < 4294967296) : Calls Tryz.prog 48 #[.complex .f32 a b, .complex .f32 c d] w fun e w' => e = .returned (.bool (decide (cn a = cn c) && decide (cn b = cn d))) ∧ w = w' := by
  have H := Lib.hid (l01CSame_any a b c d w ha hb hc hd)
  clear ha hb hc hd
  generalize (decide (cn a = cn c) && decide (cn b = cn d)) = t at *
  go_enter Tryz.func48, Tryz.ntmps48
  go_wp2_with (go_at_call 63; refine H.out.mono ?_; rintro e w' ⟨rfl, rfl⟩)
  go_ret
  exact ⟨rfl, rfl⟩
/-- A quotient, narrowed. -/
def qtR (a b c d : Nat) : Nat := dn32 (fA .quo .f64 (tmR (up64 a) (up64 b) (up64 c) (Op.negFloat .f64 (up64 d))) (pwW c d))
def qtI (a b c d : Nat) : Nat := dn32 (fA .quo .f64 (tmI (up64 a) (up64 b) (up64 c) (Op.negFloat .f64 (up64 d))) (pwW c d))
structure QtOk (a b c d : Nat) : Prop where
  ha : (floatToFloatBits .f32 a .f64).isSome = true
  hb : (floatToFloatBits .f32 b .f64).isSome = true
  hc : (floatToFloatBits .f32 c .f64).isSome = true
  hd : (floatToFloatBits .f32 d .f64).isSome = true
  ht : tmOk (up64 a) (up64 b) (up64 c) (Op.negFloat .f64 (up64 d)) = true
  hp : pwOk c d = true
  hu : (floatBits .quo .f64 (tmR (up64 a) (up64 b) (up64 c) (Op.negFloat .f64 (up64 d))) (pwW c d)).isSome = true
  hv : (floatBits .quo .f64 (tmI (up64 a) (up64 b) (up64 c) (Op.negFloat .f64 (up64 d))) (pwW c d)).isSome = true
  hx : (floatToFloatBits .f64 (fA .quo .f64 (tmR (up64 a) (up64 b) (up64 c) (Op.negFloat .f64 (up64 d))) (pwW c d)) .f32).isSome = true
  hy : (floatToFloatBits .f64 (fA .quo .f64 (tmI (up64 a) (up64 b) (up64 c) (Op.negFloat .f64 (up64 d))) (pwW c d)) .f32).isSome = true

set_option maxHeartbeats 2000000 in
theorem quotient_any (a b c d : Nat) (h : QtOk a b c d) (w : World) :
    Calls Tryz.prog 12 #[.complex .f32 a b, .complex .f32 c d] w fun e w' => e = .returned (.complex .f32 (qtR a b c d) (qtI a b c d)) ∧ w = w' := by
  have H1 := Lib.hid (fun w => parts_any a b h.ha h.hb w)
  have H2 := Lib.hid (fun w => parts_any c d h.hc h.hd w)
  have HT := Lib.hid (fun w => times_any _ _ _ _ h.ht w)
  have HP := Lib.hid (fun w => power_any c d h.hp w)
  have hu := h.hu
  have hv := h.hv
  have k1 := dn_run _ h.hx
  have k2 := dn_run _ h.hy
  have e1 := fun W : World => run_convert_float_float (P := Tryz.prog) W 46 28 .f64 .f32 _ _ (by rw [Tryz.underlying46]; rfl) Tryz.underlying28 k1
  have e2 := fun W : World => run_convert_float_float (P := Tryz.prog) W 46 28 .f64 .f32 _ _ (by rw [Tryz.underlying46]; rfl) Tryz.underlying28 k2
  have g1 : dn32 (fA .quo .f64 (tmR (up64 a) (up64 b) (up64 c) (Op.negFloat .f64 (up64 d))) (pwW c d)) = qtR a b c d := rfl
  have g2 : dn32 (fA .quo .f64 (tmI (up64 a) (up64 b) (up64 c) (Op.negFloat .f64 (up64 d))) (pwW c d)) = qtI a b c d := rfl
  clear k1 k2 h
  rw [g1] at e1
  rw [g2] at e2
  clear g1 g2
  generalize qtR a b c d = r at *
  generalize qtI a b c d = i at *
  generalize pwW c d = p at *
  generalize hD : up64 d = D at *
  generalize tmR (up64 a) (up64 b) (up64 c) (Op.negFloat .f64 D) = u at *
  generalize tmI (up64 a) (up64 b) (up64 c) (Op.negFloat .f64 D) = v at *
  clear hD
  generalize up64 a = A at *
  generalize up64 b = B at *
  generalize up64 c = C at *
  go_enter Tryz.func12, Tryz.ntmps12
  go_wp2_with (first
    | (go_at_call 29; with_reducible refine (H2.out _).mono ?_; rintro e w' ⟨rfl, rfl⟩)
    | (go_at_call 29; with_reducible refine (H1.out _).mono ?_; rintro e w' ⟨rfl, rfl⟩)
    | (go_at_call 30; refine (HT.out _).mono ?_; rintro e w' ⟨rfl, rfl⟩)
    | (go_at_call 31; refine (HP.out _).mono ?_; rintro e w' ⟨rfl, rfl⟩))
  go_ret
  exact ⟨rfl, rfl⟩

end Go.Proofs.YtimhljcebeiofaaGreatDoor
