/- Circles: products, powers, angles. -/
import Derived.Test.YtimhljcebeiofaaGreatDoorCir2
namespace Go.Proofs.YtimhljcebeiofaaGreatDoor
set_option linter.unusedSimpArgs false
set_option linter.unusedVariables false
open Go.RowKit
open Ieee

set_option maxHeartbeats 1000000 in
theorem parts_any (c s : Nat) (hc : (floatToFloatBits .f32 c .f64).isSome = true) (hs : (floatToFloatBits .f32 s .f64).isSome = true) (w : World) :
    Calls Tryz.prog 29 #[.complex .f32 c s] w fun e w' => e = .returned (.tuple #[.float .f64 (up64 c), .float .f64 (up64 s)]) ∧ w = w' := by
  have k1 := up_run c hc
  have k2 := up_run s hs
  have e1 := fun W : World => run_convert_float_float (P := Tryz.prog) W 28 46 .f32 .f64 _ _ (by rw [Tryz.underlying28]; rfl) Tryz.underlying46 k1
  have e2 := fun W : World => run_convert_float_float (P := Tryz.prog) W 28 46 .f32 .f64 _ _ (by rw [Tryz.underlying28]; rfl) Tryz.underlying46 k2
  clear k1 k2 hc hs
  generalize up64 c = c' at *
  generalize up64 s = s' at *
  go_enter Tryz.func29, Tryz.ntmps29
  go_wp2
  go_ret2
  exact ⟨rfl, rfl⟩
/-- A product's parts, in 64 bits. -/
def tmR (a b c d : Nat) : Nat := fA .sub .f64 (fA .mul .f64 a c) (fA .mul .f64 b d)
def tmI (a b c d : Nat) : Nat := fA .add .f64 (fA .mul .f64 a d) (fA .mul .f64 b c)
def tmOk (a b c d : Nat) : Bool := (floatBits .mul .f64 a c).isSome && (floatBits .mul .f64 b d).isSome && (floatBits .mul .f64 a d).isSome && (floatBits .mul .f64 b c).isSome && (floatBits .sub .f64 (fA .mul .f64 a c) (fA .mul .f64 b d)).isSome && (floatBits .add .f64 (fA .mul .f64 a d) (fA .mul .f64 b c)).isSome

set_option maxHeartbeats 1000000 in
theorem times_any (a b c d : Nat) (h : tmOk a b c d = true) (w : World) :
    Calls Tryz.prog 30 #[.float .f64 a, .float .f64 b, .float .f64 c, .float .f64 d] w fun e w' => e = .returned (.tuple #[.float .f64 (tmR a b c d), .float .f64 (tmI a b c d)]) ∧ w = w' := by
  unfold tmOk at h
  simp only [Bool.and_eq_true] at h
  obtain ⟨⟨⟨⟨⟨h1, h2⟩, h3⟩, h4⟩, h5⟩, h6⟩ := h
  have g1 : fA .sub .f64 (fA .mul .f64 a c) (fA .mul .f64 b d) = tmR a b c d := rfl
  have g2 : fA .add .f64 (fA .mul .f64 a d) (fA .mul .f64 b c) = tmI a b c d := rfl
  generalize tmR a b c d = r at *
  generalize tmI a b c d = i at *
  go_enter Tryz.func30, Tryz.ntmps30
  go_wp2
  go_ret2
  exact ⟨rfl, rfl⟩
/-- A product, narrowed. -/
def mlR (a b c d : Nat) : Nat := dn32 (tmR (up64 a) (up64 b) (up64 c) (up64 d))
def mlI (a b c d : Nat) : Nat := dn32 (tmI (up64 a) (up64 b) (up64 c) (up64 d))
def mlOk (a b c d : Nat) : Bool := (floatToFloatBits .f32 a .f64).isSome && (floatToFloatBits .f32 b .f64).isSome && (floatToFloatBits .f32 c .f64).isSome && (floatToFloatBits .f32 d .f64).isSome && tmOk (up64 a) (up64 b) (up64 c) (up64 d) && (floatToFloatBits .f64 (tmR (up64 a) (up64 b) (up64 c) (up64 d)) .f32).isSome && (floatToFloatBits .f64 (tmI (up64 a) (up64 b) (up64 c) (up64 d)) .f32).isSome

set_option maxHeartbeats 2000000 in
theorem mulComplex_any (a b c d : Nat) (h : mlOk a b c d = true) (w : World) :
    Calls Tryz.prog 6 #[.complex .f32 a b, .complex .f32 c d] w fun e w' => e = .returned (.complex .f32 (mlR a b c d) (mlI a b c d)) ∧ w = w' := by
  unfold mlOk at h
  simp only [Bool.and_eq_true] at h
  obtain ⟨⟨⟨⟨⟨⟨h1, h2⟩, h3⟩, h4⟩, h5⟩, h6⟩, h7⟩ := h
  have HP : Hid (∀ (x y : Nat), (x = a ∧ y = b ∨ x = c ∧ y = d) → ∀ w : World, Calls Tryz.prog 29 #[.complex .f32 x y] w fun e w' => e = .returned (.tuple #[.float .f64 (up64 x), .float .f64 (up64 y)]) ∧ w = w') := by
    rintro x y (⟨rfl, rfl⟩ | ⟨rfl, rfl⟩) w
    · exact parts_any _ _ h1 h2 w
    · exact parts_any _ _ h3 h4 w
  have HT := Lib.hid (fun w => times_any _ _ _ _ h5 w)
  have k1 := dn_run _ h6
  have k2 := dn_run _ h7
  have e1 := fun W : World => run_convert_float_float (P := Tryz.prog) W 46 28 .f64 .f32 _ _ (by rw [Tryz.underlying46]; rfl) Tryz.underlying28 k1
  have e2 := fun W : World => run_convert_float_float (P := Tryz.prog) W 46 28 .f64 .f32 _ _ (by rw [Tryz.underlying46]; rfl) Tryz.underlying28 k2
  clear k1 k2 h1 h2 h3 h4 h5 h6 h7
  have g1 : dn32 (tmR (up64 a) (up64 b) (up64 c) (up64 d)) = mlR a b c d := rfl
  have g2 : dn32 (tmI (up64 a) (up64 b) (up64 c) (up64 d)) = mlI a b c d := rfl
  rw [g1] at e1
  rw [g2] at e2
  clear g1 g2
  generalize mlR a b c d = r at *
  generalize mlI a b c d = i at *
  generalize up64 = up at *
  generalize tmR = tr at *
  generalize tmI = ti at *
  go_enter Tryz.func6, Tryz.ntmps6
  go_wp2_with (first
    | (go_at_call 29; refine (HP.out _ _ (by first | exact .inl ⟨rfl, rfl⟩ | exact .inr ⟨rfl, rfl⟩) _).mono ?_; rintro e w' ⟨rfl, rfl⟩)
    | (go_at_call 30; refine (HT.out _).mono ?_; rintro e w' ⟨rfl, rfl⟩))
  go_ret
  exact ⟨rfl, rfl⟩
def pwW (a b : Nat) : Nat := fA .add .f64 (fA .mul .f64 (up64 a) (up64 a)) (fA .mul .f64 (up64 b) (up64 b))
def pwOk (a b : Nat) : Bool := (floatToFloatBits .f32 a .f64).isSome && (floatToFloatBits .f32 b .f64).isSome && (floatBits .mul .f64 (up64 a) (up64 a)).isSome && (floatBits .mul .f64 (up64 b) (up64 b)).isSome && (floatBits .add .f64 (fA .mul .f64 (up64 a) (up64 a)) (fA .mul .f64 (up64 b) (up64 b))).isSome && (floatToFloatBits .f64 (pwW a b) .f32).isSome

set_option maxHeartbeats 1000000 in
theorem power_any (a b : Nat) (h : pwOk a b = true) (w : World) : Calls Tryz.prog 31 #[.complex .f32 a b] w fun e w' => e = .returned (.float .f64 (pwW a b)) ∧ w = w' := by
  unfold pwOk at h
  simp only [Bool.and_eq_true] at h
  obtain ⟨⟨⟨⟨⟨h1, h2⟩, h3⟩, h4⟩, h5⟩, h6⟩ := h
  have HP := Lib.hid (parts_any a b h1 h2 w)
  have g1 : fA .add .f64 (fA .mul .f64 (up64 a) (up64 a)) (fA .mul .f64 (up64 b) (up64 b)) = pwW a b := rfl
  clear h1 h2 h6
  generalize pwW a b = r at *
  generalize up64 = up at *
  go_enter Tryz.func31, Tryz.ntmps31
  go_wp2_with (go_at_call 29; refine HP.out.mono ?_; rintro e w' ⟨rfl, rfl⟩)
  go_ret
  exact ⟨rfl, rfl⟩

set_option maxHeartbeats 1000000 in
theorem powerOf_any (a b : Nat) (h : pwOk a b = true) (w : World) : Calls Tryz.prog 7 #[.complex .f32 a b] w fun e w' => e = .returned (.float .f32 (dn32 (pwW a b))) ∧ w = w' := by
  have HP := Lib.hid (power_any a b h w)
  unfold pwOk at h
  simp only [Bool.and_eq_true] at h
  obtain ⟨_, h6⟩ := h
  have k1 := dn_run _ h6
  have e1 := fun W : World => run_convert_float_float (P := Tryz.prog) W 46 28 .f64 .f32 _ _ (by rw [Tryz.underlying46]; rfl) Tryz.underlying28 k1
  clear k1 h6
  generalize pwW a b = r at *
  generalize dn32 r = r' at *
  go_enter Tryz.func7, Tryz.ntmps7
  go_wp2_with (go_at_call 31; refine HP.out.mono ?_; rintro e w' ⟨rfl, rfl⟩)
  go_ret
  exact ⟨rfl, rfl⟩
def sqW (x : Nat) : Nat := (FloatKind.f64.format.sqrt x).getD 0

set_option maxHeartbeats 1000000 in
theorem sqrt_any (x : Nat) (h : (FloatKind.f64.format.sqrt x).isSome = true) (w : World) : Calls Tryz.prog 33 #[.float .f64 x] w fun e w' => e = .returned (.float .f64 (sqW x)) ∧ w = w' := by
  have hx2 : ∀ W : World, (callFunc 54 #[.float .f64 x]).run Tryz.prog W = .ok (.value (.float .f64 (sqW x))) W := fun W => by
    rw [run_callFunc_extern (e := Extern.MathSqrt.sqrt) Tryz.func54 (by kernel_rfl) (by kernel_rfl) (by kernel_rfl) (by kernel_rfl)]
    obtain ⟨r, hr⟩ := Option.isSome_iff_exists.1 h
    unfold sqW
    have hq : ∀ o, FloatKind.f64.format.sqrt x = o → Extern.MathSqrt.sqrt #[.float .f64 x] = (match o with
      | some r => pure (.float .f64 r)
      | none => do pure (.float .f64 (← choose (.nanBits .f64 x x)))) := by rintro o rfl; rfl
    rw [hq _ hr, hr]
    rfl
  clear h
  generalize sqW x = y at *
  go_enter Tryz.func33, Tryz.ntmps33
  go_wp2
  go_ret
  exact ⟨rfl, rfl⟩

set_option maxHeartbeats 1000000 in
theorem isFinite_fin (x : Nat) (h : finB x = true) (w : World) : Calls Tryz.prog 50 #[.float .f32 x] w fun e w' => e = .returned (.bool true) ∧ w = w' := by
  obtain ⟨h1, h2⟩ := fA_of (op := .sub) (k := .f32) (sub_self_fin h)
  have ho : FloatKind.f32.format.order 0 0 = some .eq := by decide
  clear h
  go_enter Tryz.func50, Tryz.ntmps50
  go_wp2
  go_ret
  exact ⟨rfl, rfl⟩

end Go.Proofs.YtimhljcebeiofaaGreatDoor
