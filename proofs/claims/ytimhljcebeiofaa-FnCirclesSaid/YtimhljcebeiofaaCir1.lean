/- Circles: fractions of turns and sines. -/
import Derived.Test.YtimhljcebeiofaaCirP
import Derived.Test.YtimhljcebeiofaaFlt
import Derived.IntWalk
namespace Go.Proofs.Ytimhljcebeiofaa
set_option linter.unusedSimpArgs false
set_option linter.unusedVariables false
open Go.RowKit
open Ieee
/-- A float64 narrowed. -/
def dn32 (x : Nat) : Nat := (floatToFloatBits .f64 x .f32).getD 0
theorem up_run (x : Nat) (h : (floatToFloatBits .f32 x .f64).isSome = true) : floatToFloatBits .f32 x .f64 = some (up64 x) := by
  unfold up64; revert h; cases floatToFloatBits .f32 x .f64 <;> simp
theorem dn_run (x : Nat) (h : (floatToFloatBits .f64 x .f32).isSome = true) : floatToFloatBits .f64 x .f32 = some (dn32 x) := by
  unfold dn32; revert h; cases floatToFloatBits .f64 x .f32 <;> simp
/-- What a fraction comes to. -/
def frA (x : Nat) (i : Int) : Nat := fA .sub .f64 x (floatOfInt .f64 i)
def frR (x : Nat) (i : Int) : Nat := if FloatKind.f64.format.order (frA x i) 0 = some .lt then fA .add .f64 (frA x i) 4607182418800017408 else frA x i
def frOk (x : Nat) (i : Int) : Bool := (floatToIntVal .f64 x .i64 == some i) && (floatBits .sub .f64 x (floatOfInt .f64 i)).isSome && (FloatKind.f64.format.order (frA x i) 0).isSome && (FloatKind.f64.format.order (frA x i) 0 != some .lt || (floatBits .add .f64 (frA x i) 4607182418800017408).isSome)

set_option maxHeartbeats 1000000 in
theorem fraction_any (x : Nat) (i : Int) (h : frOk x i = true) (w : World) : Calls Try.prog 17 #[.float .f64 x] w fun e w' => e = .returned (.float .f64 (frR x i)) ∧ w = w' := by
  unfold frOk at h
  simp only [Bool.and_eq_true, Bool.or_eq_true, beq_iff_eq, bne_iff_ne] at h
  obtain ⟨⟨⟨h1, h2⟩, h3⟩, h4⟩ := h
  have hc : ∀ W : World, (convert 27 2 (.float .f64 x)).run Try.prog W = .ok (.int .i64 i) W := fun W => run_convert_float_int (P := Try.prog) (w := W) 27 2 .f64 .i64 x i (by rw [Try.underlying27]; rfl) Try.underlying2 h1
  have HR : Hid (frR x i = if FloatKind.f64.format.order (frA x i) 0 = some .lt then fA .add .f64 (frA x i) 4607182418800017408 else frA x i) := rfl
  have H3 : fA .sub .f64 x (floatOfInt .f64 i) = frA x i := rfl
  obtain ⟨r, hr⟩ : ∃ r, r = frR x i := ⟨_, rfl⟩
  rw [← hr] at HR ⊢
  clear h1 hr
  generalize frA x i = g at *
  obtain ⟨o, ho⟩ := Option.isSome_iff_exists.1 h3
  rw [ho] at HR h4
  clear h3
  cases o
  · have h5 := h4.resolve_left (by simp)
    have HR := Lib.hid (HR.out.trans (if_pos rfl))
    clear h4
    go_enter Try.func17, Try.ntmps17
    go_wp2
    go_ret
    exact ⟨by rw [HR.out]; rfl, rfl⟩
  all_goals
    have HR := Lib.hid (HR.out.trans (if_neg (by simp)))
    clear h4
    go_enter Try.func17, Try.ntmps17
    go_wp2
    go_ret
    exact ⟨by rw [HR.out]; rfl, rfl⟩
/-- Sines of a fraction that is at most a quarter. -/
def snOk (f : Nat) : Bool := frOk f 0 && (frR f 0 == f) && (floatBits .mul .f64 f 4618760256179416344).isSome && (floatBits .mul .f64 (zC f) (zC f)).isSome && (floatBits .mul .f64 (zC f) (snK (uC f) 8)).isSome && (FloatKind.f64.format.order f 4602678819172646912 == some .lt) && (FloatKind.f64.format.order f 4598175219545276416 == some .lt || FloatKind.f64.format.order f 4598175219545276416 == some .eq)
def snIn (u : Nat) (i : Nat) : Bool := (floatBits .mul .f64 u (snK u i)).isSome && (floatBits .quo .f64 (fA .mul .f64 u (snK u i)) (dC i)).isSome && (floatBits .sub .f64 4607182418800017408 (fA .quo .f64 (fA .mul .f64 u (snK u i)) (dC i))).isSome
theorem snOk_all : ∀ j : Nat, j < 17 → snOk (fj j) = true := by decide +kernel
theorem snIn_all : ∀ j : Nat, j < 17 → ∀ i : Nat, i < 8 → snIn (uC (fj j)) i = true := by decide +kernel
/-- Which of the row's factors is due. -/
def snI (x : Value) : Nat := match x with
  | .float _ b => ((List.range 9).find? fun (i : Nat) => kC i == b).getD 0
  | _ => 0
theorem snI_all : ∀ i : Nat, i < 9 → snI (.float .f64 (kC i)) = i := by decide +kernel

set_option maxHeartbeats 4000000 in
theorem sine_any (f : Nat) (hf : snOk f = true) (hs : ∀ i : Nat, i < 8 → snIn (uC f) i = true) (w : World) : Calls Try.prog 18 #[.float .f64 f] w fun e w' => e = .returned (.float .f64 (snW f)) ∧ w = w' := by
  unfold snOk at hf
  simp only [Bool.and_eq_true, Bool.or_eq_true, beq_iff_eq, bne_iff_ne] at hf
  obtain ⟨⟨⟨⟨⟨⟨z0, zr⟩, z1⟩, z2⟩, z3⟩, z4⟩, z5⟩ := hf
  have HF := Lib.hid (fraction_any f 0 z0 w)
  rw [zr] at HF
  clear z0 zr
  have HN := Lib.hid hs
  clear hs
  have e1 : fA .mul .f64 f 4618760256179416344 = zC f := rfl
  have e2 : fA .mul .f64 (zC f) (zC f) = uC f := rfl
  have HS : Hid (snW f = fA .mul .f64 (zC f) (snK (uC f) 8)) := rfl
  obtain ⟨res, hres⟩ : ∃ r, r = snW f := ⟨_, rfl⟩
  rw [← hres] at HS ⊢
  clear hres
  generalize zC f = z at *
  generalize uC f = u at *
  have H8 : Hid ((4620693217682128896 : Nat) = kC 0) := Lib.hid (by decide +kernel)
  have HD : Hid (∀ i, fA .mul .f64 (fA .mul .f64 4611686018427387904 (kC i)) (fA .add .f64 (fA .mul .f64 4611686018427387904 (kC i)) 4607182418800017408) = dC i) := fun _ => rfl
  have HK : Hid (∀ i, snK u (i + 1) = fA .sub .f64 4607182418800017408 (fA .quo .f64 (fA .mul .f64 u (snK u i)) (dC i))) := fun _ => rfl
  rcases z5 with z5 | z5
  all_goals
    go_enter Try.func18, Try.ntmps18
    go_wp2_with (go_at_call 17; refine HF.out.mono ?_; rintro e w' ⟨rfl, rfl⟩)
    go_loop [7, 8] (fun p x => ∃ i : Nat, i ≤ 8 ∧ p = .float .f64 (snK u i) ∧ Hid (x = .float .f64 (kC i))) (fun p x => 8 - snI x)
    case atStart => exact ⟨0, by omega, rfl, Lib.hid (by rw [H8.out])⟩
    case round =>
      obtain ⟨i, hi, rfl, hx⟩ := hrel
      obtain ⟨kw, hkw⟩ : ∃ kw, kw = kC i := ⟨_, rfl⟩
      replace hx := hx.out
      rw [← hkw] at hx
      subst hx
      by_cases hlt : i < 8
      · obtain ⟨k1, k2, k3, k4, k5, k6, k7⟩ := kC_all i hlt
        have hin := HN.out i hlt
        unfold snIn at hin
        simp only [Bool.and_eq_true] at hin
        obtain ⟨⟨n1, n2⟩, n3⟩ := hin
        have hd := HD.out i
        have HK1 := Lib.hid (HK.out i)
        have HKI := Lib.hid k5
        have HM : Hid (snI (.float .f64 (kC i)) = i ∧ snI (.float .f64 (kC (i + 1))) = i + 1) := Lib.hid ⟨snI_all i (by omega), snI_all (i + 1) (by omega)⟩
        clear k5
        rw [← hkw] at k1 k2 k3 k4 k6 k7 hd HKI HM
        have HW := Lib.hid hkw
        clear hkw
        generalize dC i = d at *
        obtain ⟨p, hp⟩ : ∃ p, p = snK u i := ⟨_, rfl⟩
        rw [← hp] at n1 n2 n3 HK1 ⊢
        clear hp
        obtain ⟨o, ho⟩ := Option.isSome_iff_exists.1 k7
        clear k7
        cases o
        · exact absurd ho k6
        all_goals
          clear k6
          go_wp2
          go_round
          case rel => exact ⟨i + 1, by omega, by rw [HK1.out], Lib.hid (by rw [HKI.out])⟩
          case measure => rw [HKI.out, HM.out.1, HM.out.2]; omega
      · obtain rfl : i = 8 := by omega
        have ho := kC_end
        rw [← hkw] at ho
        clear hkw
        generalize snK u 8 = p at *
        go_wp2
        go_ret
        exact ⟨by rw [HS.out]; rfl, rfl⟩

end Go.Proofs.Ytimhljcebeiofaa
