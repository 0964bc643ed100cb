/- Circles: angles. -/
import Derived.Test.YtimhljcebeiofaaCir3
namespace Go.Proofs.Ytimhljcebeiofaa
set_option linter.unusedSimpArgs false
set_option linter.unusedVariables false
open Go.RowKit
open Ieee
/-- The smaller of two parts by the greater one. -/
def anT (a b : Nat) : Nat := if FloatKind.f64.format.order a b = some .gt then fA .quo .f64 b a else fA .quo .f64 a b
/-- The angle's half. -/
def anS (t : Nat) : Nat := fA .quo .f64 t (fA .add .f64 4607182418800017408 (sqW (fA .add .f64 4607182418800017408 (fA .mul .f64 t t))))
def anN (t : Nat) : Nat → Nat
  | 0 => t
  | n + 1 => anS (anN t n)
def anK (i : Nat) : Nat := floatOfInt .f64 (15 - 2 * (i : Int))
def anP (u : Nat) : Nat → Nat
  | 0 => 0
  | i + 1 => fA .sub .f64 (fA .quo .f64 4607182418800017408 (anK i)) (fA .mul .f64 u (anP u i))
def an1 (t p : Nat) : Nat := fA .quo .f64 (fA .mul .f64 4620693217682128896 (fA .mul .f64 t p)) 4618760256179416344
def anSOk (t : Nat) : Bool := (floatBits .mul .f64 t t).isSome && (floatBits .add .f64 4607182418800017408 (fA .mul .f64 t t)).isSome && (FloatKind.f64.format.sqrt (fA .add .f64 4607182418800017408 (fA .mul .f64 t t))).isSome && (floatBits .add .f64 4607182418800017408 (sqW (fA .add .f64 4607182418800017408 (fA .mul .f64 t t)))).isSome && (floatBits .quo .f64 t (fA .add .f64 4607182418800017408 (sqW (fA .add .f64 4607182418800017408 (fA .mul .f64 t t))))).isSome
def anPOk (u i : Nat) : Bool := (floatBits .mul .f64 u (anP u i)).isSome && (floatBits .sub .f64 (fA .quo .f64 4607182418800017408 (anK i)) (fA .mul .f64 u (anP u i))).isSome
theorem anK_all : ∀ i : Nat, i < 8 → (floatBits .quo .f64 4607182418800017408 (anK i)).isSome = true ∧ (floatBits .sub .f64 (anK i) 4611686018427387904).isSome = true ∧ fA .sub .f64 (anK i) 4611686018427387904 = anK (i + 1) ∧ FloatKind.f64.format.order (anK i) 4607182418800017408 ≠ some .lt ∧ (FloatKind.f64.format.order (anK i) 4607182418800017408).isSome = true := by decide +kernel
theorem anK_end : FloatKind.f64.format.order (anK 8) 4607182418800017408 = some .lt := by decide +kernel
def anI (x : Value) : Nat := match x with
  | .float _ b => ((List.range 9).find? fun (i : Nat) => anK i == b).getD 0
  | _ => 0
theorem anI_all : ∀ i : Nat, i < 9 → anI (.float .f64 (anK i)) = i := by decide +kernel
/-- The steps from a row's sum to an angle. -/
def an2 (a b : Nat) (v : Nat) : Nat := if FloatKind.f64.format.order a b = some .gt then fA .sub .f64 4598175219545276416 v else v
def an3 (x : Nat) (v : Nat) : Nat := if FloatKind.f32.format.order x 0 = some .lt then fA .sub .f64 4602678819172646912 v else v
def an4 (y : Nat) (v : Nat) : Nat := if FloatKind.f32.format.order y 0 = some .lt then Op.negFloat .f64 v else v
/-- All but the outermost: given both absolute values. -/
def anM (a b : Nat) : Nat := an2 a b (an1 (anN (anT a b) 3) (anP (fA .mul .f64 (anN (anT a b) 3) (anN (anT a b) 3)) 8))
def anW (y x : Nat) : Nat := dn32 (an4 y (an3 x (anM (abs64 (up64 y)) (abs64 (up64 x)))))
def anMOk (a b : Nat) : Bool := (floatBits .quo .f64 a b).isSome && (FloatKind.f64.format.order a b).isSome && (FloatKind.f64.format.order a b != some .gt || (floatBits .quo .f64 b a).isSome) &&
  anSOk (anT a b) && anSOk (anN (anT a b) 1) && anSOk (anN (anT a b) 2) && (floatBits .mul .f64 (anN (anT a b) 3) (anN (anT a b) 3)).isSome &&
  ((List.range 8).all fun i => anPOk (fA .mul .f64 (anN (anT a b) 3) (anN (anT a b) 3)) i) &&
  (floatBits .mul .f64 (anN (anT a b) 3) (anP (fA .mul .f64 (anN (anT a b) 3) (anN (anT a b) 3)) 8)).isSome &&
  (floatBits .mul .f64 4620693217682128896 (fA .mul .f64 (anN (anT a b) 3) (anP (fA .mul .f64 (anN (anT a b) 3) (anN (anT a b) 3)) 8))).isSome &&
  (floatBits .quo .f64 (fA .mul .f64 4620693217682128896 (fA .mul .f64 (anN (anT a b) 3) (anP (fA .mul .f64 (anN (anT a b) 3) (anN (anT a b) 3)) 8))) 4618760256179416344).isSome &&
  (FloatKind.f64.format.order a b != some .gt || (floatBits .sub .f64 4598175219545276416 (an1 (anN (anT a b) 3) (anP (fA .mul .f64 (anN (anT a b) 3) (anN (anT a b) 3)) 8))).isSome)
def anOk (y x : Nat) : Bool := finB x && finB y && !((FloatKind.f32.format.order x 0 == some .eq) && (FloatKind.f32.format.order y 0 == some .eq)) && (FloatKind.f32.format.order x 0).isSome && (FloatKind.f32.format.order y 0).isSome &&
  (floatToFloatBits .f32 x .f64).isSome && (floatToFloatBits .f32 y .f64).isSome && absOk (up64 x) && absOk (up64 y) && anMOk (abs64 (up64 y)) (abs64 (up64 x)) &&
  (FloatKind.f32.format.order x 0 != some .lt || (floatBits .sub .f64 4602678819172646912 (anM (abs64 (up64 y)) (abs64 (up64 x)))).isSome) &&
  (floatToFloatBits .f64 (an4 y (an3 x (anM (abs64 (up64 y)) (abs64 (up64 x))))) .f32).isSome

set_option maxRecDepth 100000 in
set_option maxHeartbeats 16000000 in
theorem angleTurns_any (y x : Nat) (h : anOk y x = true) (w : World) : Calls Try.prog 19 #[.float .f32 y, .float .f32 x] w fun e w' => e = .returned (.float .f32 (anW y x)) ∧ w = w' := by
  unfold anOk at h
  simp only [Bool.and_eq_true, Bool.or_eq_true, Bool.not_eq_true', bne_iff_ne] at h
  obtain ⟨⟨⟨⟨⟨⟨⟨⟨⟨⟨⟨f1, f2⟩, n0⟩, ox⟩, oy⟩, cx⟩, cy⟩, ax⟩, ay⟩, m⟩, s3⟩, dn⟩ := h
  have HF : Hid (∀ z : Nat, (z = x ∨ z = y) → ∀ w : World, Calls Try.prog 23 #[.float .f32 z] w fun e w' => e = .returned (.bool true) ∧ w = w') := by
    rintro z (rfl | rfl) w
    · exact isFinite_fin _ f1 w
    · exact isFinite_fin _ f2 w
  have HA : Hid (∀ z : Nat, (z = up64 x ∨ z = up64 y) → ∀ w : World, Calls Try.prog 16 #[.float .f64 z] w fun e w' => e = .returned (.float .f64 (abs64 z)) ∧ w = w') := by
    rintro z (rfl | rfl) w
    · exact abs_any _ w ax
    · exact abs_any _ w ay
  have k1 := up_run _ cx
  have k2 := up_run _ cy
  have k3 := dn_run _ dn
  have e1 := fun W : World => run_convert_float_float (P := Try.prog) W 28 27 .f32 .f64 _ _ (by rw [Try.underlying28]; rfl) Try.underlying27 k1
  have e2 := fun W : World => run_convert_float_float (P := Try.prog) W 28 27 .f32 .f64 _ _ (by rw [Try.underlying28]; rfl) Try.underlying27 k2
  have e3 := fun W : World => run_convert_float_float (P := Try.prog) W 27 28 .f64 .f32 _ _ (by rw [Try.underlying27]; rfl) Try.underlying28 k3
  obtain ⟨res, hres⟩ : ∃ z, z = anW y x := ⟨_, rfl⟩
  rw [show dn32 (an4 y (an3 x (anM (abs64 (up64 y)) (abs64 (up64 x))))) = res from hres.symm] at e3
  rw [← hres]
  clear hres f1 f2 cx cy ax ay k1 k2 k3 dn
  generalize up64 x = ux at *
  generalize up64 y = uy at *
  generalize ha : abs64 uy = a at *
  generalize hb : abs64 ux = b at *
  have HAB := Lib.hid ha
  have HBB := Lib.hid hb
  clear ha hb
  unfold anMOk at m
  simp only [Bool.and_eq_true, Bool.or_eq_true, Bool.not_eq_true', bne_iff_ne, List.all_eq_true] at m
  obtain ⟨⟨⟨⟨⟨⟨⟨⟨⟨⟨⟨m1, m2⟩, m3⟩, m4⟩, m5⟩, m6⟩, m7⟩, m8⟩, m9⟩, m10⟩, m11⟩, m12⟩ := m
  have HM : Hid (anM a b = an2 a b (an1 (anN (anT a b) 3) (anP (fA .mul .f64 (anN (anT a b) 3) (anN (anT a b) 3)) 8))) := rfl
  have HT : Hid (anT a b = if FloatKind.f64.format.order a b = some .gt then fA .quo .f64 b a else fA .quo .f64 a b) := rfl
  generalize anT a b = t at *
  have HS : Hid (∀ n : Nat, n < 3 → anSOk (anN t n) = true) := by
    show ∀ n : Nat, _
    intro n hn
    rcases (show n = 0 ∨ n = 1 ∨ n = 2 by omega) with rfl | rfl | rfl
    · exact m4
    · exact m5
    · exact m6
  clear m4 m5 m6
  generalize hN : anN t 3 = t3 at *
  have HN3 := Lib.hid hN
  clear hN
  have g1 : fA .mul .f64 t3 t3 = fA .mul .f64 t3 t3 := rfl
  generalize hu : fA .mul .f64 t3 t3 = u at *
  clear g1
  have HP8 : Hid (∀ i : Nat, i < 8 → anPOk u i = true) := fun i hi => m8 i (List.mem_range.2 hi)
  clear m8
  generalize hp : anP u 8 = p at *
  have HPE := Lib.hid hp
  clear hp
  have g2 : fA .quo .f64 (fA .mul .f64 4620693217682128896 (fA .mul .f64 t3 p)) 4618760256179416344 = an1 t3 p := rfl
  generalize an1 t3 p = v1 at *
  obtain ⟨oab, hoab⟩ := Option.isSome_iff_exists.1 m2
  obtain ⟨o1, ho1⟩ := Option.isSome_iff_exists.1 ox
  obtain ⟨o2, ho2⟩ := Option.isSome_iff_exists.1 oy
  clear m2 ox oy
  have HE3 := Lib.hid e3
  clear e3
  have E3 : ∀ W : World, (convert 27 28 (.float .f64 (an4 y (an3 x (an2 a b v1))))).run Try.prog W = .ok (.float .f32 res) W := fun W => by rw [← HM.out]; exact HE3.out W
  rw [HM.out] at s3
  clear HE3 HM
  have T := HT.out
  rw [hoab] at T m3 m12
  rw [ho1] at s3 n0
  rw [ho2] at n0
  clear HT
  simp only [an2, an3, an4, hoab, ho1, ho2] at E3 s3
  have HAA : Hid (∀ z v : Nat, (z = uy ∧ v = a ∨ z = ux ∧ v = b) → ∀ w : World, Calls Try.prog 16 #[.float .f64 z] w fun e w' => e = .returned (.float .f64 v) ∧ w = w') := by
    rintro z v (⟨rfl, rfl⟩ | ⟨rfl, rfl⟩) w
    · rw [← HAB.out]; exact HA.out _ (.inr rfl) w
    · rw [← HBB.out]; exact HA.out _ (.inl rfl) w
  clear HA HAB HBB
  have SQ : Hid (∀ z : Nat, (FloatKind.f64.format.sqrt z).isSome = true → ∀ w : World, Calls Try.prog 29 #[.float .f64 z] w fun e w' => e = .returned (.float .f64 (sqW z)) ∧ w = w') := fun z h w => sqrt_any z h w
  cases oab
  all_goals
    first
      | (have T2 : Hid (fA .quo .f64 a b = t) := Lib.hid (by rw [T]; rfl))
      | (have T2 : Hid (fA .quo .f64 b a = t) := Lib.hid (by rw [T]; rfl))
  all_goals
    clear T
    simp only [ne_eq, not_true_eq_false, false_or, not_false_eq_true, true_or, reduceCtorEq, if_true, if_false, Option.some.injEq] at E3 s3 m3 m12
  all_goals cases o1
  all_goals simp only [ne_eq, not_true_eq_false, false_or, not_false_eq_true, true_or, reduceCtorEq, if_true, if_false, Option.some.injEq] at E3 s3
  all_goals cases o2
  all_goals simp only [reduceCtorEq, if_true, if_false, Option.some.injEq] at E3
  all_goals
    first
      | (exfalso; revert n0; decide)
      | skip
  all_goals
    clear n0
    go_enter Try.func19, Try.ntmps19
    go_wp2_with (first
      | (go_at_call 23; refine (HF.out _ (by first | exact .inl rfl | exact .inr rfl) _).mono ?_; rintro e w' ⟨rfl, rfl⟩)
      | (go_at_call 16; refine (HAA.out _ _ (by first | exact .inl ⟨rfl, rfl⟩ | exact .inr ⟨rfl, rfl⟩) _).mono ?_; rintro e w' ⟨rfl, rfl⟩))
    go_loop [7, 43] (fun y z => ∃ n : Nat, n ≤ 3 ∧ Hid (y = .float .f64 (anN t n)) ∧ z = .int .i64 (n : Int)) (fun _ z => 3 - intOf z)
    case atStart => exact ⟨0, by omega, Lib.hid (by rw [T2.out]; rfl), rfl⟩
    case round =>
      obtain ⟨n, hn, hy, rfl⟩ := hrel
      by_cases hlt : n < 3
      · have hin := HS.out n hlt
        have HYS : Hid (anN t (n + 1) = fA .quo .f64 (anN t n) (fA .add .f64 4607182418800017408 (sqW (fA .add .f64 4607182418800017408 (fA .mul .f64 (anN t n) (anN t n)))))) := rfl
        obtain ⟨tn, htn⟩ : ∃ tn, tn = anN t n := ⟨_, rfl⟩
        replace hy := hy.out
        rw [← htn] at hy hin HYS
        subst hy
        clear htn
        unfold anSOk at hin
        simp only [Bool.and_eq_true] at hin
        obtain ⟨⟨⟨⟨i1, i2⟩, i3⟩, i4⟩, i5⟩ := hin
        have hs := IntWalk.i64_in ((n : Int) + 1) (by omega)
        generalize sqW = sq at *
        go_wp2_with (go_at_call 29; refine (SQ.out _ (by assumption) _).mono ?_; rintro e w' ⟨rfl, rfl⟩)
        go_round
        case rel => exact ⟨n + 1, by omega, Lib.hid (by rw [HYS.out]), by push_cast; rfl⟩
        case measure => simp only [intOf]; omega
      · obtain rfl : n = 3 := by omega
        replace hy := hy.out
        rw [HN3.out] at hy
        subst hy
        go_wp2
        go_loop [9, 10] (fun p z => ∃ i : Nat, i ≤ 8 ∧ p = .float .f64 (anP u i) ∧ Hid (z = .float .f64 (anK i))) (fun _ z => 8 - anI z)
        case atStart => exact ⟨0, by omega, rfl, Lib.hid (by rfl)⟩
        case round =>
          obtain ⟨i, hi, rfl, hx⟩ := hrel
          obtain ⟨kw, hkw⟩ : ∃ kw, kw = anK i := ⟨_, rfl⟩
          replace hx := hx.out
          rw [← hkw] at hx
          subst hx
          by_cases hlt : i < 8
          · obtain ⟨q1, q2, q3, q4, q5⟩ := anK_all i hlt
            have hin := HP8.out i hlt
            unfold anPOk at hin
            simp only [Bool.and_eq_true] at hin
            obtain ⟨n1, n2⟩ := hin
            have HK1 : Hid (anP u (i + 1) = fA .sub .f64 (fA .quo .f64 4607182418800017408 (anK i)) (fA .mul .f64 u (anP u i))) := rfl
            have HKI := Lib.hid q3
            have HMI : Hid (anI (.float .f64 (anK i)) = i ∧ anI (.float .f64 (anK (i + 1))) = i + 1) := Lib.hid ⟨anI_all i (by omega), anI_all (i + 1) (by omega)⟩
            clear q3
            rw [← hkw] at q1 q2 q4 q5 n2 HK1 HKI HMI
            clear hkw
            obtain ⟨pw, hpw⟩ : ∃ p, p = anP u i := ⟨_, rfl⟩
            rw [← hpw] at n1 n2 HK1 ⊢
            clear hpw
            obtain ⟨o, ho⟩ := Option.isSome_iff_exists.1 q5
            clear q5
            cases o
            · exact absurd ho q4
            all_goals
              clear q4
              go_wp2
              go_round
              case rel => exact ⟨i + 1, by omega, by rw [HK1.out], Lib.hid (by rw [HKI.out])⟩
              case measure => rw [HKI.out, HMI.out.1, HMI.out.2]; omega
          · obtain rfl : i = 8 := by omega
            have ho := anK_end
            rw [← hkw] at ho
            clear hkw
            rw [HPE.out]
            go_wp2
            go_ret
            exact ⟨rfl, rfl⟩

end Go.Proofs.Ytimhljcebeiofaa
