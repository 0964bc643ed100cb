/- Circles: absolute values, phasors. -/
import Derived.Test.YtimhljcebeiofaaCir1
import Derived.Test.YtimhljcebeiofaaSam
namespace Go.Proofs.Ytimhljcebeiofaa
set_option linter.unusedSimpArgs false
set_option linter.unusedVariables false
open Go.RowKit
open Ieee
/-- A number's word without its sign. -/
def abs64 (x : Nat) : Nat := x % 9223372036854775808
def absOk (x : Nat) : Bool := bits .andNot .u64 (x : Int) 9223372036854775808 == ((abs64 x : Nat) : Int)

set_option maxHeartbeats 400000 in
theorem abs_any (x : Nat) (w : World) (hx : absOk x = true) : Calls Try.prog 16 #[.float .f64 x] w fun e w' => e = .returned (.float .f64 (abs64 x)) ∧ w = w' := by
  have hrun := run_f64bits x
  have hb : bits .andNot .u64 (x : Int) 9223372036854775808 = ((abs64 x : Nat) : Int) := by unfold absOk at hx; simpa using hx
  have hx2 : ∀ W : World, (callFunc 27 #[.int .u64 (abs64 x : Nat)]).run Try.prog W = .ok (.value (.float .f64 (abs64 x))) W := fun W => by
    rw [run_callFunc_extern (e := Extern.MathFloatBits.float64frombits) Try.func27 (by kernel_rfl) (by kernel_rfl) (by kernel_rfl) (by kernel_rfl)]
    rfl
  clear hx
  generalize abs64 x = y at *
  go_enter Try.func16, Try.ntmps16
  go_wp2
  go_ret
  exact ⟨rfl, rfl⟩

set_option maxHeartbeats 400000 in
theorem isFinite64_any (x : Nat) (w : World) (h : floatBits .sub .f64 x x = some 0) : Calls Try.prog 14 #[.float .f64 x] w fun e w' => e = .returned (.bool true) ∧ w = w' := by
  obtain ⟨h1, h2⟩ := fA_of h
  have ho : FloatKind.f64.format.order 0 0 = some .eq := by decide
  clear h
  go_enter Try.func14, Try.ntmps14
  go_wp2
  go_ret
  exact ⟨rfl, rfl⟩
/-- A phasor's parts before they are narrowed. -/
def phc (q r : Nat) : Nat := match q with
  | 0 => snW (fj (16 - r))
  | 1 => fA .sub .f64 0 (snW (fj r))
  | 2 => fA .sub .f64 0 (snW (fj (16 - r)))
  | _ => snW (fj r)
def phs (q r : Nat) : Nat := match q with
  | 0 => snW (fj r)
  | 1 => snW (fj (16 - r))
  | 2 => fA .sub .f64 0 (snW (fj r))
  | _ => fA .sub .f64 0 (snW (fj (16 - r)))
def phOk (x : Nat) (i : Int) (q r : Nat) : Bool := (floatBits .sub .f64 x x == some 0) && absOk x && (FloatKind.f64.format.order (abs64 x) 4841369599423283200 == some .lt) && frOk x i && (frR x i == fj (16 * q + r))
theorem fj_down : ∀ q : Nat, q < 3 → ∀ r : Nat, r < 16 → (floatBits .sub .f64 (fj (16 * (q + 1) + r)) 4598175219545276416).isSome = true ∧ fA .sub .f64 (fj (16 * (q + 1) + r)) 4598175219545276416 = fj (16 * q + r) ∧ (FloatKind.f64.format.order (fj (16 * (q + 1) + r)) 4598175219545276416 = some .gt ∨ FloatKind.f64.format.order (fj (16 * (q + 1) + r)) 4598175219545276416 = some .eq) := by decide +kernel
theorem fj_low : ∀ r : Nat, r < 16 → FloatKind.f64.format.order (fj r) 4598175219545276416 = some .lt ∧ (floatBits .sub .f64 4598175219545276416 (fj r)).isSome = true ∧ fA .sub .f64 4598175219545276416 (fj r) = fj (16 - r) ∧ (floatBits .sub .f64 0 (snW (fj r))).isSome = true ∧ (floatBits .sub .f64 0 (snW (fj (16 - r)))).isSome = true := by decide +kernel
theorem ph_nar : ∀ q : Nat, q < 4 → ∀ r : Nat, r < 16 → (floatToFloatBits .f64 (phc q r) .f32).isSome = true ∧ (floatToFloatBits .f64 (phs q r) .f32).isSome = true := by decide +kernel
def intOf : Value → Nat
  | .int _ n => n.toNat
  | _ => 0

set_option maxHeartbeats 8000000 in
theorem phasorOf_any (x : Nat) (i : Int) (q r : Nat) (hq : q < 4) (hr : r < 16) (h : phOk x i q r = true) (w : World) : Calls Try.prog 6 #[.float .f64 x] w fun e w' => e = .returned (.complex .f32 (dn32 (phc q r)) (dn32 (phs q r))) ∧ w = w' := by
  unfold phOk at h
  simp only [Bool.and_eq_true, beq_iff_eq] at h
  obtain ⟨⟨⟨⟨p1, p2⟩, p3⟩, p4⟩, p5⟩ := h
  have HFin := Lib.hid (isFinite64_any x w p1)
  have HAbs := Lib.hid (abs_any x w p2)
  have HFr := Lib.hid (fraction_any x i p4 w)
  rw [p5] at HFr
  clear p1 p2 p4 p5
  have HS1 := Lib.hid (And.intro (snOk_all (16 - r) (by omega)) (snIn_all (16 - r) (by omega)))
  have HS2 := Lib.hid (And.intro (snOk_all r (by omega)) (snIn_all r (by omega)))
  obtain ⟨l1, l2, l3, l4, l5⟩ := fj_low r hr
  obtain ⟨c1, c2⟩ := ph_nar q hq r hr
  obtain ⟨resc, hresc⟩ : ∃ z, z = dn32 (phc q r) := ⟨_, rfl⟩
  obtain ⟨ress, hress⟩ : ∃ z, z = dn32 (phs q r) := ⟨_, rfl⟩
  have k1 := dn_run _ c1
  have k2 := dn_run _ c2
  rw [← hresc] at k1 ⊢
  rw [← hress] at k2 ⊢
  clear hresc hress c1 c2
  have e1 := fun W : World => run_convert_float_float (P := Try.prog) W 27 28 .f64 .f32 _ _ (by rw [Try.underlying27]; rfl) Try.underlying28 k1
  have e2 := fun W : World => run_convert_float_float (P := Try.prog) W 27 28 .f64 .f32 _ _ (by rw [Try.underlying27]; rfl) Try.underlying28 k2
  clear k1 k2
  have HD := Lib.hid fj_down
  have LO := Lib.hid (show phc q r = phc q r ∧ phs q r = phs q r from ⟨rfl, rfl⟩)
  generalize abs64 x = ax at *
  have E1 := Lib.hid e1
  have E2 := Lib.hid e2
  clear e1 e2
  have L1 := Lib.hid l1
  clear l1
  go_enter Try.func6, Try.ntmps6
  go_wp2_with (first
    | (go_at_call 14; refine HFin.out.mono ?_; rintro e w' ⟨rfl, rfl⟩)
    | (go_at_call 16; refine HAbs.out.mono ?_; rintro e w' ⟨rfl, rfl⟩)
    | (go_at_call 17; refine HFr.out.mono ?_; rintro e w' ⟨rfl, rfl⟩))
  go_loop [4, 5] (fun f y => ∃ k : Nat, k ≤ q ∧ f = .float .f64 (fj (16 * (q - k) + r)) ∧ y = .int .i64 (k : Int)) (fun _ y => 4 - intOf y)
  case atStart => exact ⟨0, by omega, rfl, rfl⟩
  case round =>
    obtain ⟨k, hk, rfl, rfl⟩ := hrel
    by_cases hlt : k < q
    · obtain ⟨d1, d2, d3⟩ := HD.out (q - (k + 1)) (by omega) r hr
      rw [show q - (k + 1) + 1 = q - k by omega] at d1 d2 d3
      have D2 := Lib.hid d2
      clear d2
      generalize fj (16 * (q - k) + r) = f at *
      have hs := IntWalk.i64_in ((k : Int) + 1) (by omega)
      rcases d3 with d3 | d3
      all_goals
        go_wp2
        go_round
        case rel => exact ⟨k + 1, by omega, by rw [D2.out], by push_cast; rfl⟩
        case measure => simp only [intOf]; omega
    · obtain rfl : k = q := by omega
      have l1 := L1.out
      rw [show 16 * (k - k) + r = r by omega]
      have e1 := E1.out
      have e2 := E2.out
      have hcases : ((k : Int) == 1) = false ∧ ((k : Int) == 2) = false ∧ ((k : Int) == 3) = false ∧ phc k r = snW (fj (16 - r)) ∧ phs k r = snW (fj r) ∨
          ((k : Int) == 1) = true ∧ phc k r = fA .sub .f64 0 (snW (fj r)) ∧ phs k r = snW (fj (16 - r)) ∨
          ((k : Int) == 1) = false ∧ ((k : Int) == 2) = true ∧ phc k r = fA .sub .f64 0 (snW (fj (16 - r))) ∧ phs k r = fA .sub .f64 0 (snW (fj r)) ∨
          ((k : Int) == 1) = false ∧ ((k : Int) == 2) = false ∧ ((k : Int) == 3) = true ∧ phc k r = snW (fj r) ∧ phs k r = fA .sub .f64 0 (snW (fj (16 - r))) := by
        rcases (show k = 0 ∨ k = 1 ∨ k = 2 ∨ k = 3 by omega) with rfl | rfl | rfl | rfl
        · exact .inl ⟨rfl, rfl, rfl, rfl, rfl⟩
        · exact .inr (.inl ⟨rfl, rfl, rfl⟩)
        · exact .inr (.inr (.inl ⟨rfl, rfl, rfl, rfl⟩))
        · exact .inr (.inr (.inr ⟨rfl, rfl, rfl, rfl, rfl⟩))
      clear HD L1 LO E1 E2 HFin HAbs HFr
      generalize phc k r = pc at *
      generalize phs k r = ps at *
      generalize fj (16 - r) = fs at *
      generalize fj r = fr at *
      have HSA : Hid (∀ (f : Nat), (f = fs ∨ f = fr) → ∀ w : World, Calls Try.prog 18 #[.float .f64 f] w fun e w' => e = .returned (.float .f64 (snW f)) ∧ w = w') := by
        rintro f (rfl | rfl) w
        · exact sine_any _ HS1.out.1 HS1.out.2 w
        · exact sine_any _ HS2.out.1 HS2.out.2 w
      generalize snW = sn at *
      clear HS1 HS2
      rcases hcases with ⟨b1, b2, b3, rfl, rfl⟩ | ⟨b1, rfl, rfl⟩ | ⟨b1, b2, rfl, rfl⟩ | ⟨b1, b2, b3, rfl, rfl⟩
      all_goals
        go_wp2_with (go_at_call 18; refine (HSA.out _ (by first | exact .inl rfl | exact .inr rfl) _).mono ?_; rintro e w' ⟨rfl, rfl⟩)
        go_ret
        exact ⟨rfl, rfl⟩

end Go.Proofs.Ytimhljcebeiofaa
