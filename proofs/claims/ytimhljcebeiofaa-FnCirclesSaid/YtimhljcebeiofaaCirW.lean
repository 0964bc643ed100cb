/- Circles: angles of complex numbers, floors, tenths of decibels. -/
import Derived.Test.YtimhljcebeiofaaB10
import Derived.Test.YtimhljcebeiofaaCirN
import Derived.Test.YtimhljcebeiofaaLnc
namespace Go.Proofs.Ytimhljcebeiofaa
set_option linter.unusedSimpArgs false
set_option linter.unusedVariables false
open Go.RowKit
open Ieee

set_option maxHeartbeats 1000000 in
theorem angleOf_any (c s : Nat) (h : anOk s c = true) (w : World) : Calls Try.prog 7 #[.complex .f32 c s] w fun e w' => e = .returned (.float .f32 (anW s c)) ∧ w = w' := by
  have HA := Lib.hid (angleTurns_any s c h w)
  clear h
  generalize anW s c = r at *
  go_enter Try.func7, Try.ntmps7
  go_wp2_with (go_at_call 19; refine HA.out.mono ?_; rintro e w' ⟨rfl, rfl⟩)
  go_ret
  exact ⟨rfl, rfl⟩

set_option maxHeartbeats 1000000 in
theorem floor_any (x : Nat) (h : Fnt double x) (w : World) : Calls Try.prog 24 #[.float .f64 x] w fun e w' => e = .returned (.float .f64 (flW x)) ∧ w = w' := by
  have hx2 : ∀ W : World, (callFunc 30 #[.float .f64 x]).run Try.prog W = .ok (.value (.float .f64 (flW x))) W := fun W => by
    rw [run_callFunc_extern (e := Extern.MathFloor.toIntegral "math.archFloor" .down) Try.func30 (by kernel_rfl) (by kernel_rfl) (by kernel_rfl) (by kernel_rfl)]
    obtain ⟨m, p, e1, _⟩ := read_fin double x h
    have hd : FloatKind.f64.decode x = .number (sg double x) m p := e1
    unfold flW
    have hq : ∃ N : Bool → Nat → Sem Value, Extern.MathFloor.toIntegral "math.archFloor" .down #[.float .f64 x] = (match FloatKind.f64.decode x with
      | .nan s t => N s t
      | d => pure (.float .f64 (FloatKind.f64.encode (d.integral .down)))) := ⟨_, rfl⟩
    obtain ⟨N, hN⟩ := hq
    rw [hN, hd]
    rfl
  clear h
  generalize flW x = y at *
  go_enter Try.func24, Try.ntmps24
  go_wp2
  go_ret
  exact ⟨rfl, rfl⟩

set_option maxHeartbeats 2000000 in
theorem tenthsOf_any (x : Nat) (n : Int) (h0 : 0 < x) (hx : x < 2139095040) (hn : floatToIntVal .f64 (flW (tthA (up64 x))) .i64 = some n) (w : World) : Calls Try.prog 12 #[.float .f32 x] w fun e w' => e = .returned (.tuple #[.int .i64 n, .bool true]) ∧ w = w' := by
  obtain ⟨u1, u2, u3⟩ := up64_pos h0 hx
  obtain ⟨n', t1, t2, t3, t4, _, _, _⟩ := tth_int h0 hx
  have HF := Lib.hid (isFinite_fin x (by unfold finB; simp; omega) w)
  have HL := Lib.hid (fun w => naturalLog_any (up64 x) w u2 (by omega))
  have HFL := Lib.hid (fun w => floor_any (tthA (up64 x)) t3 w)
  have hpos : FloatKind.f32.format.order x 0 = some .gt := by
    have := order_pp (x := x) (y := 0) (by omega) (by omega)
    rw [show FloatKind.f32.format = single from rfl, this, Nat.compare_eq_gt.2 h0]
  have e1 := fun W : World => run_convert_float_float (P := Try.prog) W 28 27 .f32 .f64 _ _ (by rw [Try.underlying28]; rfl) Try.underlying27 u1
  have e2 := fun W : World => run_convert_float_int (P := Try.prog) (w := W) 27 2 .f64 .i64 (flW (tthA (up64 x))) n (by rw [Try.underlying27]; rfl) Try.underlying2 hn
  have ea : fA .add .f64 (fA .mul .f64 (lnW (up64 x)) 4631308968768463603) 4602678819172646912 = tthA (up64 x) := rfl
  clear u1 u2 u3 t3 t4 h0 hx hn
  generalize tthA (up64 x) = t at *
  generalize flW t = f at *
  generalize lnW (up64 x) = l at *
  generalize up64 x = u at *
  go_enter Try.func12, Try.ntmps12
  go_wp2_with (first
    | (go_at_call 23; refine HF.out.mono ?_; rintro e w' ⟨rfl, rfl⟩)
    | (go_at_call 25; refine (HL.out _).mono ?_; rintro e w' ⟨rfl, rfl⟩)
    | (go_at_call 24; refine (HFL.out _).mono ?_; rintro e w' ⟨rfl, rfl⟩))
  go_ret2
  exact ⟨rfl, rfl⟩

set_option maxHeartbeats 400000 in
theorem specSame_any (x y : Nat) (w : World) (hx : x < 4294967296) (hy : y < 4294967296) : Calls Try.prog 13 #[.float .f32 x, .float .f32 y] w fun e w' => e = .returned (.bool (decide (cn x = cn y))) ∧ w = w' := by
  have HC := Lib.hid (l01Same_any x y w hx hy)
  generalize decide (cn x = cn y) = t at *
  go_enter Try.func13, Try.ntmps13
  go_wp2_with (go_at_call 26; refine HC.out.mono ?_; rintro e w' ⟨rfl, rfl⟩)
  go_ret
  exact ⟨rfl, rfl⟩

end Go.Proofs.Ytimhljcebeiofaa
