/- Numbers' bits and back, and sameness of complex numbers. -/
import Derived.Test.YtimhljcebeiofaaGreatDoorSam
import Derived.Test.YtimhljcebeiofaaGreatDoorPrT
import Derived.IntWalk
namespace Go.Proofs.YtimhljcebeiofaaGreatDoor
set_option linter.unusedSimpArgs false
set_option linter.unusedVariables false
open Go.RowKit
theorem bC_cn (x : Nat) : bC x = cn x := rfl

theorem run_f32from (n : Nat) (w : World) : (callFunc 44 #[.int .u32 (n : Int)]).run Tryz.prog w = .ok (.value (.float .f32 n)) w := by
  rw [run_callFunc_extern (e := Extern.MathFloatBits.float32frombits) Tryz.func44 (by kernel_rfl) (by kernel_rfl) (by kernel_rfl) (by kernel_rfl)]
  rfl

set_option maxHeartbeats 400000 in
theorem bitsOfI_any (x : Nat) (w : World) (hx : x < 4294967296) : Calls Tryz.prog 20 #[.float .f32 x] w fun e w' => e = .returned (.int .i64 (cn x)) ∧ w = w' := by
  have h := neq_self_f x
  have hrun := run_f32bits x
  cases hn : nanB x
  · have HC : Hid (cn x = x) := by show cn x = x; unfold cn; rw [hn]; rfl
    rw [hn] at h
    clear hn
    go_enter Tryz.func20, Tryz.ntmps20
    go_wp2
    go_ret
    refine ⟨ret_int ?_, rfl⟩
    first | rfl | (rw [HC.out]) | (rw [HC.out]; exact IntWalk.i64_in _ (by omega))
  · have HC : Hid (cn x = 2143289344) := by show cn x = _; unfold cn; rw [hn]; rfl
    rw [hn] at h
    clear hn
    go_enter Tryz.func20, Tryz.ntmps20
    go_wp2
    go_ret
    exact ⟨ret_int (by rw [HC.out]; rfl), rfl⟩

set_option maxHeartbeats 400000 in
theorem fromBits_any (n : Nat) (w : World) (hn : n < 4294967296) : Calls Tryz.prog 19 #[.int .i64 (n : Int)] w fun e w' => e = .returned (.tuple #[.float .f32 n, .bool true]) ∧ w = w' := by
  have HI : Hid (inB (n : Int) 0 4294967295 = true) := Lib.hid (by unfold inB; exact decide_eq_true (by omega))
  have hrun := run_f32from n
  go_enter Tryz.func19, Tryz.ntmps19
  go_wp2_with (go_at_call 43; refine (within_any _ _ _ _).mono ?_; rw [HI.out]; rintro e w1 ⟨rfl, rfl⟩)
  go_ret2
  exact ⟨rfl, rfl⟩

set_option maxHeartbeats 400000 in
theorem l01From_any (n : Nat) (w : World) (hn : n < 4294967296) : Calls Tryz.prog 41 #[.int .i64 (n : Int)] w fun e w' => e = .returned (.float .f32 n) ∧ w = w' := by
  have hrun := run_f32from n
  go_enter Tryz.func41, Tryz.ntmps41
  go_wp2
  go_ret
  exact ⟨rfl, rfl⟩

set_option maxHeartbeats 400000 in
theorem sameComplex_any (a b c d : Nat) (w : World) (ha : a < 4294967296) (hb : b < 4294967296) (hc : c < 4294967296) (hd : d < 4294967296) : Calls Tryz.prog 23 #[.complex .f32 a b, .complex .f32 c d] w fun e w' => e = .returned (.bool (decide (cn a = cn c) && decide (cn b = cn d))) ∧ w = w' := by
  have H1 := Lib.hid (sameNumber_any a c w ha hc)
  have H2 := Lib.hid (sameNumber_any b d w hb hd)
  clear ha hb hc hd
  generalize decide (cn a = cn c) = t at *
  generalize decide (cn b = cn d) = s at *
  cases t
  all_goals
    go_enter Tryz.func23, Tryz.ntmps23
    go_wp2_with (first
      | (go_at_call 49; with_reducible refine H2.out.mono ?_; rintro e w' ⟨rfl, rfl⟩)
      | (go_at_call 49; with_reducible refine H1.out.mono ?_; rintro e w' ⟨rfl, rfl⟩))
    go_ret
    exact ⟨rfl, rfl⟩

set_option maxHeartbeats 400000 in
theorem l01CSame_any (a b c d : Nat) (w : World) (ha : a < 4294967296) (hb : b < 4294967296) (hc : c < 4294967296) (hd : d < 4294967296) : Calls Tryz.prog 63 #[.complex .f32 a b, .complex .f32 c d] w fun e w' => e = .returned (.bool (decide (cn a = cn c) && decide (cn b = cn d))) ∧ w = w' := by
  have H1 := Lib.hid (l01Same_any a c w ha hc)
  have H2 := Lib.hid (l01Same_any b d w hb hd)
  clear ha hb hc hd
  generalize decide (cn a = cn c) = t at *
  generalize decide (cn b = cn d) = s at *
  cases t
  all_goals
    go_enter Tryz.func63, Tryz.ntmps63
    go_wp2_with (first
      | (go_at_call 32; with_reducible refine H2.out.mono ?_; rintro e w' ⟨rfl, rfl⟩)
      | (go_at_call 32; with_reducible refine H1.out.mono ?_; rintro e w' ⟨rfl, rfl⟩))
    go_ret
    exact ⟨rfl, rfl⟩

end Go.Proofs.YtimhljcebeiofaaGreatDoor
