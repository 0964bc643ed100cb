/- When two numbers, or two lists of them, are the same. -/
import Derived.Test.YtimhljcebeiofaaFlt
import Derived.Laws.StandIn
namespace Go.Proofs.Ytimhljcebeiofaa
set_option linter.unusedSimpArgs false
set_option linter.unusedVariables false
open Go.RowKit

/-- The bits of a number; of a not-a-number always the same ones. -/
def cn (x : Nat) : Nat := if nanB x then 2143289344 else x
def sameB (xs ys : List Nat) : Bool := decide (xs.map cn = ys.map cn)

theorem int_beq (a b : Nat) : ((a : Int) == (b : Int)) = decide (a = b) := by
  by_cases h : a = b
  · subst h; simp
  · rw [decide_eq_false h]; simp; omega
theorem neq_self_f (x : Nat) : (FloatKind.f32.format.order x x != some .eq) = nanB x := by
  have h := order_self x
  have e : (Ieee.single.order x x != some .eq) = !(Ieee.single.order x x == some .eq) := rfl
  show (Ieee.single.order x x != some .eq) = _
  rw [e, h, Bool.not_not]


theorem run_f32bits (x : Nat) (w : World) : (callFunc 37 #[.float .f32 x]).run Try.prog w = .ok (.value (.int .u32 x)) w := by
  rw [run_callFunc_extern (e := Extern.MathFloatBits.float32bits) Try.func37 (by kernel_rfl) (by kernel_rfl) (by kernel_rfl) (by kernel_rfl)]
  rfl

theorem run_f64bits (x : Nat) (w : World) : (callFunc 28 #[.float .f64 x]).run Try.prog w = .ok (.value (.int .u64 x)) w := by
  rw [run_callFunc_extern (e := Extern.MathFloatBits.float64bits) Try.func28 (by kernel_rfl) (by kernel_rfl) (by kernel_rfl) (by kernel_rfl)]
  rfl

set_option maxHeartbeats 400000 in
theorem l01Bits_any (x : Nat) (w : World) (hx : x < 4294967296) : Calls Try.prog 32 #[.float .f32 x] w fun e w' => e = .returned (.int .i64 (cn x)) ∧ w = w' := by
  have h := neq_self_f x
  have hrun := run_f32bits x
  cases hn : nanB x
  · have HC : Hid (cn x = x) := by show cn x = x; unfold cn; rw [hn]; rfl
    rw [hn] at h
    clear hn
    go_enter Try.func32, Try.ntmps32
    go_wp2
    go_ret
    refine ⟨ret_int ?_, rfl⟩
    first | rfl | (rw [HC.out]) | (rw [HC.out]; exact IntWalk.i64_in _ (by omega))
  · have HC : Hid (cn x = 2143289344) := by show cn x = _; unfold cn; rw [hn]; rfl
    rw [hn] at h
    clear hn
    go_enter Try.func32, Try.ntmps32
    go_wp2
    go_ret
    exact ⟨ret_int (by rw [HC.out]; rfl), rfl⟩

set_option maxHeartbeats 400000 in
theorem l01Same_any (x y : Nat) (w : World) (hx : x < 4294967296) (hy : y < 4294967296) : Calls Try.prog 26 #[.float .f32 x, .float .f32 y] w fun e w' => e = .returned (.bool (decide (cn x = cn y))) ∧ w = w' := by
  by_cases h : cn x = cn y
  all_goals
    have HC := Lib.hid h
    have ht := int_beq (cn x) (cn y)
    generalize decide (cn x = cn y) = t at *
    clear h
    go_enter Try.func26, Try.ntmps26
    go_wp2_with (go_at_call 32; refine (l01Bits_any _ _ (by assumption)).mono ?_; rintro e w' ⟨rfl, rfl⟩)
    go_ret
    exact ⟨rfl, rfl⟩

end Go.Proofs.Ytimhljcebeiofaa
