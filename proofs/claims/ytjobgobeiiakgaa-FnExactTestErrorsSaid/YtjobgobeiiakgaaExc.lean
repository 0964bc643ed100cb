/- The exponential function's contracts, and those of the logarithm at zero. -/
import Derived.Test.YtjobgobeiiakgaaExm
import Derived.Laws.Externs
namespace Go.Proofs.Ytjobgobeiiakgaa
set_option linter.unusedSimpArgs false
set_option linter.unusedVariables false
open Go.RowKit

theorem ord_fge {k : FloatKind} {x y : Nat} (hx : Fnt k.format x) (hy : Fnt k.format y) (h : sv k.format y ≤ sv k.format x) : ∃ o, k.format.order x y = some o ∧ o ≠ .lt := by
  obtain ⟨_, b, c⟩ := order_fin hx hy
  by_cases h1 : sv k.format x = sv k.format y
  · exact ⟨.eq, b.2 h1, by decide⟩
  · exact ⟨.gt, c.2 (by grind), by decide⟩
theorem ord_flt {k : FloatKind} {x y : Nat} (hx : Fnt k.format x) (hy : Fnt k.format y) (h : sv k.format x < sv k.format y) : k.format.order x y = some .lt := (order_fin hx hy).1.2 h
theorem ord_feq {k : FloatKind} {x : Nat} (hx : Fnt k.format x) : k.format.order x x = some .eq := (order_fin hx hx).2.1.2 rfl
theorem f12_ge : ∀ j : Nat, j < 12 → ∃ o, FloatKind.f64.format.order (floatOfInt .f64 (12 - (j : Int))) 4607182418800017408 = some o ∧ o ≠ .lt := by decide +kernel
theorem f12_end : FloatKind.f64.format.order (floatOfInt .f64 (12 - ((12 : Nat) : Int))) 4607182418800017408 = some .lt := by decide +kernel
theorem f12_sub : ∀ j : Nat, j < 12 → (floatBits .sub .f64 (floatOfInt .f64 (12 - (j : Int))) 4607182418800017408).isSome = true ∧ fA .sub .f64 (floatOfInt .f64 (12 - (j : Int))) 4607182418800017408 = floatOfInt .f64 (12 - ((j + 1 : Nat) : Int)) := by decide +kernel
def exI (x : Value) : Nat := ((List.range 13).find? fun (i : Nat) => floatOfInt .f64 (12 - (i : Int)) == fltOf x).getD 0
theorem exI_all : ∀ i : Nat, i < 13 → exI (.float .f64 (floatOfInt .f64 (12 - (i : Int)))) = i := by decide +kernel
theorem fnt200 : Fnt Ieee.single 1128792064 ∧ Fnt Ieee.single 3276275712 ∧ Fnt Ieee.double 4641240890982006784 ∧ Fnt Ieee.double 13864612927836782592 := by
  refine ⟨?_, ?_, ?_, ?_⟩ <;> (unfold Fnt; decide)

set_option maxHeartbeats 1000000 in
theorem mathInf_neg (w : World) : Calls Try.prog 112 #[.int .i64 (-1)] w fun e w' => e = .returned (.float .f64 18442240474082181120) ∧ w = w' := by
  have hx : ∀ W : World, (callFunc 124 #[.int .u64 18442240474082181120]).run Try.prog W = .ok (.value (.float .f64 18442240474082181120)) W := fun W => by
    rw [run_callFunc_extern (e := Extern.MathFloatBits.float64frombits) Try.func124 (by kernel_rfl) (by kernel_rfl) (by kernel_rfl) (by kernel_rfl)]
    rfl
  go_enter Try.func112, Try.ntmps112
  go_wp2
  go_ret
  exact ⟨rfl, rfl⟩

end Go.Proofs.Ytjobgobeiiakgaa
