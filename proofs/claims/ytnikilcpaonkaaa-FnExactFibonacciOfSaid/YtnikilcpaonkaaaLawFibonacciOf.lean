/- The walk of the law FnExactFibonacciOf, out of the contracts of what it calls. -/
import Derived.Test.YtnikilcpaonkaaaFib3
import Derived.Deep.RegionHeld3
namespace Go.Proofs.Ytnikilcpaonkaaa
open Go.RowKit

set_option maxHeartbeats 4000000 in
theorem law_FibonacciOf (w : World) (aN : Int) (haN : I64 aN) :
    Calls Try.prog 3 #[.int .i64 aN] w fun e w' => e = .returned (.bool true) ∧ Below w.heap.size w w' := by
  go_enter Try.func3, Try.ntmps3
  go_wp2_with fail
  have hF : Fr w w := by (show Below _ _ _); go_grown
  generalize hO : out_FibonacciOf aN = o
  obtain ⟨o0, o1⟩ := o
  have HO := Lib.hid hO
  clear hO
  refine (spec_FibonacciOf _ aN haN).mono ?_
  rw [HO.out]
  dsimp only
  rintro e W1 ⟨rfl, hb⟩
  replace hF := Fr.step hF hb
  clear hb
  have hE := Fr.refl W1
  have hFE := hF
  go_wp2_with fail
  refine (impl_FibonacciOf _ aN haN).mono ?_
  rw [HO.out]
  dsimp only
  rintro e W2 ⟨rfl, hb⟩
  replace hF := Fr.step hF hb
  replace hE := Fr.step hE hb
  clear hb
  go_wp2_with fail
  go_ret
  exact ⟨rfl, hF⟩

end Go.Proofs.Ytnikilcpaonkaaa
