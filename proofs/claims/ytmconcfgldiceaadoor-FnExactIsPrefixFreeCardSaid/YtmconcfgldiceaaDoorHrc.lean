/- The harness of the laws on codes: marks. -/
import Derived.Test.YtmconcfgldiceaaDoorHar
namespace Go.Proofs.YtmconcfgldiceaaDoor
set_option linter.unusedSimpArgs false
set_option linter.unusedVariables false
open Go.RowKit

set_option maxHeartbeats 400000 in
theorem markCode_any (a : Option Addr) (n c : Nat) (xs : List Value) (k : Int) (B : Nat) (w : World) (h0 : 0 ≤ k) (h1 : k ≤ 1048576) (hn : n ≤ 1048576) (hown : w.ownsRow B 2 1 (.slice a n c) n xs) :
    Calls Tryd.prog 22 #[.agg #[.slice a n c], .int .i64 k] w fun e w' => e = .returned (.int .i64 (k + n)) ∧ w'.ownsRow B 2 1 (.slice a n c) n ((marks k n).map (fun q => Value.int .i64 q)) ∧ w.grownBy w' (Value.slice a n c).ownBlock := by
  have hg0 := World.grownBy_alloc w (.cells #[.slice a n c] 39) (Value.slice a n c).ownBlock
  go_enter Tryd.func22, Tryd.ntmps22
  go_wp2_with (go_at_call 10; refine (markInt64S_any _ _ _ xs _ B _ h0 h1 hn (hown.alloc _)).mono ?_; rintro e w1 ⟨rfl, ho, hg⟩)
  go_ret
  exact ⟨rfl, ho, grownBy_trans hg0 hg⟩

end Go.Proofs.YtmconcfgldiceaaDoor
