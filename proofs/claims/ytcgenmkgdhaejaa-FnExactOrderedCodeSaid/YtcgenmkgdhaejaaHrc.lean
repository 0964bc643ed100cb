/- The harness of the laws on codes: marks. -/
import Derived.Test.YtcgenmkgdhaejaaHar
namespace Go.Proofs.Ytcgenmkgdhaejaa
set_option linter.unusedSimpArgs false
set_option linter.unusedVariables false
open Go.RowKit

set_option maxHeartbeats 400000 in
theorem markCode_any (a : Option Addr) (n c : Nat) (xs : List Value) (k : Int) (B : Nat) (w : World) (h0 : 0 ≤ k) (h1 : k ≤ 1048576) (hn : n ≤ 1048576) (hown : w.ownsRow B 2 1 (.slice a n c) n xs) :
    Calls Try.prog 15 #[.agg #[.slice a n c], .int .i64 k] w fun e w' => e = .returned (.int .i64 (k + n)) ∧ w'.ownsRow B 2 1 (.slice a n c) n ((marks k n).map (fun q => Value.int .i64 q)) ∧ w.grownBy w' (Value.slice a n c).ownBlock := by
  have hg0 := World.grownBy_alloc w (.cells #[.slice a n c] 24) (Value.slice a n c).ownBlock
  go_enter Try.func15, Try.ntmps15
  go_wp2_with (go_at_call 14; refine (markInt64S_any _ _ _ xs _ B _ h0 h1 hn (hown.alloc _)).mono ?_; rintro e w1 ⟨rfl, ho, hg⟩)
  go_ret
  exact ⟨rfl, ho, grownBy_trans hg0 hg⟩

set_option maxHeartbeats 400000 in
theorem heldCode_any (v : Value) (n : Nat) (k : Int) (w : World) (h0 : 0 ≤ k) (h1 : k ≤ 1048576) (hn : n ≤ 1048576) (hv : SlR w v ((marks k n).map (fun q => Value.int .i64 q))) :
    Calls Try.prog 16 #[.agg #[v], .int .i64 k] w fun e w' => e = .returned (.int .i64 (k + n)) ∧ Below w.heap.size w w' := by
  have HB : Below w.heap.size w (w.alloc (.cells #[v] 24)) := (Below.refl _ _).alloc (Nat.le_refl _) _
  have hx : ¬ k + (n : Int) < 0 := by omega
  go_enter Try.func16, Try.ntmps16
  go_wp2_with (go_at_call 39; refine (heldInt64S_any _ n _ _ h0 h1 hn (hv.below HB)).mono ?_; rintro e w' ⟨rfl, rfl⟩)
  go_ret
  exact ⟨rfl, HB⟩

end Go.Proofs.Ytcgenmkgdhaejaa
