/- The program's contracts at tables of counts, for the law FnTables. -/
import Derived.Test.YtmocfnpbofeiiaaMTtQ
import Derived.Test.YtmocfnpbofeiiaaMTbG
import Derived.Test.YtmocfnpbofeiiaaMTtb
import Derived.Test.YtmocfnpbofeiiaaMSam
import Derived.Test.YtmocfnpbofeiiaaMEsh
namespace Go.Proofs.Ytmocfnpbofeiiaa
set_option linter.unusedSimpArgs false
set_option linter.unusedVariables false
open Go.RowKit
open Ieee
theorem sameB_self (xs : List Nat) : sameB xs xs = true := by unfold sameB; simp

set_option maxRecDepth 4000 in
set_option maxHeartbeats 2000000 in
theorem SameTable_any (a m : Nat) (xs : List Nat) (u v : Value) (w : World) (hu : SlR w u (xs.map (Value.float .f32))) (hv : SlR w v (xs.map (Value.float .f32))) (hx : ∀ x ∈ xs, x < 4294967296) :
    Calls Try.prog 35 #[.agg #[.int .i64 (a : Int), .int .i64 (m : Int), u], .agg #[.int .i64 (a : Int), .int .i64 (m : Int), v]] w fun e w' => e = .returned (.bool true) ∧ Below w.heap.size w w' := by
  obtain ⟨W0, hW0⟩ : ∃ W0, W0 = (w.alloc (.cells #[.int .i64 (a : Int), .int .i64 (m : Int), u] 47)).alloc (.cells #[.int .i64 (a : Int), .int .i64 (m : Int), v] 47) := ⟨_, rfl⟩
  have hb0 : Below w.heap.size w W0 := by rw [hW0]; go_grown
  have c0 : W0.cell? ⟨w.heap.size, 0, none⟩ = some (.int .i64 (a : Int)) := by rw [hW0]; go_cell
  have c1 : W0.cell? ⟨w.heap.size, 1, none⟩ = some (.int .i64 (m : Int)) := by rw [hW0]; go_cell
  have c2 : W0.cell? ⟨w.heap.size, 2, none⟩ = some u := by rw [hW0]; go_cell
  have d0 : W0.cell? ⟨w.heap.size + 1, 0, none⟩ = some (.int .i64 (a : Int)) := by rw [hW0]; go_cell
  have d1 : W0.cell? ⟨w.heap.size + 1, 1, none⟩ = some (.int .i64 (m : Int)) := by rw [hW0]; go_cell
  have d2 : W0.cell? ⟨w.heap.size + 1, 2, none⟩ = some v := by rw [hW0]; go_cell
  have HE : Hid (Calls Try.prog 84 #[u, v, .func (.func 85) #[] #[]] W0 fun e w' => e = .returned (.bool true) ∧ Qu W0 w') := Lib.hid (by
    have := slEqualFunc_any u v xs xs W0 (hu.below hb0) (hv.below hb0) hx hx
    rwa [sameB_self] at this)
  have HB0 := Lib.hid hb0
  obtain ⟨ua, un, uc, rfl, -⟩ := SlR.opened 0 hu
  obtain ⟨va, vn, vc, rfl, -⟩ := SlR.opened 0 hv
  clear hu hv hx hb0
  go_enter Try.func35, Try.ntmps35
  go_upto_region 1 with fail
  rw [← hW0]
  clear hW0
  go_wp2_with (go_at_call 84; refine HE.out.mono ?_; rintro e w1 ⟨rfl, hq⟩)
  go_ret
  exact ⟨rfl, HB0.out.trans (hq.below _)⟩

end Go.Proofs.Ytmocfnpbofeiiaa
