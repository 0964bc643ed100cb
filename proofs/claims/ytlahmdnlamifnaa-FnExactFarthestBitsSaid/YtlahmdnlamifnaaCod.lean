/- Ranges and codes. -/
import Derived.Test.YtlahmdnlamifnaaHar
namespace Go.Proofs.Ytlahmdnlamifnaa
set_option linter.unusedSimpArgs false
set_option linter.unusedVariables false
open Go.RowKit

/-- n lies from lo to hi. -/
def inB (n lo hi : Int) : Bool := decide (lo ≤ n ∧ n ≤ hi)
theorem inB_true {n lo hi : Int} (h : inB n lo hi = true) : lo ≤ n ∧ n ≤ hi := of_decide_eq_true h
theorem inB_false {n lo hi : Int} (h : inB n lo hi = false) : ¬ (lo ≤ n ∧ n ≤ hi) := of_decide_eq_false h

set_option maxHeartbeats 400000 in
theorem within_any (n lo hi : Int) (w : World) : Calls Try.prog 47 #[.int .i64 n, .int .i64 lo, .int .i64 hi] w fun e w' => e = .returned (.bool (inB n lo hi)) ∧ w = w' := by
  by_cases h1 : lo ≤ n
  · by_cases h2 : n ≤ hi
    · have H : Hid (true = inB n lo hi) := (decide_eq_true ⟨h1, h2⟩).symm
      go_enter Try.func47, Try.ntmps47
      go_wp2
      go_ret
      exact ⟨ret_bool H.out, rfl⟩
    · have H : Hid (false = inB n lo hi) := (decide_eq_false (fun h => h2 h.2)).symm
      go_enter Try.func47, Try.ntmps47
      go_wp2
      go_ret
      exact ⟨ret_bool H.out, rfl⟩
  · have H : Hid (false = inB n lo hi) := (decide_eq_false (fun h => h1 h.1)).symm
    go_enter Try.func47, Try.ntmps47
    go_wp2
    go_ret
    exact ⟨ret_bool H.out, rfl⟩

set_option maxHeartbeats 400000 in
theorem l00In_any (n lo hi : Int) (w : World) : Calls Try.prog 44 #[.int .i64 n, .int .i64 lo, .int .i64 hi] w fun e w' => e = .returned (.bool (inB n lo hi)) ∧ w = w' := by
  by_cases h1 : lo ≤ n
  · by_cases h2 : n ≤ hi
    · have H : Hid (true = inB n lo hi) := (decide_eq_true ⟨h1, h2⟩).symm
      go_enter Try.func44, Try.ntmps44
      go_wp2
      go_ret
      exact ⟨ret_bool H.out, rfl⟩
    · have H : Hid (false = inB n lo hi) := (decide_eq_false (fun h => h2 h.2)).symm
      go_enter Try.func44, Try.ntmps44
      go_wp2
      go_ret
      exact ⟨ret_bool H.out, rfl⟩
  · have H : Hid (false = inB n lo hi) := (decide_eq_false (fun h => h1 h.1)).symm
    go_enter Try.func44, Try.ntmps44
    go_wp2
    go_ret
    exact ⟨ret_bool H.out, rfl⟩

end Go.Proofs.Ytlahmdnlamifnaa
