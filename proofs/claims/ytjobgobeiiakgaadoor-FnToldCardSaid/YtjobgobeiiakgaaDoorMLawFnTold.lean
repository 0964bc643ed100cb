/- The law FnTold: the whole walk. -/
import Derived.Test.YtjobgobeiiakgaaDoorMTld
import Derived.Test.YtjobgobeiiakgaaDoorMRdb
namespace Go.Proofs.YtjobgobeiiakgaaDoor
set_option linter.unusedSimpArgs false
set_option linter.unusedVariables false
open Go.RowKit

set_option maxRecDepth 100000 in
theorem law_FnTold (w : World) (a1 : Option Addr) (c1 : Nat) (code : List UInt8) (_ : code.length ≤ c1 ∧ c1 ≤ 9223372036854775807) (s1 : SlR w (.slice a1 code.length c1) (byv code)) (_ : ∀ x ∈ code, True) (a2 : Option Addr) (c2 : Nat) (more : List UInt8) (_ : more.length ≤ c2 ∧ c2 ≤ 9223372036854775807) (s2 : SlR w (.slice a2 more.length c2) (byv more)) (_ : ∀ x ∈ more, True) :
    Calls Tryd.prog 4 #[.slice a1 code.length c1, .slice a2 more.length c2] w fun e w' => e = .returned (.bool true) ∧ Below w.heap.size w w' := by
  by_cases h : code.length ≤ 48 ∧ more.length ≤ 48
  · exact tld_walk w a1 a2 c1 c2 code more _ _ rfl rfl h.1 h.2 s1 s2
  · have HL := Lib.hid (r8Long_any _ _ code more w s1 s2)
    rw [show (decide (48 < code.length) || decide (48 < more.length)) = true by simp; omega] at HL
    clear s1 s2 h
    generalize code.length = n1 at *
    generalize more.length = n2 at *
    go_enter Tryd.func4, Tryd.ntmps4
    go_wp2_with (go_at_call 5; refine HL.out.mono ?_; rintro e w' ⟨rfl, rfl⟩)
    go_ret
    exact ⟨rfl, Below.refl _ _⟩

end Go.Proofs.YtjobgobeiiakgaaDoor
