/- The harness of the laws on floats: copies, sizes, comparisons, marks; channels and tables. -/
import Derived.Test.YtmocfnpbofeiiaaMHar
import Derived.Test.YtmocfnpbofeiiaaMFw
import Derived.Deep.RegionHeld3
namespace Go.Proofs.Ytmocfnpbofeiiaa
set_option linter.unusedSimpArgs false
set_option linter.unusedVariables false
open Go.RowKit

/-- The bits that a not-a-number gets when it is made wider. -/
def nq (z : Nat) (w : World) : Nat := (w.tape w.drawn (.nanConv .f64 z) % 2) * 2 ^ 63 + 0x7ff0000000000000 + 1 + (w.tape w.drawn (.nanConv .f64 z) / 2) % (2 ^ 52 - 1)
theorem run_conv_nan (w : World) {z : Nat} (h : nanB z = true) : (convert 32 29 (.float .f32 z)).run Try.prog w = .ok (.float .f64 (nq z w)) w.drew := by
  obtain ⟨s, t, hr⟩ := nan_read h
  have hd : FloatKind.decode .f32 z = .nan s t := hr
  simp [convert, run_underlying Try.underlying32, run_underlying Try.underlying29, Conv.floatToFloat, hd, choose, Sem.run, Question.forced, Question.cut, nq]
theorem nq_nan (z : Nat) (w : World) : FloatKind.f64.format.order (nq z w) (nq z w) = none := by
  have hn : ∀ t : Nat, ∃ s u, Ieee.double.read ((t % 2) * 2 ^ 63 + 0x7ff0000000000000 + 1 + (t / 2) % (2 ^ 52 - 1)) = .nan s u := by
    intro t
    unfold Ieee.Format.read
    dsimp only
    have hb : Ieee.double.binade = 4503599627370496 := by decide
    rw [d_sw, d_inf, hb]
    have h : 9218868437227405312 < (t % 2 * 2 ^ 63 + 0x7ff0000000000000 + 1 + t / 2 % (2 ^ 52 - 1)) % 9223372036854775808 := by
      rcases Nat.mod_two_eq_zero_or_one t with h | h <;> rw [h] <;> omega
    rw [if_neg (by omega), if_neg (by omega), if_neg (by omega)]
    exact ⟨_, _, rfl⟩
  obtain ⟨s, u, hr⟩ := hn (w.tape w.drawn (.nanConv .f64 z))
  show Ieee.double.order _ _ = none
  unfold Ieee.Format.order nq
  rw [hr]; rfl

end Go.Proofs.Ytmocfnpbofeiiaa
