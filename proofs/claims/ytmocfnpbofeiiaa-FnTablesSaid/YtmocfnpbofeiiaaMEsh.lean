/- The harness of the laws on floats: marks; channels and tables. -/
import Derived.Test.YtmocfnpbofeiiaaMHrf
import Derived.Test.YtmocfnpbofeiiaaMTbe
import Derived.Test.YtmocfnpbofeiiaaMHmx
namespace Go.Proofs.Ytmocfnpbofeiiaa
set_option linter.unusedSimpArgs false
set_option linter.unusedVariables false
open Go.RowKit

end Go.Proofs.Ytmocfnpbofeiiaa

/- Entropies of lists of rows: the contracts on both sides. -/
namespace Go.Proofs.Ytmocfnpbofeiiaa
set_option linter.unusedSimpArgs false
set_option linter.unusedVariables false
open Go.RowKit

def eo (xs : List Nat) : Nat × Bool := if rowB xs then (fz (entF xs), finB (entF xs)) else (0, false)
theorem eo_no {xs : List Nat} (h : rowB xs = false) : eo xs = (0, false) := by unfold eo; rw [h]; rfl
theorem eo_yes {xs : List Nat} (h : rowB xs = true) : eo xs = (fz (entF xs), finB (entF xs)) := by unfold eo; rw [h]; rfl

set_option maxHeartbeats 1000000 in
theorem implEntropyOf_any (v : Value) (xs : List Nat) (w : World) (hv : SlR w v (xs.map (Value.float .f32))) (hx : ∀ x ∈ xs, x < 4294967296) :
    Calls Try.prog 33 #[v] w fun e w' => e = .returned (.tuple #[.float .f32 (eo xs).1, .bool (eo xs).2]) ∧ Qu w w' := by
  obtain ⟨a, n, c, rfl, -, -, -, -⟩ := SlR.opened 0 hv
  have HX := Lib.hid hx
  clear hx
  generalize hd : rowB xs = d
  have HD := Lib.hid hd
  cases d
  · rw [eo_no hd]
    clear hd
    go_enter Try.func33, Try.ntmps33
    go_wp2_with (go_at_call 50; refine (isRow_any _ xs _ hv HX.out).mono ?_; rw [HD.out]; rintro e w' ⟨rfl, m', rfl⟩)
    go_ret2
    exact ⟨rfl, _, rfl⟩
  · obtain ⟨p1, p2, p3⟩ := rowB_one hd
    have HL : Hid (xs.length ≤ 64) := by show xs.length ≤ 64; omega
    have HE := Lib.hid (one_en p3)
    rw [eo_yes hd]
    clear hd p1 p2 p3
    generalize hen : entF xs = r
    have HR := Lib.hid hen
    clear hen
    go_enter Try.func33, Try.ntmps33
    go_wp2_with (first
      | (go_at_call 50; refine (isRow_any _ xs _ hv HX.out).mono ?_; rw [HD.out]; rintro e w1 ⟨rfl, hqu⟩; have hv2 := hv.below hqu.keep)
      | (go_at_call 80; refine (entropy_any _ xs _ hv2 HE.out HL.out).mono ?_; rw [HR.out]; rintro e w2 ⟨rfl, hqu2⟩)
      | (go_at_call 63; refine (asNumber_any _ _).mono ?_; rintro e w5 ⟨rfl, hqu5⟩))
    go_ret2
    exact ⟨rfl, (hqu.trans hqu2).trans hqu5⟩

end Go.Proofs.Ytmocfnpbofeiiaa
