/- Texts of bits: isBits. -/
import Derived.Test.YtjobgobeiiakgaaDoorMTrm
import Derived.WalkSmall
import Derived.Test.YtjobgobeiiakgaaDoorMBase
namespace Go.Proofs.YtjobgobeiiakgaaDoor
set_option linter.unusedSimpArgs false
set_option linter.unusedVariables false
open Go.RowKit

def bitsOk (l : List UInt8) : Bool := decide (l.length ≤ 512) && l.all isBit

set_option maxHeartbeats 400000 in
theorem isBits_any (l : List UInt8) (w : World) (hl : l.length ≤ 1048576) :
    Calls Tryd.prog 38 #[.string ⟨l.toArray⟩] w fun e w' => e = .returned (.bool (bitsOk l)) ∧ Below w.heap.size w w' := by
  have HV : Hid (bitsOk l = (decide (l.length ≤ 512) && (Lib.trimS l [48, 49]).isEmpty)) := by
    show _ = _
    unfold bitsOk
    congr 1
    rw [Bool.eq_iff_iff, List.isEmpty_iff, trim01_nil]
  have HT := Lib.hid (fun w => trim01 l w hl)
  generalize Lib.trimS l [48, 49] = z at *
  by_cases h5 : l.length ≤ 512
  · have h6 : (l.length : Int) ≤ 512 := by omega
    go_enter Tryd.func38, Tryd.ntmps38
    go_wp2_with (go_at_call 63; refine (HT.out _).mono ?_; rintro e w1 ⟨rfl, hb⟩)
    go_ret
    exact ⟨by rw [HV.out]; simp [h5], hb⟩
  · have h6 : ¬ (l.length : Int) ≤ 512 := by omega
    go_enter Tryd.func38, Tryd.ntmps38
    go_wp2
    go_ret
    exact ⟨by rw [HV.out]; simp [h5], Below.refl _ _⟩

end Go.Proofs.YtjobgobeiiakgaaDoor
