/- Texts of bits: what walks over them share. -/
import Derived.Test.YtjobgobeiiakgaaDoorMTxt
import Derived.Test.YtjobgobeiiakgaaDoorMRun
import Derived.Test.YtjobgobeiiakgaaDoorMHar
import Derived.IntWalk
namespace Go.Proofs.YtjobgobeiiakgaaDoor
set_option linter.unusedSimpArgs false
set_option linter.unusedVariables false
open Go.RowKit

/-- The bytes of a word of a list. -/
def wbx (ws : List ByteArray) (n : Nat) : List UInt8 := (ws[n]?.getD ⟨#[]⟩).data.toList
theorem wbx_eq (ws : List ByteArray) (n : Nat) : ws[n]?.getD ⟨#[]⟩ = ⟨(wbx ws n).toArray⟩ := by unfold wbx; simp
theorem ba_eta (s : ByteArray) : (⟨s.data.toList.toArray⟩ : ByteArray) = s := by cases s; simp
theorem bits_len {l : List UInt8} (h : bitsOk l = true) : l.length ≤ 512 := by
  unfold bitsOk at h; simp only [Bool.and_eq_true, decide_eq_true_eq] at h; exact h.1
theorem isE_false {r : List UInt8} (h : r ≠ []) : r.isEmpty = false := by cases r; exact absurd rfl h; rfl
theorem run_cut_d (l : List UInt8) (k : Nat) (h : k ≤ l.length) (W : World) :
    (Instr.slice 9 (.string ⟨l.toArray⟩) (some (.int .i64 (k : Int))) none none).run Tryd.prog W = .ok (.string ⟨(l.drop k).toArray⟩) W := by
  rw [run_slice_string_l (h0 := by omega) (h1 := by show (k : Int) ≤ ((l.toArray.size : Nat) : Int); simp; omega)]
  · rw [show (ByteArray.mk l.toArray).size = l.toArray.size from rfl, ByteArray.extract_mk, List.take_of_length_le (by simp)]
    rfl
  · exact Tryd.underlying9

end Go.Proofs.YtjobgobeiiakgaaDoor
