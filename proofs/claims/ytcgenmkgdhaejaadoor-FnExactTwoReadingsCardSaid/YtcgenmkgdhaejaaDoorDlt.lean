/- Texts of bits: what walks over them share. -/
import Derived.Test.YtcgenmkgdhaejaaDoorTxt
import Derived.Test.YtcgenmkgdhaejaaDoorRun
import Derived.Test.YtcgenmkgdhaejaaDoorHar
import Derived.IntWalk
namespace Go.Proofs.YtcgenmkgdhaejaaDoor
set_option linter.unusedSimpArgs false
set_option linter.unusedVariables false
open Go.RowKit

/-- The bytes of a word of a list. -/
def wbx (ws : List ByteArray) (n : Nat) : List UInt8 := (ws[n]?.getD ⟨#[]⟩).data.toList
theorem wbx_eq (ws : List ByteArray) (n : Nat) : ws[n]?.getD ⟨#[]⟩ = ⟨(wbx ws n).toArray⟩ := by unfold wbx; simp
theorem ba_eta (s : ByteArray) : (⟨s.data.toList.toArray⟩ : ByteArray) = s := by cases s; simp
theorem bits_len {l : List UInt8} (h : bitsOk l = true) : l.length ≤ 512 := by
  unfold bitsOk at h; simp only [Bool.and_eq_true, decide_eq_true_eq] at h; exact h.1
theorem isE_false {r : List UInt8} (h : r ≠ []) : r.isEmpty = false := by cases r; exact absurd rfl h; rfl
theorem run_cut_d (l : List UInt8) (k : Nat) (h : k ≤ l.length) (W : World) :
    (Instr.slice 9 (.string ⟨l.toArray⟩) (some (.int .i64 (k : Int))) none none).run Tryd.prog W = .ok (.string ⟨(l.drop k).toArray⟩) W := by
  rw [run_slice_string_l (h0 := by omega) (h1 := by show (k : Int) ≤ ((l.toArray.size : Nat) : Int); simp; omega)]
  · rw [show (ByteArray.mk l.toArray).size = l.toArray.size from rfl, ByteArray.extract_mk, List.take_of_length_le (by simp)]
    rfl
  · exact Tryd.underlying9

theorem run_cut_lh (l : List UInt8) (p n : Nat) (h : p + n ≤ l.length) (W : World) :
    (Instr.slice 9 (.string ⟨l.toArray⟩) (some (.int .i64 (p : Int))) (some (.int .i64 ((p : Int) + (n : Int)))) none).run Tryd.prog W = .ok (.string ⟨((l.drop p).take n).toArray⟩) W := by
  have h1 := run_slice_string (P := Tryd.prog) W 9 ⟨l.toArray⟩ .i64 .i64 (p : Int) ((p : Int) + (n : Int)) Tryd.underlying9 (by omega) (by omega) (by show (p : Int) + (n : Int) ≤ ((l.toArray.size : Nat) : Int); simp; omega)
  rw [h1, ByteArray.extract_mk, show ((p : Int) + (n : Int)).toNat = p + n by omega, show ((p : Int)).toNat = p by omega]
  simp [List.take_drop, Nat.add_comm]
theorem pre_take {u r : List UInt8} (h : u.length ≤ r.length) : u.isPrefixOf r = decide (r.take u.length = u) := by
  rw [Bool.eq_iff_iff, List.isPrefixOf_iff_prefix, List.prefix_iff_eq_take, decide_eq_true_iff]
  exact eq_comm

set_option maxHeartbeats 1000000 in
theorem begins_any (l : List UInt8) (p : Nat) (u : List UInt8) (w : World) (hp : p ≤ l.length) (hl : l.length ≤ 1048576) (hu : u.length ≤ 1048576) :
    Calls Tryd.prog 27 #[.string ⟨l.toArray⟩, .int .i64 (p : Int), .string ⟨u.toArray⟩] w fun e w' => e = .returned (.bool (u.isPrefixOf (l.drop p))) ∧ w = w' := by
  have e1 : IntKind.i64.wrap ((p : Int) + (u.length : Int)) = (p : Int) + (u.length : Int) := IntWalk.i64_in _ (by omega)
  by_cases h : p + u.length ≤ l.length
  · have hcut := run_cut_lh l p u.length h
    have hpt := Lib.hid (pre_take (u := u) (r := l.drop p) (by rw [List.length_drop]; omega))
    have k1 : (p : Int) + (u.length : Int) ≤ (l.length : Int) := by omega
    obtain ⟨res, hres⟩ : ∃ res, res = u.isPrefixOf (l.drop p) := ⟨_, rfl⟩
    rw [← hres] at hpt ⊢
    clear hres
    generalize (l.drop p).take u.length = z at *
    by_cases hz : z = u
    · have HR : Hid (res = true) := by show res = _; rw [hpt.out]; exact decide_eq_true hz
      subst hz
      clear hpt
      go_enter Tryd.func27, Tryd.ntmps27
      go_wp2
      go_ret
      exact ⟨ret_bool HR.out.symm, rfl⟩
    · have HR : Hid (res = false) := by show res = _; rw [hpt.out]; exact decide_eq_false hz
      clear hpt
      go_enter Tryd.func27, Tryd.ntmps27
      go_wp2
      go_ret
      exact ⟨ret_bool (by rw [HR.out]; simpa using hz), rfl⟩
  · have HR : Hid (u.isPrefixOf (l.drop p) = false) := by
      show _ = _
      rw [Bool.eq_false_iff]
      intro h2
      have := List.IsPrefix.length_le (List.isPrefixOf_iff_prefix.1 h2)
      rw [List.length_drop] at this
      omega
    have k1 : ¬ (p : Int) + (u.length : Int) ≤ (l.length : Int) := by omega
    generalize u.isPrefixOf (l.drop p) = res at *
    go_enter Tryd.func27, Tryd.ntmps27
    go_wp2
    go_ret
    exact ⟨ret_bool HR.out.symm, rfl⟩

end Go.Proofs.YtcgenmkgdhaejaaDoor
