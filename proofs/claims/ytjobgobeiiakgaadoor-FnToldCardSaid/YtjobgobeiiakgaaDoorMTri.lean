/- Turns of texts: the program's comparisons. -/
import Derived.Test.YtjobgobeiiakgaaDoorMSrg
import Derived.Test.YtjobgobeiiakgaaDoorMTldB
import Derived.Test.YtjobgobeiiakgaaDoorMTxtP
import Derived.Deep.RegionHeld3
namespace Go.Proofs.YtjobgobeiiakgaaDoor
set_option linter.unusedSimpArgs false
set_option linter.unusedVariables false
open Go.RowKit
theorem run_cut_from (l : List UInt8) (k : Nat) (h : k ≤ l.length) (W : World) :
    (Instr.slice 9 (.string ⟨l.toArray⟩) (some (.int .i64 (k : Int))) none none).run Tryd.prog W = .ok (.string ⟨(l.drop k).toArray⟩) W := by
  rw [run_slice_string_l (h0 := by omega) (h1 := by show (k : Int) ≤ ((l.toArray.size : Nat) : Int); simp; omega)]
  · rw [show (ByteArray.mk l.toArray).size = l.toArray.size from rfl, ByteArray.extract_mk, List.take_of_length_le (by simp)]
    rfl
  · exact Tryd.underlying9
theorem run_cut_to (l : List UInt8) (k : Nat) (h : k ≤ l.length) (W : World) :
    (Instr.slice 9 (.string ⟨l.toArray⟩) none (some (.int .i64 (k : Int))) none).run Tryd.prog W = .ok (.string ⟨(l.take k).toArray⟩) W := by
  rw [run_slice_string_h (h0 := by omega) (h2 := by show (k : Int) ≤ ((l.toArray.size : Nat) : Int); simp; omega)]
  · rw [ByteArray.extract_mk]
    simp
  · exact Tryd.underlying9
theorem run_cut_at (l : List UInt8) (p : Nat) (h : p < l.length) (W : World) :
    (Instr.slice 9 (.string ⟨l.toArray⟩) (some (.int .i64 (p : Int))) (some (.int .i64 ((p + 1 : Nat) : Int))) none).run Tryd.prog W = .ok (.string ⟨[l[p]?.getD 0].toArray⟩) W := by
  have h1 := run_slice_string (P := Tryd.prog) W 9 ⟨l.toArray⟩ .i64 .i64 (p : Int) ((p + 1 : Nat) : Int) Tryd.underlying9 (by omega) (by omega) (by show ((p + 1 : Nat) : Int) ≤ ((l.toArray.size : Nat) : Int); simp; omega)
  rw [h1, ByteArray.extract_mk, show (((p + 1 : Nat) : Int)).toNat = p + 1 by omega, show ((p : Int)).toNat = p by omega]
  have e : (l.drop p).take 1 = [l[p]?.getD 0] := by
    rw [List.drop_eq_getElem_cons h, List.getElem?_eq_getElem h]; rfl
  rw [← e]
  simp [List.take_drop, Nat.add_comm]

set_option maxHeartbeats 1000000 in
theorem turn1_any (b : Nat) (l : List UInt8) (i : Nat) (hl : l.length ≤ 64) (hi : i ≤ l.length) (w : World) (hc : w.cell? ⟨b, 0, none⟩ = some (.string ⟨l.toArray⟩)) :
    Calls Tryd.prog 50 #[.int .i64 (i : Int), .pointer (some ⟨b, 0, none⟩)] w fun e w' => e = .returned (.string ⟨(rot l i).toArray⟩) ∧ Qu w w' := by
  have hcut1 := run_cut_from l i hi
  have hcut2 := run_cut_to l i hi
  have hcat : ∀ W, (Op.stringOp .add ⟨(l.drop i).toArray⟩ ⟨(l.take i).toArray⟩).run Tryd.prog W = .ok (.string ⟨(rot l i).toArray⟩) W := fun W => run_string_add_lists W _ _ (by simp; omega) (by simp; omega)
  generalize l.drop i = x at *
  generalize l.take i = y at *
  generalize rot l i = z at *
  go_enter Tryd.func50, Tryd.ntmps50
  go_wp2
  go_quiet (fail)
  go_wp2
  go_ret
  exact ⟨rfl, _, rfl⟩

theorem isNaNS_any (x : ByteArray) (w : World) : Calls Tryd.prog 71 #[.string x] w fun e w' => e = .returned (.bool false) ∧ w = w' := by
  have h : (x.toList != x.toList) = false := by simp
  go_enter Tryd.func71, Tryd.ntmps71
  go_wp2
  go_ret
  exact ⟨rfl, rfl⟩
theorem compareS_any (x y : List UInt8) (w : World) : Calls Tryd.prog 53 #[.string ⟨x.toArray⟩, .string ⟨y.toArray⟩] w fun e w' => e = .returned (.int .i64 (cmpS x y)) ∧ w = w' := by
  have hg := gtr_eq x y
  cases h1 : Op.bytesLess x y
  · rw [h1] at hg
    cases h2 : Op.bytesLess y x
    · have hxy : (x == y) = true := by rw [h2] at hg; simpa using hg
      clear hg
      have H : Hid (cmpS x y = 0) := by show cmpS x y = 0; unfold cmpS; rw [h1, h2]; rfl
      go_enter Tryd.func53, Tryd.ntmps53
      go_wp2_with (go_at_call 71; refine (isNaNS_any _ _).mono ?_; rintro e w' ⟨rfl, rfl⟩)
      go_ret
      exact ⟨ret_int H.out.symm, rfl⟩
    · have hxy : (x == y) = false := by rw [h2] at hg; simpa using hg
      clear hg
      have H : Hid (cmpS x y = 1) := by show cmpS x y = 1; unfold cmpS; rw [h1, h2]; rfl
      go_enter Tryd.func53, Tryd.ntmps53
      go_wp2_with (go_at_call 71; refine (isNaNS_any _ _).mono ?_; rintro e w' ⟨rfl, rfl⟩)
      go_ret
      exact ⟨ret_int H.out.symm, rfl⟩
  · have H : Hid (cmpS x y = -1) := by show cmpS x y = -1; unfold cmpS; rw [h1]; rfl
    go_enter Tryd.func53, Tryd.ntmps53
    go_wp2_with (go_at_call 71; refine (isNaNS_any _ _).mono ?_; rintro e w' ⟨rfl, rfl⟩)
    go_ret
    exact ⟨ret_int H.out.symm, rfl⟩

set_option maxHeartbeats 1000000 in
theorem tcl_any (l : List UInt8) (hl : l.length ≤ 64) (b q g : Nat) (w0 : World) (hbg : b ≠ g) (hqg : q ≠ g) (hb : w0.cell? ⟨b, 0, none⟩ = some (.string ⟨l.toArray⟩)) (hq : w0.cell? ⟨q, 0, none⟩ = some (.func (.func 50) #[] #[.pointer (some ⟨b, 0, none⟩)])) :
    ClG Tryd.prog 52 (.pointer (some ⟨q, 0, none⟩)) (some g) l.length w0 (fun x y => cmpS (rot l x) (rot l y)) := by
  intro W x y hW hx hy
  show Calls _ _ _ _ fun e w' => e = .returned (.int .i64 (cmpS (rot l x) (rot l y))) ∧ Qu W w'
  have hb1 := World.grownBy.cell hW hb (fun e => hbg (by simpa using e))
  have hq1 := World.grownBy.cell hW hq (fun e => hqg (by simpa using e))
  have T1 := fun n => turn1_any b l x hl (by omega) (W.drewN n) (by simpa using hb1)
  have T2 := fun n => turn1_any b l y hl (by omega) (W.drewN n) (by simpa using hb1)
  generalize rot l x = u at *
  generalize rot l y = v at *
  go_enter Tryd.func52, Tryd.ntmps52
  go_wp2
  go_quiet (first | (go_at_call 53; exact Calls.quiet_of_same ((compareS_any _ _ _).mono (fun e w' ⟨h1, h2⟩ => ⟨h1, h2.symm⟩))) | (go_at_call 50; first | (with_reducible exact Calls.quiet_of (T2 _)) | (with_reducible exact Calls.quiet_of (T1 _))))
  go_wp2
  go_ret
  exact ⟨rfl, _, rfl⟩

end Go.Proofs.YtjobgobeiiakgaaDoor
