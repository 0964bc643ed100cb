/- Numbers as texts of bits: gamma, delta. -/
import Derived.Test.YtjobgobeiiakgaaDoorMNum
import Derived.Deep.RegionHeld3
namespace Go.Proofs.YtjobgobeiiakgaaDoor
set_option linter.unusedSimpArgs false
set_option linter.unusedVariables false
open Go.RowKit

def gammaT (n : Nat) : List UInt8 := List.replicate (blen n - 1) 48 ++ digs n (blen n)
theorem gammaT_le (n d : Nat) (h : n < 2 ^ d) : (gammaT n).length ≤ 2 * d := by
  have := blen_le n d h
  simp [gammaT, digs_length]; omega
theorem Fr.step2 {w0 W W1 : World} (hb : Below W.heap.size W W1) (h : Fr w0 W) : Fr w0 W1 := h.step hb
theorem ret_str4 {b : ByteArray} {t : Bool} (ht : t = true) : Ending.returned (.tuple #[.string b, .bool t]) = .returned (.tuple #[.string b, .bool true]) := by rw [ht]

set_option maxHeartbeats 400000 in
theorem digitsOf_any (n : Nat) (w : World) (hn : n < 2 ^ 20) :
    Calls Tryd.prog 34 #[.int .i64 n] w fun e w' => e = .returned (.string ⟨(digs n (blen n)).toArray⟩) ∧ Below w.heap.size w w' := by
  have hb := blen_le n 20 hn
  have HB : Hid (Lib.bitLen n = blen n) := by
    show _ = _
    exact bitLen_blen _ _ (by omega)
  generalize blen n = d at *
  go_enter Tryd.func34, Tryd.ntmps34
  go_wp2_with (first | (go_at_call 62; refine (Tryd.bits_Len64 _ _ (by omega) (by omega)).mono ?_; rw [show ((n : Int)).toNat = n from rfl, HB.out]; rintro e w' ⟨rfl, rfl⟩) | (go_at_call 37; refine (binary_any n d _ (by omega) (by omega)).mono ?_; rintro e w1 ⟨rfl, hb⟩))
  go_ret
  exact ⟨rfl, hb⟩

set_option maxHeartbeats 400000 in
theorem gamma_any (n : Nat) (w : World) (h1 : 1 ≤ n) (hn : n < 2 ^ 20) :
    Calls Tryd.prog 33 #[.int .i64 n] w fun e w' => e = .returned (.string ⟨(gammaT n).toArray⟩) ∧ Below w.heap.size w w' := by
  have hb := blen_le n 20 hn
  have hp := blen_pos n h1
  have HD := Lib.hid (fun w => digitsOf_any n w hn)
  have HG : Hid (gammaT n = List.replicate (blen n - 1) 48 ++ digs n (blen n)) := rfl
  have hl := digs_length n (blen n)
  generalize blen n = d at *
  generalize digs n d = l at *
  generalize gammaT n = g at *
  obtain ⟨d, rfl⟩ : ∃ k, d = k + 1 := ⟨d - 1, by omega⟩
  rw [show d + 1 - 1 = d from rfl] at HG
  clear hp
  go_enter Tryd.func33, Tryd.ntmps33
  go_wp2_with fail
  refine (HD.out _).mono ?_
  rintro e w1 ⟨rfl, hb1⟩
  go_wp2_with fail
  try rw [show ((d + 1 : Nat) : Int) - 1 = (d : Int) by omega]
  refine (repeat_any 48 d _ (by omega)).mono ?_
  have hz : (List.replicate d (48 : UInt8)).length ≤ 64 := by simp; omega
  generalize List.replicate d (48 : UInt8) = z at *
  rintro e w2 ⟨rfl, hb2⟩
  have hb3 := hb1.trans (hb2.mono hb1.size)
  go_wp2
  go_ret
  exact ⟨ret_str1 HG.out.symm, hb3⟩

set_option maxHeartbeats 400000 in
theorem isCounted_any (n : Int) (w : World) : Calls Tryd.prog 32 #[.int .i64 n] w fun e w' => e = .returned (.bool (inB n 1 1000000)) ∧ w = w' := by
  go_enter Tryd.func32, Tryd.ntmps32
  go_wp2_with (go_at_call 30; refine (within_any _ _ _ _).mono ?_; rintro e w' ⟨rfl, rfl⟩)
  go_ret
  exact ⟨rfl, rfl⟩

def outNum (n : Int) (T : Nat → List UInt8) : ByteArray × Bool := if inB n 1 1000000 then (⟨(T n.toNat).toArray⟩, true) else (⟨#[]⟩, false)
theorem outNum_no {n : Int} (T : Nat → List UInt8) (h : inB n 1 1000000 = false) : outNum n T = (⟨#[]⟩, false) := by simp [outNum, h]
theorem outNum_yes {m : Nat} (T : Nat → List UInt8) (h : inB (m : Int) 1 1000000 = true) : outNum (m : Int) T = (⟨(T m).toArray⟩, true) := by simp [outNum, h]
def deltaT (n : Nat) : List UInt8 := gammaT (blen n) ++ digs n (blen n - 1)
def out_GammaOf (n : Int) : ByteArray × Bool := outNum n gammaT
def out_DeltaOf (n : Int) : ByteArray × Bool := outNum n deltaT
theorem blen_small {n : Nat} (hn : n < 2 ^ 20) : blen n < 2 ^ 20 := by
  have := blen_le n 20 hn; omega

set_option maxHeartbeats 400000 in
theorem impl_GammaOf (w : World) (n : Int) (_ : I64 n) :
    Calls Tryd.prog 12 #[.int .i64 n] w fun e w' => e = .returned (.tuple #[.string (out_GammaOf n).1, .bool (out_GammaOf n).2]) ∧ Below w.heap.size w w' := by
  generalize ht : inB n 1 1000000 = t
  have HT := Lib.hid ht
  cases t
  · rw [out_GammaOf, outNum_no _ ht]
    clear ht
    go_enter Tryd.func12, Tryd.ntmps12
    go_wp2_with (go_at_call 32; refine (isCounted_any _ _).mono ?_; rw [HT.out]; rintro e w' ⟨rfl, rfl⟩)
    go_ret2
    exact ⟨rfl, Below.refl _ _⟩
  · obtain ⟨h1, h2⟩ := inB_true ht
    obtain ⟨m, rfl⟩ : ∃ m : Nat, n = (m : Int) := ⟨n.toNat, by omega⟩
    rw [out_GammaOf, outNum_yes _ ht]
    clear ht
    go_enter Tryd.func12, Tryd.ntmps12
    go_wp2_with (first | (go_at_call 32; refine (isCounted_any _ _).mono ?_; rw [HT.out]; rintro e w' ⟨rfl, rfl⟩) | (go_at_call 33; refine (gamma_any m _ (by omega) (by omega)).mono ?_; rintro e w1 ⟨rfl, hb⟩))
    go_ret2
    exact ⟨rfl, hb⟩

theorem run_cut_l (l : List UInt8) (k : Nat) (h : k ≤ l.length) (W : World) :
    (Instr.slice 9 (.string ⟨l.toArray⟩) (some (.int .i64 (k : Int))) none none).run Tryd.prog W = .ok (.string ⟨(l.drop k).toArray⟩) W := by
  rw [run_slice_string_l (h0 := by omega) (h1 := by show (k : Int) ≤ ((l.toArray.size : Nat) : Int); simp; omega)]
  · rw [show (ByteArray.mk l.toArray).size = l.toArray.size from rfl, ByteArray.extract_mk, List.take_of_length_le (by simp)]
    rfl
  · exact Tryd.underlying9

set_option maxHeartbeats 400000 in
theorem impl_DeltaOf (w : World) (n : Int) (_ : I64 n) :
    Calls Tryd.prog 13 #[.int .i64 n] w fun e w' => e = .returned (.tuple #[.string (out_DeltaOf n).1, .bool (out_DeltaOf n).2]) ∧ Below w.heap.size w w' := by
  generalize ht : inB n 1 1000000 = t
  have HT := Lib.hid ht
  cases t
  · rw [out_DeltaOf, outNum_no _ ht]
    clear ht
    go_enter Tryd.func13, Tryd.ntmps13
    go_wp2_with (go_at_call 32; refine (isCounted_any _ _).mono ?_; rw [HT.out]; rintro e w' ⟨rfl, rfl⟩)
    go_ret2
    exact ⟨rfl, Below.refl _ _⟩
  · obtain ⟨h1, h2⟩ := inB_true ht
    obtain ⟨m, rfl⟩ : ∃ m : Nat, n = (m : Int) := ⟨n.toNat, by omega⟩
    rw [out_DeltaOf, outNum_yes _ ht]
    clear ht
    have hb := blen_le m 20 (by omega)
    have hp := blen_pos m (by omega)
    have HD := Lib.hid (fun w => digitsOf_any m w (by omega))
    have HE : Hid (deltaT m = gammaT (blen m) ++ (digs m (blen m)).drop 1) := by
      show _ = _
      obtain ⟨d, hd⟩ : ∃ k, blen m = k + 1 := ⟨blen m - 1, by omega⟩
      rw [deltaT, hd, digs_drop_one]; rfl
    have hl := digs_length m (blen m)
    have HG := Lib.hid (fun w => gamma_any (blen m) w hp (blen_small (by omega)))
    have HLg := gammaT_le (blen m) 5 (by omega)
    generalize gammaT (blen m) = g at *
    generalize blen m = d at *
    generalize digs m d = l at *
    generalize deltaT m = D at *
    have q1 : (1 : Int) ≤ (l.length : Int) := by omega
    have q2 : (1 : Int) ≤ (d : Int) := by omega
    have q3 : 1 ≤ l.length := by omega
    have hsl := run_cut_l l 1 q3
    rw [show ((1 : Nat) : Int) = 1 from rfl] at hsl
    have hl1 : (l.drop 1).length ≤ 32 := by simp; omega
    generalize l.drop 1 = l1 at *
    have hcat : ∀ W, (Op.stringOp .add ⟨g.toArray⟩ ⟨l1.toArray⟩).run Tryd.prog W = .ok (.string ⟨D.toArray⟩) W := fun W => by rw [HE.out]; exact run_string_add_lists W g l1 (by omega) (by omega)
    go_enter Tryd.func13, Tryd.ntmps13
    go_wp2_with fail
    refine (isCounted_any _ _).mono ?_
    rw [HT.out]
    rintro e w' ⟨rfl, rfl⟩
    go_wp2_with fail
    refine (HD.out _).mono ?_
    rintro e w1 ⟨rfl, hb1⟩
    go_wp2_with fail
    go_region_held3 (fun W => Fr w W) (first | exact Fr.step2 (by assumption) (by assumption) | exact Fr.drew hb1) (first | (go_at_call 33; refine (HG.out _).mono ?_; rintro e w2 ⟨rfl, hb2⟩))
    all_goals
      go_wp2
      go_ret2
      exact ⟨rfl, by assumption⟩

end Go.Proofs.YtjobgobeiiakgaaDoor
