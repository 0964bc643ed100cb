/- Numbers read back from their bits: the reference's text of a number, at any k. -/
import Derived.Test.YtcgenmkgdhaejaaDoorNob6
namespace Go.Proofs.YtcgenmkgdhaejaaDoor
set_option linter.unusedSimpArgs false
set_option linter.unusedVariables false
open Go.RowKit

set_option maxRecDepth 100000 in
set_option maxHeartbeats 400000 in
theorem l04NumK_unary (k : Int) (w : World) (m : Nat) (hm : m ≤ 511) :
    Calls Tryd.prog 43 #[.int .i64 0, .int .i64 k, .int .i64 ((m : Int) + 1)] w fun e w' => e = .returned (.tuple #[.string ⟨(unaryT (m + 1)).toArray⟩, .bool true]) ∧ w = w' := by
  have HU : Hid (unaryT (m + 1) = List.replicate m 49 ++ [48]) := rfl
  have hrl : (List.replicate m (49 : UInt8)).length ≤ 511 := by simp; omega
  go_enter Tryd.func43, Tryd.ntmps43
  go_wp2_with (go_at_call 60; refine (l04Same_any 49 m _ (by omega)).mono ?_; generalize List.replicate m (49 : UInt8) = l at *; rintro e w1 ⟨rfl, rfl⟩)
  go_ret2
  exact ⟨ret_str3 HU.out.symm (by rw [decide_eq_true_eq]; omega), rfl⟩

set_option maxRecDepth 100000 in
set_option maxHeartbeats 400000 in
theorem l04NumK_unary_no (k : Int) (w : World) (n : Int) (hn : 512 < n) (_ : n ≤ 1000000) :
    Calls Tryd.prog 43 #[.int .i64 0, .int .i64 k, .int .i64 n] w fun e w' => e = .returned (.tuple #[.string ⟨#[]⟩, .bool false]) ∧ w = w' := by
  go_enter Tryd.func43, Tryd.ntmps43
  go_wp2
  go_ret2
  exact ⟨rfl, rfl⟩

set_option maxRecDepth 100000 in
set_option maxHeartbeats 400000 in
theorem l04NumK_gamma (k : Int) (w : World) (m : Nat) (h1 : 1 ≤ m) (hm : m ≤ 1000000) :
    Calls Tryd.prog 43 #[.int .i64 1, .int .i64 k, .int .i64 m] w fun e w' => e = .returned (.tuple #[.string ⟨(gammaT m).toArray⟩, .bool true]) ∧ w = w' := by
  have HL := gammaT_le m 20 (by omega)
  have HG := Lib.hid (fun w => l04Gamma_any m w h1 (by omega))
  generalize gammaT m = g at *
  go_enter Tryd.func43, Tryd.ntmps43
  go_wp2_with (go_at_call 61; refine (HG.out _).mono ?_; rintro e w1 ⟨rfl, rfl⟩)
  go_ret2
  exact ⟨ret_str4 (by rw [decide_eq_true_eq]; omega), rfl⟩

set_option maxRecDepth 100000 in
set_option maxHeartbeats 400000 in
theorem l04NumK_delta (k : Int) (w : World) (m : Nat) (h1 : 1 ≤ m) (hm : m ≤ 1000000) :
    Calls Tryd.prog 43 #[.int .i64 2, .int .i64 k, .int .i64 m] w fun e w' => e = .returned (.tuple #[.string ⟨(deltaT m).toArray⟩, .bool true]) ∧ w = w' := by
  have hb := blen_le m 20 (by omega)
  have hp := blen_pos m (by omega)
  have HL := gammaT_le (blen m) 5 (by omega)
  have HL2 := digs_length m (blen m - 1)
  have HS := Lib.hid (fun w => l04Size_any m w (by omega))
  have HD := Lib.hid (fun w (h : blen m - 1 ≤ 63) => l04Digits_any m (blen m - 1) w (by omega) h)
  have HG := Lib.hid (fun w => l04Gamma_any (blen m) w hp (blen_small (by omega)))
  have HE : Hid (deltaT m = gammaT (blen m) ++ digs m (blen m - 1)) := rfl
  generalize gammaT (blen m) = g at *
  generalize blen m = d at *
  obtain ⟨d, rfl⟩ : ∃ k, d = k + 1 := ⟨d - 1, by omega⟩
  rw [show d + 1 - 1 = d from rfl] at HE HD HL2
  generalize digs m d = l at *
  generalize deltaT m = D at *
  clear hp
  go_enter Tryd.func43, Tryd.ntmps43
  go_wp2_with (first | (go_at_call 62; refine (HS.out _).mono ?_; rintro e w1 ⟨rfl, rfl⟩) | (go_at_call 61; refine (HG.out _).mono ?_; rintro e w1 ⟨rfl, rfl⟩))
  try rw [show ((d + 1 : Nat) : Int) - 1 = (d : Int) by omega]
  refine (HD.out _ (by omega)).mono ?_
  rintro e w1 ⟨rfl, rfl⟩
  go_wp2
  go_ret2
  exact ⟨ret_str3 HE.out.symm (by rw [decide_eq_true_eq]; omega), rfl⟩

set_option maxRecDepth 100000 in
set_option maxHeartbeats 400000 in
theorem l04NumK_fib (k : Int) (w : World) (m : Nat) (h1 : 1 ≤ m) (hm : m ≤ 1000000) :
    Calls Tryd.prog 43 #[.int .i64 3, .int .i64 k, .int .i64 m] w fun e w' => e = .returned (.tuple #[.string ⟨(fibT m).toArray⟩, .bool true]) ∧ Below w.heap.size w w' := by
  have HL := fibT_length m
  have HG := Lib.hid (fun w => l04Fibonacci_any m w h1 hm)
  generalize fibT m = g at *
  go_enter Tryd.func43, Tryd.ntmps43
  go_wp2_with (go_at_call 64; refine (HG.out _).mono ?_; rintro e w1 ⟨rfl, hb⟩)
  go_ret2
  exact ⟨ret_str4 (by rw [decide_eq_true_eq]; omega), hb⟩

theorem numberedK (kind k : Int) (T : Nat → List UInt8) (n : Int) (hk : inB k 0 20 = true) (h : ∀ (w : World) (m : Nat), 1 ≤ m → m ≤ 1000000 → Calls Tryd.prog 43 #[.int .i64 kind, .int .i64 k, .int .i64 m] w fun e w' => e = .returned (.tuple #[.string ⟨(T m).toArray⟩, .bool true]) ∧ w = w') (w : World) :
    Calls Tryd.prog 26 #[.int .i64 kind, .int .i64 k, .int .i64 n] w fun e w' => e = .returned (.tuple #[.string (outNum n T).1, .bool (outNum n T).2]) ∧ w = w' := by
  by_cases ht : inB n 1 1000000 = true
  · obtain ⟨h1, h2⟩ := inB_true ht
    obtain ⟨m, rfl⟩ : ∃ m : Nat, n = (m : Int) := ⟨n.toNat, by omega⟩
    rw [outNum_yes _ ht]
    exact l04Numbered_ok kind k _ _ true w ht hk (fun w => h w m (by omega) (by omega))
  · have ht' : inB n 1 1000000 = false := by simpa using ht
    rw [outNum_no _ ht']
    exact l04Numbered_no kind k n w ht'
theorem numbered0 (k n : Int) (hk : inB k 0 20 = true) (w : World) : Calls Tryd.prog 26 #[.int .i64 0, .int .i64 k, .int .i64 n] w fun e w' => e = .returned (.tuple #[.string (out_UnaryOf n).1, .bool (out_UnaryOf n).2]) ∧ w = w' := by
  by_cases h1 : inB n 1 1000000 = true
  · obtain ⟨a, b⟩ := inB_true h1
    by_cases h2 : n ≤ 512
    · obtain ⟨m, rfl⟩ : ∃ m : Nat, n = (m : Int) + 1 := ⟨(n - 1).toNat, by omega⟩
      have h := l04Numbered_ok 0 k _ _ true w h1 hk (fun w => l04NumK_unary k w m (by omega))
      rw [show out_UnaryOf ((m : Int) + 1) = (⟨(unaryT (m + 1)).toArray⟩, true) by
        rw [out_UnaryOf, if_pos (by unfold inB; exact decide_eq_true ⟨by omega, by omega⟩), show ((m : Int) + 1).toNat = m + 1 by omega]]
      exact h
    · have h := l04Numbered_ok 0 k n _ false w h1 hk (fun w => l04NumK_unary_no k w n (by omega) b)
      rw [show out_UnaryOf n = (⟨#[]⟩, false) by
        rw [out_UnaryOf, if_neg (by unfold inB; simp; omega)]]
      exact h
  · have h1' : inB n 1 1000000 = false := by simpa using h1
    have hnot := inB_false h1'
    rw [show out_UnaryOf n = (⟨#[]⟩, false) by
      rw [out_UnaryOf, if_neg (by unfold inB; simp; omega)]]
    exact l04Numbered_no 0 k n w h1'

end Go.Proofs.YtcgenmkgdhaejaaDoor
