/- Contracts: what words take, weights, total lengths. -/
import Derived.Test.YtcgenmkgdhaejaaCtr1
namespace Go.Proofs.Ytcgenmkgdhaejaa
set_option linter.unusedSimpArgs false
set_option linter.unusedVariables false
open Go.RowKit

/-- A list has weights. -/
def wOk (xs : List Int) : Bool := decide (1 ≤ xs.length) && decide (xs.length ≤ 16) && xs.all (fun n => inB n 0 1000000)
theorem wOk_parts {xs : List Int} (h : wOk xs = true) : 1 ≤ xs.length ∧ xs.length ≤ 16 ∧ xs.all (fun n => inB n 0 1000000) = true := by
  unfold wOk at h
  simp only [Bool.and_eq_true, decide_eq_true_eq] at h
  exact ⟨h.1.1, h.1.2, h.2⟩

set_option maxHeartbeats 1000000 in
theorem areWeights_any (v : Value) (xs : List Int) (w : World) (hv : SlR w v (xs.map (Value.int .i64))) :
    Calls Try.prog 36 #[v] w fun e w' => e = .returned (.bool (wOk xs)) ∧ w = w' := by
  obtain ⟨a, n, c, rfl, hnl, hnc, hcm, hcell⟩ := SlR.opened 0 hv
  unfold maxLen at hcm
  have hn9 : n ≤ 9223372036854775807 := by omega
  have HV : Hid (wOk xs = (decide (1 ≤ n) && decide (n ≤ 16) && xs.all (fun n => inB n 0 1000000))) := by
    subst hnl; exact rfl
  clear hnl hcell hcm hnc
  by_cases h1 : 1 ≤ n
  · by_cases h2 : n ≤ 16
    · generalize ht : xs.all (fun n => inB n 0 1000000) = t at HV
      have HT := Lib.hid ht
      clear ht
      go_enter Try.func36, Try.ntmps36
      go_wp2_with (go_at_call 75; refine (areWithin_any _ xs 0 1000000 _ hv).mono ?_; rw [HT.out]; rintro e w' ⟨rfl, rfl⟩)
      go_ret
      exact ⟨ret_bool (by rw [HV.out]; simp [h1, h2]), rfl⟩
    · have h2' : ¬ ((n : Int) ≤ 16) := by omega
      go_enter Try.func36, Try.ntmps36
      go_wp2
      go_ret
      exact ⟨ret_bool (by rw [HV.out]; simp; intro _ _; omega), rfl⟩
  · have h1' : ¬ ((1 : Int) ≤ (n : Int)) := by omega
    go_enter Try.func36, Try.ntmps36
    go_wp2
    go_ret
    exact ⟨ret_bool (by rw [HV.out]; simp; intro _; omega), rfl⟩

set_option maxHeartbeats 1000000 in
theorem l04Weights_any (v : Value) (xs : List Int) (w : World) (hv : SlR w v (xs.map (Value.int .i64))) :
    Calls Try.prog 33 #[v] w fun e w' => e = .returned (.bool (wOk xs)) ∧ w = w' := by
  obtain ⟨a, n, c, rfl, hnl, hnc, hcm, hcell⟩ := SlR.opened 0 hv
  unfold maxLen at hcm
  have hn9 : n ≤ 9223372036854775807 := by omega
  have HV : Hid (wOk xs = (decide (1 ≤ n) && decide (n ≤ 16) && xs.all (fun n => inB n 0 1000000))) := by
    subst hnl; exact rfl
  have HN := Lib.hid hnl
  have HC := Lib.hid hcell
  clear hnl hcell hcm hnc
  go_enter Try.func33, Try.ntmps33
  go_wp2
  go_loop [3] (fun i => ∃ k : Nat, k ≤ n ∧ i = .int .i64 k ∧ (xs.take k).all (fun n => inB n 0 1000000) = true) (fun i => n - (intOf i).toNat)
  case atStart => exact ⟨0, Nat.zero_le _, rfl, rfl⟩
  case round =>
    obtain ⟨k, hk, rfl, hpre⟩ := hrel
    have HP := Lib.hid hpre
    clear hpre
    by_cases hlt : k < n
    · obtain ⟨b, off, rfl, hc, hbl⟩ := HC.out k hlt
      rw [List.getD_eq_getElem?_getD] at hc
      generalize hb : inB (xs[k]?.getD 0) 0 1000000 = t
      have HB := Lib.hid hb
      clear hb
      cases t
      · go_wp2_with (go_at_call 45; refine (l00In_any _ _ _ _).mono ?_; rw [HB.out]; rintro e w' ⟨rfl, rfl⟩)
        go_ret
        exact ⟨ret_bool (by rw [HV.out, all_false_of xs _ k 0 (by rw [HN.out]; exact hlt) HB.out]; simp), rfl⟩
      · go_wp2_with (go_at_call 45; refine (l00In_any _ _ _ _).mono ?_; rw [HB.out]; rintro e w' ⟨rfl, rfl⟩)
        go_round
        case rel => exact ⟨k + 1, by omega, by go_num, by rw [all_take_succ xs _ k 0 (by rw [HN.out]; exact hlt), HP.out, HB.out]; rfl⟩
        case measure => simp [intOf]; omega
    · obtain rfl : n = k := by omega
      have HA : Hid (xs.all (fun n => inB n 0 1000000) = true) := by
        have h := HP.out; rw [List.take_of_length_le (by rw [HN.out]; exact Nat.le_refl _)] at h; exact h
      by_cases h1 : 1 ≤ n
      · by_cases h2 : n ≤ 16
        · go_wp2
          go_ret
          exact ⟨ret_bool (by rw [HV.out, HA.out]; simp [h1, h2]; omega), rfl⟩
        · have h2' : ¬ ((n : Int) ≤ 16) := by omega
          go_wp2
          go_ret
          exact ⟨ret_bool (by rw [HV.out, HA.out]; simp; intro _; omega), rfl⟩
      · have h1' : ¬ ((1 : Int) ≤ (n : Int)) := by omega
        go_wp2
        go_ret
        exact ⟨ret_bool (by rw [HV.out, HA.out]; simp; intro _; omega), rfl⟩

end Go.Proofs.Ytcgenmkgdhaejaa
