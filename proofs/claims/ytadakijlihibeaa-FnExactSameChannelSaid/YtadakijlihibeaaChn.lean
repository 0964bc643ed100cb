/- Channels: when they are the same. -/
import Derived.Test.YtadakijlihibeaaSam
namespace Go.Proofs.Ytadakijlihibeaa
set_option linter.unusedSimpArgs false
set_option linter.unusedVariables false
open Go.RowKit


def out_SameChannel (i j : Int) (xs : List Nat) (i' j' : Int) (ys : List Nat) : Bool := decide (i = i') && decide (j = j') && sameB xs ys



set_option maxHeartbeats 1000000 in
theorem spec_SameChannel (w : World) (i j : Int) (_ : I64 i) (_ : I64 j) (v : Value) (xs : List Nat) (hv : SlR w v (xs.map (Value.float .f32))) (hx : ∀ x ∈ xs, x < 4294967296) (_ : xs.length ≤ 1048576) (i' j' : Int) (_ : I64 i') (_ : I64 j') (u : Value) (ys : List Nat) (hu : SlR w u (ys.map (Value.float .f32))) (hy : ∀ x ∈ ys, x < 4294967296) (_ : ys.length ≤ 1048576) :
    Calls Try.prog 16 #[.agg #[.int .i64 i, .int .i64 j, v], .agg #[.int .i64 i', .int .i64 j', u]] w fun e w' => e = .returned (.bool (out_SameChannel i j xs i' j' ys)) ∧ Below w.heap.size w w' := by
  have HX := Lib.hid hx
  have HY := Lib.hid hy
  clear hx hy
  by_cases h1 : i = i'
  · by_cases h2 : j = j'
    · generalize hs : sameB xs ys = t
      have HO : Hid (out_SameChannel i j xs i' j' ys = t) := by show out_SameChannel i j xs i' j' ys = t; unfold out_SameChannel; rw [decide_eq_true h1, decide_eq_true h2, hs]; rfl
      have HS := Lib.hid hs
      have e1 := ieq_true h1
      have e2 := ieq_true h2
      clear h1 h2 hs
      cases t
      all_goals
        go_enter Try.func16, Try.ntmps16
        go_wp2_with (go_at_call 60; refine (l01SameAll_any _ _ xs ys _ (hv.below (by go_grown)) (hu.below (by go_grown)) HX.out HY.out).mono ?_; rw [HS.out]; rintro e w' ⟨rfl, m, rfl⟩)
        go_ret
        exact ⟨ret_bool HO.out.symm, below_drewN (by go_grown) m⟩
    · have HO : Hid (out_SameChannel i j xs i' j' ys = false) := by show out_SameChannel i j xs i' j' ys = _; unfold out_SameChannel; rw [decide_eq_false h2]; simp
      have e1 := ieq_true h1
      have e2 := ieq_false h2
      clear h1 h2
      go_enter Try.func16, Try.ntmps16
      go_wp2
      go_ret
      exact ⟨ret_bool HO.out.symm, by go_grown⟩
  · have HO : Hid (out_SameChannel i j xs i' j' ys = false) := by show out_SameChannel i j xs i' j' ys = _; unfold out_SameChannel; rw [decide_eq_false h1]; simp
    have e1 := ieq_false h1
    clear h1
    go_enter Try.func16, Try.ntmps16
    go_wp2
    go_ret
    exact ⟨ret_bool HO.out.symm, by go_grown⟩

set_option maxHeartbeats 1000000 in
theorem impl_SameChannel (w : World) (i j : Int) (_ : I64 i) (_ : I64 j) (v : Value) (xs : List Nat) (hv : SlR w v (xs.map (Value.float .f32))) (hx : ∀ x ∈ xs, x < 4294967296) (_ : xs.length ≤ 1048576) (i' j' : Int) (_ : I64 i') (_ : I64 j') (u : Value) (ys : List Nat) (hu : SlR w u (ys.map (Value.float .f32))) (hy : ∀ x ∈ ys, x < 4294967296) (_ : ys.length ≤ 1048576) :
    Calls Try.prog 18 #[.agg #[.int .i64 i, .int .i64 j, v], .agg #[.int .i64 i', .int .i64 j', u]] w fun e w' => e = .returned (.bool (out_SameChannel i j xs i' j' ys)) ∧ Below w.heap.size w w' := by
  have HX := Lib.hid hx
  have HY := Lib.hid hy
  clear hx hy
  by_cases h1 : i = i'
  · by_cases h2 : j = j'
    · generalize hs : sameB xs ys = t
      have HO : Hid (out_SameChannel i j xs i' j' ys = t) := by show out_SameChannel i j xs i' j' ys = t; unfold out_SameChannel; rw [decide_eq_true h1, decide_eq_true h2, hs]; rfl
      have HS := Lib.hid hs
      have e1 := ieq_true h1
      have e2 := ieq_true h2
      clear h1 h2 hs
      cases t
      all_goals
        go_enter Try.func18, Try.ntmps18
        go_wp2_with (go_at_call 61; refine (slEqualFunc_any _ _ xs ys _ (hv.below (by go_grown)) (hu.below (by go_grown)) HX.out HY.out).mono ?_; rw [HS.out]; rintro e w' ⟨rfl, m, rfl⟩)
        go_ret
        exact ⟨ret_bool HO.out.symm, below_drewN (by go_grown) m⟩
    · have HO : Hid (out_SameChannel i j xs i' j' ys = false) := by show out_SameChannel i j xs i' j' ys = _; unfold out_SameChannel; rw [decide_eq_false h2]; simp
      have e1 := ieq_true h1
      have e2 := ieq_false h2
      clear h1 h2
      go_enter Try.func18, Try.ntmps18
      go_wp2
      go_ret
      exact ⟨ret_bool HO.out.symm, by go_grown⟩
  · have HO : Hid (out_SameChannel i j xs i' j' ys = false) := by show out_SameChannel i j xs i' j' ys = _; unfold out_SameChannel; rw [decide_eq_false h1]; simp
    have e1 := ieq_false h1
    clear h1
    go_enter Try.func18, Try.ntmps18
    go_wp2
    go_ret
    exact ⟨ret_bool HO.out.symm, by go_grown⟩

end Go.Proofs.Ytadakijlihibeaa
