/- Tables: valid ones, the sums of their rows. -/
import Derived.Test.YtlahmdnlamifnaaVld
import Derived.Test.YtlahmdnlamifnaaHrf
namespace Go.Proofs.Ytlahmdnlamifnaa
set_option linter.unusedSimpArgs false
set_option linter.unusedVariables false
open Go.RowKit


set_option maxHeartbeats 2000000 in
theorem implValidTable_any (i j : Int) (v : Value) (xs : List Nat) (w : World) (hv : SlR w v (xs.map (Value.float .f32))) (hw : ∀ x ∈ xs, x < 4294967296) :
    Calls Try.prog 77 #[.agg #[.int .i64 i, .int .i64 j, v]] w fun e w' => e = .returned (.bool (validTb i j xs)) ∧ Below w.heap.size w w' := by
  have HW := Lib.hid hw
  have hb0 : Below w.heap.size w (w.alloc (.cells #[.int .i64 i, .int .i64 j, v] 37)) := by go_grown
  have hv1 := hv.below hb0
  clear hw
  cases h1 : inB i 1 8
  · have HV : Hid (validTb i j xs = false) := by show validTb i j xs = _; unfold validTb; rw [h1]; rfl
    have H1 := Lib.hid h1
    clear h1
    go_enter Try.func77, Try.ntmps77
    go_wp2_with (go_at_call 47; refine (within_any _ _ _ _).mono ?_; rw [H1.out]; rintro e w' ⟨rfl, rfl⟩)
    go_ret
    exact ⟨ret_bool HV.out.symm, hb0⟩
  · cases h2 : inB j 1 8
    · have HV : Hid (validTb i j xs = false) := by show validTb i j xs = _; unfold validTb; rw [h2]; simp
      have H1 := Lib.hid h1
      have H2 := Lib.hid h2
      clear h1 h2
      go_enter Try.func77, Try.ntmps77
      go_wp2_with (go_at_call 47; refine (within_any _ _ _ _).mono ?_; (first | rw [H1.out] | rw [H2.out]); rintro e w' ⟨rfl, rfl⟩)
      go_ret
      exact ⟨ret_bool HV.out.symm, hb0⟩
    · obtain ⟨a, rfl, a1, a2⟩ := nat_of_inB h1
      obtain ⟨m, rfl, m1, m2⟩ := nat_of_inB h2
      obtain ⟨p, hp⟩ : ∃ p, p = a * m := ⟨_, rfl⟩
      have hp64 : p ≤ 64 := by rw [hp]; exact prod_le a2 m2
      have e1 : (a : Int) * (m : Int) = (p : Int) := by rw [hp]; simp
      obtain ⟨ad, n, c, rfl, hnl, hnc, hcm, -⟩ := SlR.opened 0 hv
      have hcm' : n ≤ 9223372036854775807 := by unfold maxLen at hcm; omega
      have H1 := Lib.hid h1
      have H2 := Lib.hid h2
      by_cases h3 : n = p
      · have htest := ieq_true (show (n : Int) = (p : Int) by rw [h3])
        generalize ho : oneB xs = o
        have HO := Lib.hid ho
        have HV : Hid (validTb a m xs = o) := by
          show validTb a m xs = _; unfold validTb; rw [h1, h2, e1, hnl, h3, ho]; simp
        clear h1 h2 h3 hp hnl ho
        cases o
        all_goals
          go_enter Try.func77, Try.ntmps77
          go_wp2_with (first | (go_at_call 47; refine (within_any _ _ _ _).mono ?_; (first | rw [H1.out] | rw [H2.out]); rintro e w' ⟨rfl, rfl⟩) | (go_at_call 91; refine (isOne_any _ xs _ hv1 HW.out).mono ?_; rw [HO.out]; rintro e w' ⟨rfl, mq, rfl⟩))
          go_ret
          exact ⟨ret_bool HV.out.symm, below_drewN hb0 _⟩
      · have htest := ieq_false (show ¬ (n : Int) = (p : Int) by omega)
        have HV : Hid (validTb a m xs = false) := by
          show validTb a m xs = _; unfold validTb; rw [e1, hnl]; simp; omega
        clear h1 h2 h3 hp hnl
        go_enter Try.func77, Try.ntmps77
        go_wp2_with (go_at_call 47; refine (within_any _ _ _ _).mono ?_; (first | rw [H1.out] | rw [H2.out]); rintro e w' ⟨rfl, rfl⟩)
        go_ret
        exact ⟨ret_bool HV.out.symm, hb0⟩

set_option maxHeartbeats 2000000 in
theorem l02Table_any (g : Nat) (i j : Int) (v : Value) (xs : List Nat) (w : World) (hg0 : w.cell? ⟨g, 0, none⟩ = some (.int .i64 i)) (hg1 : w.cell? ⟨g, 1, none⟩ = some (.int .i64 j)) (hg2 : w.cell? ⟨g, 2, none⟩ = some v) (hv : SlR w v (xs.map (Value.float .f32))) (hw : ∀ x ∈ xs, x < 4294967296) :
    Calls Try.prog 60 #[.pointer (some ⟨g, 0, none⟩)] w fun e w' => e = .returned (.bool (validTb i j xs)) ∧ Qu w w' := by
  have HW := Lib.hid hw
  clear hw
  have hin : ∀ (z : Int) (b : Bool), inB z 1 8 = b → ∀ W : World, Calls Try.prog 44 #[.int .i64 z, .int .i64 1, .int .i64 8] W fun e w' => e = .returned (.bool b) ∧ w' = W := fun z b hz W => (l00In_any z 1 8 W).mono fun e w' ⟨q1, q2⟩ => ⟨by rw [q1, hz], q2.symm⟩
  cases h1 : inB i 1 8
  · have HV : Hid (validTb i j xs = false) := by show validTb i j xs = _; unfold validTb; rw [h1]; rfl
    have hi1 := hin i _ h1
    clear h1 hin
    go_enter Try.func60, Try.ntmps60
    go_wp2
    go_quiet ((go_at_call 44; exact Calls.quiet_of_same (hi1 _)))
    go_wp2
    go_ret
    exact ⟨ret_bool HV.out.symm, _, rfl⟩
  · cases h2 : inB j 1 8
    · have HV : Hid (validTb i j xs = false) := by show validTb i j xs = _; unfold validTb; rw [h2]; simp
      have hi1 := hin i _ h1
      have hi2 := hin j _ h2
      clear h1 h2 hin
      go_enter Try.func60, Try.ntmps60
      go_wp2
      go_quiet ((go_at_call 44; first | (with_reducible exact Calls.quiet_of_same (hi1 _)) | (with_reducible exact Calls.quiet_of_same (hi2 _))))
      go_wp2
      go_ret
      exact ⟨ret_bool HV.out.symm, _, rfl⟩
    · have hi1 := hin i _ h1
      have hi2 := hin j _ h2
      obtain ⟨a, rfl, a1, a2⟩ := nat_of_inB h1
      obtain ⟨m, rfl, m1, m2⟩ := nat_of_inB h2
      obtain ⟨p, hp⟩ : ∃ p, p = a * m := ⟨_, rfl⟩
      have hp64 : p ≤ 64 := by rw [hp]; exact prod_le a2 m2
      have e1 : (a : Int) * (m : Int) = (p : Int) := by rw [hp]; simp
      obtain ⟨ad, n, c, rfl, hnl, hnc, hcm, -⟩ := SlR.opened 0 hv
      have hcm' : n ≤ 9223372036854775807 := by unfold maxLen at hcm; omega
      have f1 : IntKind.i64.wrap ((a : Int) * (m : Int)) = (p : Int) := by rw [e1]; exact IntWalk.i64_in _ (by omega)
      by_cases h3 : n = p
      · have htest := ieq_true (show (n : Int) = (p : Int) by rw [h3])
        generalize ho : oneB xs = o
        have hone : ∀ W : World, SlR W (.slice ad n c) (xs.map (Value.float .f32)) → Calls Try.prog 76 #[.slice ad n c] W fun e w' => e = .returned (.bool o) ∧ ∃ mq, w' = W.drewN mq := fun W hvW => (l02Chances_any _ xs W hvW HW.out).mono fun e w' ⟨q1, q2⟩ => ⟨by rw [q1, ho], q2⟩
        have HV : Hid (validTb a m xs = o) := by
          show validTb a m xs = _; unfold validTb; rw [h1, h2, e1, hnl, h3, ho]; simp
        have hvd : ∀ n, SlR (w.drewN n) _ _ := fun n => hv.below (Qu.keep ⟨n, rfl⟩)
        clear h1 h2 h3 hp hnl hin ho
        cases o
        all_goals
          go_enter Try.func60, Try.ntmps60
          go_wp2
          go_quiet ((first | (go_at_call 44; first | (with_reducible exact Calls.quiet_of_same (hi1 _)) | (with_reducible exact Calls.quiet_of_same (hi2 _))) | (go_at_call 76; exact Calls.quiet_of (hone _ (hvd _)))))
          go_wp2
          go_ret
          exact ⟨ret_bool HV.out.symm, _, rfl⟩
      · have htest := ieq_false (show ¬ (n : Int) = (p : Int) by omega)
        have HV : Hid (validTb a m xs = false) := by
          show validTb a m xs = _; unfold validTb; rw [e1, hnl]; simp; omega
        clear h1 h2 h3 hp hnl hin
        go_enter Try.func60, Try.ntmps60
        go_wp2
        go_quiet ((go_at_call 44; first | (with_reducible exact Calls.quiet_of_same (hi1 _)) | (with_reducible exact Calls.quiet_of_same (hi2 _))))
        go_wp2
        go_ret
        exact ⟨ret_bool HV.out.symm, _, rfl⟩

end Go.Proofs.Ytlahmdnlamifnaa
