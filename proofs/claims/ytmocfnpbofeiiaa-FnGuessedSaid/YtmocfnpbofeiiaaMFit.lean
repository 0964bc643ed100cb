/- A row that fits a channel; the chance of a word. -/
import Derived.Test.YtmocfnpbofeiiaaMVld
import Derived.Deep.RegionHeld3
import Derived.Test.YtmocfnpbofeiiaaMStb
import Derived.Test.YtmocfnpbofeiiaaMGiv
namespace Go.Proofs.Ytmocfnpbofeiiaa
set_option linter.unusedSimpArgs false
set_option linter.unusedVariables false
open Go.RowKit

def fitB (i j : Int) (xs rs : List Nat) : Bool := validCh i j xs && rowB rs && decide ((rs.length : Int) = i)

set_option maxHeartbeats 2000000 in
theorem takes_any (i j : Int) (hi : I64 i) (hj : I64 j) (v u : Value) (xs rs : List Nat) (w : World) (hv : SlR w v (xs.map (Value.float .f32))) (hu : SlR w u (rs.map (Value.float .f32))) (hx : ∀ x ∈ xs, x < 4294967296) (hr : ∀ x ∈ rs, x < 4294967296) :
    Calls Try.prog 113 #[.agg #[.int .i64 i, .int .i64 j, v], u] w fun e w' => e = .returned (.bool (fitB i j xs rs)) ∧ Below w.heap.size w w' := by
  have HX := Lib.hid hx
  have HR := Lib.hid hr
  obtain ⟨ad, n, c, rfl, hnl, hnc, hcm, -⟩ := SlR.opened 0 hu
  have hcm' : n ≤ 9223372036854775807 := by unfold maxLen at hcm; omega
  have hb0 : Below w.heap.size w (w.alloc (.cells #[.int .i64 i, .int .i64 j, v] 59)) := by go_grown
  have hv1 := hv.below hb0
  have hu1 := hu.below hb0
  have c0 : World.cell? (w.alloc (.cells #[.int .i64 i, .int .i64 j, v] 59)) ⟨w.heap.size, 0, none⟩ = some (.int .i64 i) := by simp
  cases h1 : validCh i j xs
  · have HO : Hid (fitB i j xs rs = false) := by show fitB i j xs rs = _; unfold fitB; rw [h1]; rfl
    have H1 := Lib.hid h1
    clear hx hr h1 hnl
    go_enter Try.func113, Try.ntmps113
    go_wp2_with (go_at_call 137; refine (implValidChannel_any i j _ xs _ hv1 HX.out hi hj).mono ?_; rw [H1.out]; rintro e w1 ⟨rfl, hb⟩; have hb1 := hb0.trans (hb.mono hb0.size))
    go_ret
    exact ⟨ret_bool HO.out.symm, hb1⟩
  · cases h2 : rowB rs
    · have HO : Hid (fitB i j xs rs = false) := by show fitB i j xs rs = _; unfold fitB; rw [h1, h2]; rfl
      have H1 := Lib.hid h1
      have H2 := Lib.hid h2
      clear hx hr h1 h2 hnl
      go_enter Try.func113, Try.ntmps113
      go_wp2_with (first | (go_at_call 137; refine (implValidChannel_any i j _ xs _ hv1 HX.out hi hj).mono ?_; rw [H1.out]; rintro e w1 ⟨rfl, hb⟩; have hb1 := hb0.trans (hb.mono hb0.size); have hu2 := hu1.below hb) | (go_at_call 50; refine (isRow_any _ rs _ hu2 HR.out).mono ?_; rw [H2.out]; rintro e w2 ⟨rfl, mq, rfl⟩))
      go_ret
      exact ⟨ret_bool HO.out.symm, below_drewN hb1 _⟩
    · by_cases h3 : (n : Int) = i
      · have HO : Hid (fitB i j xs rs = true) := by show fitB i j xs rs = _; unfold fitB; rw [h1, h2, hnl, decide_eq_true h3]; rfl
        have H1 := Lib.hid h1
        have H2 := Lib.hid h2
        have ht := ieq_true h3
        clear hx hr h1 h2 hnl h3
        go_enter Try.func113, Try.ntmps113
        go_wp2_with (first | (go_at_call 137; refine (implValidChannel_any i j _ xs _ hv1 HX.out hi hj).mono ?_; rw [H1.out]; rintro e w1 ⟨rfl, hb⟩; have hb1 := hb0.trans (hb.mono hb0.size); have hu2 := hu1.below hb; have e0 := cell_step c0 hb) | (go_at_call 50; refine (isRow_any _ rs _ hu2 HR.out).mono ?_; rw [H2.out]; rintro e w2 ⟨rfl, mq, rfl⟩))
        go_ret
        exact ⟨ret_bool HO.out.symm, below_drewN hb1 _⟩
      · have HO : Hid (fitB i j xs rs = false) := by show fitB i j xs rs = _; unfold fitB; rw [hnl, decide_eq_false h3]; simp
        have H1 := Lib.hid h1
        have H2 := Lib.hid h2
        have ht := ieq_false h3
        clear hx hr h1 h2 hnl h3
        go_enter Try.func113, Try.ntmps113
        go_wp2_with (first | (go_at_call 137; refine (implValidChannel_any i j _ xs _ hv1 HX.out hi hj).mono ?_; rw [H1.out]; rintro e w1 ⟨rfl, hb⟩; have hb1 := hb0.trans (hb.mono hb0.size); have hu2 := hu1.below hb; have e0 := cell_step c0 hb) | (go_at_call 50; refine (isRow_any _ rs _ hu2 HR.out).mono ?_; rw [H2.out]; rintro e w2 ⟨rfl, mq, rfl⟩))
        go_ret
        exact ⟨ret_bool HO.out.symm, below_drewN hb1 _⟩

set_option maxHeartbeats 2000000 in
theorem l03Fits_any (g : Nat) (i j : Int) (v u : Value) (xs rs : List Nat) (w : World) (hg0 : w.cell? ⟨g, 0, none⟩ = some (.int .i64 i)) (hg1 : w.cell? ⟨g, 1, none⟩ = some (.int .i64 j)) (hg2 : w.cell? ⟨g, 2, none⟩ = some v) (hv : SlR w v (xs.map (Value.float .f32))) (hu : SlR w u (rs.map (Value.float .f32))) (hx : ∀ x ∈ xs, x < 4294967296) (hr : ∀ x ∈ rs, x < 4294967296) :
    Calls Try.prog 88 #[.pointer (some ⟨g, 0, none⟩), u] w fun e w' => e = .returned (.bool (fitB i j xs rs)) ∧ Qu w w' := by
  have HX := Lib.hid hx
  have HR := Lib.hid hr
  obtain ⟨ad, n, c, rfl, hnl, hnc, hcm, -⟩ := SlR.opened 0 hu
  have hcm' : n ≤ 9223372036854775807 := by unfold maxLen at hcm; omega
  cases h1 : validCh i j xs
  · have HO : Hid (fitB i j xs rs = false) := by show fitB i j xs rs = _; unfold fitB; rw [h1]; rfl
    have H1 := Lib.hid h1
    clear hx hr h1 hnl
    go_enter Try.func88, Try.ntmps88
    go_wp2_with (go_at_call 115; refine (l03Is_any _ i j _ xs _ hg0 hg1 hg2 hv HX.out).mono ?_; rw [H1.out]; rintro e w1 ⟨rfl, mq, rfl⟩)
    go_ret
    exact ⟨ret_bool HO.out.symm, _, rfl⟩
  · by_cases h3 : (n : Int) = i
    · generalize h2 : rowB rs = t
      have HO : Hid (fitB i j xs rs = t) := by show fitB i j xs rs = _; unfold fitB; rw [h1, h2, hnl, decide_eq_true h3]; cases t <;> rfl
      have H1 := Lib.hid h1
      have H2 := Lib.hid h2
      have ht := ieq_true h3
      clear hx hr h1 h2 hnl h3
      cases t
      all_goals
        go_enter Try.func88, Try.ntmps88
        go_wp2_with (first | (go_at_call 115; refine (l03Is_any _ i j _ xs _ hg0 hg1 hg2 hv HX.out).mono ?_; rw [H1.out]; rintro e w1 ⟨rfl, hqu⟩; have e0 := cell_step hg0 hqu.keep; have hu2 := hu.below hqu.keep) | (go_at_call 116; refine (l02Row_any _ rs _ hu2 HR.out).mono ?_; rw [H2.out]; rintro e w2 ⟨rfl, mq, rfl⟩))
        go_ret
        exact ⟨ret_bool HO.out.symm, hqu.drewN _⟩
    · have HO : Hid (fitB i j xs rs = false) := by show fitB i j xs rs = _; unfold fitB; rw [hnl, decide_eq_false h3]; simp
      have H1 := Lib.hid h1
      have ht := ieq_false h3
      clear hx hr h1 hnl h3
      go_enter Try.func88, Try.ntmps88
      go_wp2_with (go_at_call 115; refine (l03Is_any _ i j _ xs _ hg0 hg1 hg2 hv HX.out).mono ?_; rw [H1.out]; rintro e w1 ⟨rfl, hqu⟩; have e0 := cell_step hg0 hqu.keep)
      go_ret
      exact ⟨ret_bool HO.out.symm, hqu⟩

end Go.Proofs.Ytmocfnpbofeiiaa
