/- The harness of the laws on floats: copies, sizes, comparisons, marks; channels and tables. -/
import Derived.Test.YtjobgobeiiakgaaHar
import Derived.Test.YtjobgobeiiakgaaFw
import Derived.Deep.RegionHeld3
namespace Go.Proofs.Ytjobgobeiiakgaa
set_option linter.unusedSimpArgs false
set_option linter.unusedVariables false
open Go.RowKit

/-- The bits that a not-a-number gets when it is made wider. -/
def nq (z : Nat) (w : World) : Nat := (w.tape w.drawn (.nanConv .f64 z) % 2) * 2 ^ 63 + 0x7ff0000000000000 + 1 + (w.tape w.drawn (.nanConv .f64 z) / 2) % (2 ^ 52 - 1)
theorem run_conv_nan (w : World) {z : Nat} (h : nanB z = true) : (convert 33 37 (.float .f32 z)).run Try.prog w = .ok (.float .f64 (nq z w)) w.drew := by
  obtain ⟨s, t, hr⟩ := nan_read h
  have hd : FloatKind.decode .f32 z = .nan s t := hr
  simp [convert, run_underlying Try.underlying33, run_underlying Try.underlying37, Conv.floatToFloat, hd, choose, Sem.run, Question.forced, Question.cut, nq]
theorem nq_nan (z : Nat) (w : World) : FloatKind.f64.format.order (nq z w) (nq z w) = none := by
  have hn : ∀ t : Nat, ∃ s u, Ieee.double.read ((t % 2) * 2 ^ 63 + 0x7ff0000000000000 + 1 + (t / 2) % (2 ^ 52 - 1)) = .nan s u := by
    intro t
    unfold Ieee.Format.read
    dsimp only
    have hb : Ieee.double.binade = 4503599627370496 := by decide
    rw [d_sw, d_inf, hb]
    have h : 9218868437227405312 < (t % 2 * 2 ^ 63 + 0x7ff0000000000000 + 1 + t / 2 % (2 ^ 52 - 1)) % 9223372036854775808 := by
      rcases Nat.mod_two_eq_zero_or_one t with h | h <;> rw [h] <;> omega
    rw [if_neg (by omega), if_neg (by omega), if_neg (by omega)]
    exact ⟨_, _, rfl⟩
  obtain ⟨s, u, hr⟩ := hn (w.tape w.drawn (.nanConv .f64 z))
  show Ieee.double.order _ _ = none
  unfold Ieee.Format.order nq
  rw [hr]; rfl

set_option maxHeartbeats 400000 in
theorem sameFloat_nan (x y : Nat) (w : World) (hx : FloatKind.f64.format.order x x = none) (hy : FloatKind.f64.format.order y y = none) :
    Calls Try.prog 19 #[.float .f64 x, .float .f64 y] w fun e w' => e = .returned (.bool true) ∧ w = w' := by
  go_enter Try.func19, Try.ntmps19
  go_wp2
  go_ret
  exact ⟨rfl, rfl⟩

theorem cell_drew {W : World} {a : Addr} {v : Value} (h : W.cell? a = some v) : W.drew.cell? a = some v := h
theorem keepD2 {w W : World} {a1 a2 : Addr} {v1 v2 : Value} (h : W.cell? a1 = some v1 ∧ W.cell? a2 = some v2 ∧ Qu w W) : W.drew.cell? a1 = some v1 ∧ W.drew.cell? a2 = some v2 ∧ Qu w W.drew :=
  ⟨cell_drew h.1, cell_drew h.2.1, h.2.2.drew⟩

set_option maxHeartbeats 1000000 in
theorem eqFloat32S_same (v u : Value) (xs : List Nat) (w : World) (hv : SlR w v (xs.map (Value.float .f32))) (hu : SlR w u (xs.map (Value.float .f32))) :
    Calls Try.prog 16 #[v, u] w fun e w' => e = .returned (.bool true) ∧ Qu w w' := by
  obtain ⟨a, n, c, rfl, hnl, hnc, hcm, hcell⟩ := SlR.opened 0 hv
  obtain ⟨a', n', c', rfl, hnl', hnc', hcm', hcell'⟩ := SlR.opened 0 hu
  unfold maxLen at hcm hcm'
  have hn9 : n ≤ 9223372036854775807 := by omega
  obtain rfl : n = n' := by omega
  have HN := Lib.hid hnl
  have HC := Lib.hid hcell
  have HC' := Lib.hid hcell'
  have htest : ((n : Int) != (n : Int)) = false := by simp
  clear hnl hcell hcm hnc hv hnl' hcell' hcm' hnc' hu
  go_enter Try.func16, Try.ntmps16
  go_wp2
  go_loopw [5] (fun i wr => ∃ k : Nat, k ≤ n ∧ i = .int .i64 k ∧ Qu w wr) (fun i _ => n - (intOf i).toNat)
  case atStart => exact ⟨0, Nat.zero_le _, rfl, Qu.refl _⟩
  case round =>
    obtain ⟨k, hk, rfl, hqu⟩ := hrel
    by_cases hlt : k < n
    · obtain ⟨b, off, rfl, hc0, hbl⟩ := HC.out k hlt
      obtain ⟨b', off', rfl, hc0', hbl'⟩ := HC'.out k hlt
      rw [List.getD_eq_getElem?_getD] at hc0 hc0'
      have hc := cell_step hc0 (hqu.below _)
      have hc' := cell_step hc0' (hqu.below _)
      clear hc0 hc0'
      generalize xs[k]?.getD 0 = z at *
      cases hn : nanB z
      · obtain ⟨r, hr, _⟩ := conv_up_some hn
        have hrun : ∀ W : World, (convert 33 37 (.float .f32 z)).run Try.prog W = .ok (.float .f64 r) W := fun W => run_convert_float_float W _ _ .f32 .f64 z r (by rw [Try.underlying33]; rfl) Try.underlying37 hr
        clear hn hr
        go_wp2
        go_quiet ((go_at_call 19; exact Calls.quiet_of (sameFloat_self _ _)))
        go_wp2
        go_roundw
        case rel => exact ⟨k + 1, by omega, by go_num, hqu.drewN _⟩
        case measure => simp [intOf]; omega
      · have hrun : ∀ W : World, (convert 33 37 (.float .f32 z)).run Try.prog W = .ok (.float .f64 (nq z W)) W.drew := fun W => run_conv_nan W hn
        clear hn
        go_wp2
        go_region_with (go_at_call 19; (refine (sameFloat_nan _ _ _ (nq_nan _ _) (nq_nan _ _)).mono ?_); rintro e V ⟨rfl, rfl⟩)
        all_goals
          go_wp2
          go_roundw
          case rel => exact ⟨k + 1, by omega, by go_num, by first | exact hqu.drew.drew.drew | exact hqu.drew.drew⟩
          case measure => simp [intOf]; omega
    · obtain rfl : n = k := by omega
      go_wp2
      go_ret
      exact ⟨rfl, hqu⟩

end Go.Proofs.Ytjobgobeiiakgaa
