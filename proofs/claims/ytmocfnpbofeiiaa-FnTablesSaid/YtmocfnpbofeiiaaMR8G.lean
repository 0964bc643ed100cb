/- Absolute differences by max (r8Gap). -/
import Derived.Test.YtmocfnpbofeiiaaMGpP
import Derived.Test.YtmocfnpbofeiiaaMHar
namespace Go.Proofs.Ytmocfnpbofeiiaa
set_option linter.unusedSimpArgs false
set_option linter.unusedVariables false
open Go.RowKit
open Ieee
theorem run_max {x y : Nat} (hx : Fnt double x) (hy : Fnt double y) : ∃ r, (r = x ∨ r = y) ∧ sv double x ≤ sv double r ∧ sv double y ≤ sv double r ∧ ∀ (ats : Array TypeId) (t : TypeId) (W : World), (Builtin.max_ ats t #[.float .f64 x, .float .f64 y]).run Try.prog W = .ok (.float .f64 r) W := by
  obtain ⟨o1, o2, o3⟩ := order_fin hx hy
  by_cases h1 : sv double x < sv double y
  · have ho : FloatKind.f64.format.order x y = some .lt := o1.2 h1
    exact ⟨y, .inr rfl, Rat.le_of_lt h1, Rat.le_refl, fun ats t W => by simp [Builtin.max_, Builtin.max2, ho]⟩
  · by_cases h2 : sv double x = sv double y
    · have ho : FloatKind.f64.format.order x y = some .eq := o2.2 h2
      cases hn : (FloatKind.f64.decode x).neg
      · exact ⟨x, .inl rfl, Rat.le_refl, by rw [h2]; exact Rat.le_refl, fun ats t W => by simp [Builtin.max_, Builtin.max2, ho, hn]⟩
      · exact ⟨y, .inr rfl, by rw [h2]; exact Rat.le_refl, Rat.le_refl, fun ats t W => by simp [Builtin.max_, Builtin.max2, ho, hn]⟩
    · have ho : FloatKind.f64.format.order x y = some .gt := o3.2 (by grind)
      exact ⟨x, .inl rfl, Rat.le_refl, by grind, fun ats t W => by simp [Builtin.max_, Builtin.max2, ho]⟩

set_option maxHeartbeats 1000000 in
theorem r8Gap_any {x y : Nat} (hx : Fnt double x) (hy : Fnt double y) (h : av (sv double x - sv double y) ≤ 100) : ∃ r, Fnt double r ∧ av (sv double r - av (sv double x - sv double y)) ≤ 1 / 10000000000000 ∧ ∀ w, Calls Try.prog 14 #[.float .f64 x, .float .f64 y] w fun e w' => e = .returned (.float .f64 r) ∧ w = w' := by
  have ax : Ap .f64 x (sv double x) 0 := Ap.self (k := .f64) hx
  have ay : Ap .f64 y (sv double y) 0 := Ap.self (k := .f64) hy
  have h' : av (sv double y - sv double x) ≤ 100 := by rw [show sv double y - sv double x = -(sv double x - sv double y) by grind, av_neg]; exact h
  obtain ⟨a1, a2⟩ := ap_sub (k := .f64) (E := 1 / 10000000000000) ax ay (A := 100) h (by decide +kernel) (by decide +kernel)
  obtain ⟨b1, b2⟩ := ap_sub (k := .f64) (E := 1 / 10000000000000) ay ax (A := 100) h' (by decide +kernel) (by decide +kernel)
  obtain ⟨r, r1, r2, r3, r4⟩ := run_max a2.1 b2.1
  refine ⟨r, ?_, ?_, fun w => ?_⟩
  · rcases r1 with rfl | rfl
    · exact a2.1
    · exact b2.1
  · have p1 := Rat.le_trans (le_av _) a2.2
    have p2 := Rat.le_trans (neg_le_av _) a2.2
    have q1 := Rat.le_trans (le_av _) b2.2
    have q2 := Rat.le_trans (neg_le_av _) b2.2
    rw [show FloatKind.f64.format = double from rfl] at p1 p2 q1 q2
    have hr : sv double r ≤ sv double (fA .sub .f64 x y) ∨ sv double r ≤ sv double (fA .sub .f64 y x) := by
      rcases r1 with rfl | rfl
      · exact .inl Rat.le_refl
      · exact .inr Rat.le_refl
    have e : (av (sv double x - sv double y) = sv double x - sv double y ∧ sv double y ≤ sv double x) ∨ (av (sv double x - sv double y) = sv double y - sv double x ∧ sv double x ≤ sv double y) := by
      by_cases hc : sv double y ≤ sv double x
      · exact .inl ⟨av_of_nonneg (by grind), hc⟩
      · right
        refine ⟨?_, by grind⟩
        rw [show sv double x - sv double y = -(sv double y - sv double x) by grind, av_neg, av_of_nonneg (by grind)]
    clear a2 b2 ax ay h h' r1 r4 a1 b1
    generalize sv double (fA .sub .f64 x y) = s at *
    generalize sv double (fA .sub .f64 y x) = t at *
    generalize sv double r = u at *
    generalize sv double x = a at *
    generalize sv double y = b at *
    rcases e with ⟨e, e'⟩ | ⟨e, e'⟩
    · rw [e]; exact av_le (by grind) (by grind)
    · rw [e]; exact av_le (by grind) (by grind)
  · clear a2 b2 ax ay h h' r1 r2 r3 hx hy
    go_enter Try.func14, Try.ntmps14
    go_wp2
    go_ret
    exact ⟨rfl, rfl⟩

end Go.Proofs.Ytmocfnpbofeiiaa
