/- What letters of one row take by another one (covers, MoreBits, CrossEntropy). -/
import Derived.Test.YtmocfnpbofeiiaaMTbG
import Derived.Test.YtmocfnpbofeiiaaMSpo
import Derived.BigQuiet
import Derived.Test.YtmocfnpbofeiiaaMR8T
import Derived.Test.YtmocfnpbofeiiaaMCct
import Derived.Test.YtmocfnpbofeiiaaMTbF
import Derived.Test.YtmocfnpbofeiiaaMCirN
namespace Go.Proofs.Ytmocfnpbofeiiaa
set_option linter.unusedSimpArgs false
set_option linter.unusedVariables false
open Go.RowKit
open Ieee
def mbT (x y : Nat) : Nat := fA .mul .f32 x (fA .sub .f32 (enB x) (enB y))
def mbS (xs ys : List Nat) : Nat → Nat
  | 0 => 0
  | t + 1 => if xs[t]?.getD 0 = 0 then mbS xs ys t else fA .add .f32 (mbS xs ys t) (mbT (xs[t]?.getD 0) (ys[t]?.getD 0))
def ceS (xs ys : List Nat) : Nat → Nat
  | 0 => 0
  | t + 1 => if xs[t]?.getD 0 = 0 then ceS xs ys t else fA .add .f32 (ceS xs ys t) (fA .mul .f32 (xs[t]?.getD 0) (enB (ys[t]?.getD 0)))
noncomputable def DxE (p q : Nat → Rat) (n : Nat) : Rat := smN (fun i => p i * (Lb (p i) - Lb (q i))) n
noncomputable def CxE (p q : Nat → Rat) (n : Nat) : Rat := 0 - smN (fun i => p i * Lb (q i)) n
/-- How two rows lie to one another. -/
structure Cov (xs ys : List Nat) (n : Nat) (p q : Nat → Rat) : Prop where
  r : Rw1 (1 / 8000000) xs n p
  s : Rw1 (1 / 8000000) ys n q
  n8 : n ≤ 8
  cov : ∀ i, i < n → p i ≠ 0 → q i ≠ 0
section
variable {xs ys : List Nat} {n : Nat} {p q : Nat → Rat} (h : Cov xs ys n p q)
include h
theorem Cov.mbTerm {i : Nat} (hi : i < n) (h0 : p i ≠ 0) : (floatBits .sub .f32 (enB (xs[i]?.getD 0)) (enB (ys[i]?.getD 0))).isSome = true ∧ (floatBits .mul .f32 (xs[i]?.getD 0) (fA .sub .f32 (enB (xs[i]?.getD 0)) (enB (ys[i]?.getD 0)))).isSome = true ∧ Ap .f32 (mbT (xs[i]?.getD 0) (ys[i]?.getD 0)) (p i * (Lb (p i) - Lb (q i))) (1 / 40000 * p i) ∧ av (p i * (Lb (p i) - Lb (q i))) ≤ 28 * p i ∧ 0 < xs[i]?.getD 0 ∧ 0 < ys[i]?.getD 0 := by
  have R := h.r.el i hi
  have S := h.s.el i hi
  have q0 := h.cov i hi h0
  have B1 := rq_bits R h0 (by decide +kernel)
  have B2 := rq_bits S q0 (by decide +kernel)
  have b1 := Lb_in (R.2.2.1 h0) R.2.2.2.1
  have b2 := Lb_in (S.2.2.1 q0) S.2.2.2.1
  have b12 := av_sub_le b1 b2
  obtain ⟨s1, s2⟩ := ap_sub (k := .f32) (E := 1 / 65000) B1 B2 b12 (by decide +kernel) (by decide +kernel)
  obtain ⟨u1, u2⟩ := rq_times (f := 1 / 40000 * p i) (g := 1 / 40000) R s2 b12 (by decide +kernel) (by decide +kernel) (by decide +kernel) (by decide +kernel) h0 (by decide +kernel) Rat.le_refl
  refine ⟨s1, u1, u2, ?_, (R.pos (by decide +kernel) h0).1, (S.pos (by decide +kernel) q0).1⟩
  have := av_mul_le (show av (p i) ≤ p i by rw [av_of_nonneg R.nn]; exact Rat.le_refl) b12
  refine Rat.le_trans this ?_
  grind
theorem Cov.ceTerm {i : Nat} (hi : i < n) (h0 : p i ≠ 0) : (floatBits .mul .f32 (xs[i]?.getD 0) (enB (ys[i]?.getD 0))).isSome = true ∧ Ap .f32 (fA .mul .f32 (xs[i]?.getD 0) (enB (ys[i]?.getD 0))) (p i * Lb (q i)) (1 / 40000 * p i) ∧ av (p i * Lb (q i)) ≤ 28 * p i := by
  have R := h.r.el i hi
  have S := h.s.el i hi
  have q0 := h.cov i hi h0
  have B2 := rq_bits S q0 (by decide +kernel)
  have b2 := Lb_in (S.2.2.1 q0) S.2.2.2.1
  obtain ⟨u1, u2⟩ := rq_times (f := 1 / 40000 * p i) (g := 1 / 40000) R B2 b2 (by decide +kernel) (by decide +kernel) (by decide +kernel) (by decide +kernel) h0 (by decide +kernel) Rat.le_refl
  refine ⟨u1, u2, ?_⟩
  have := av_mul_le (show av (p i) ≤ p i by rw [av_of_nonneg R.nn]; exact Rat.le_refl) b2
  have := R.nn
  grind
end
/-- Sums that skip what is nothing. -/
theorem skip_sum {xs : List Nat} {n : Nat} {p : Nat → Rat} (r : Rw1 (1 / 8000000) xs n p) (n8 : n ≤ 8) {S : Nat → Nat} {T : Nat → Nat} {g : Nat → Rat} (S0 : S 0 = 0) (S1 : ∀ t, t < n → S (t + 1) = if xs[t]?.getD 0 = 0 then S t else fA .add .f32 (S t) (T t)) (g0 : ∀ t, t < n → p t = 0 → g t = 0) (hT : ∀ t, t < n → p t ≠ 0 → Ap .f32 (T t) (g t) (1 / 40000 * p t) ∧ av (g t) ≤ 28 * p t) :
    ∀ t, t ≤ n → (Ap .f32 (S t) (smN g t) (1 / 40000 * smN p t + (t : Rat) / 180000) ∧ av (smN g t) ≤ 28 * smN p t) ∧ (t < n → p t ≠ 0 → (floatBits .add .f32 (S t) (T t)).isSome = true) := by
  have nn : ∀ i, i < n → 0 ≤ p i := fun i hi => (r.el i hi).nn
  have step : ∀ t, t < n → (Ap .f32 (S t) (smN g t) (1 / 40000 * smN p t + (t : Rat) / 180000) ∧ av (smN g t) ≤ 28 * smN p t) → p t ≠ 0 → (floatBits .add .f32 (S t) (T t)).isSome = true ∧ Ap .f32 (fA .add .f32 (S t) (T t)) (smN g (t + 1)) (1 / 40000 * smN p (t + 1) + ((t + 1 : Nat) : Rat) / 180000) ∧ av (smN g (t + 1)) ≤ 28 * smN p (t + 1) := by
    rintro t ht ⟨i1, i2⟩ h0
    obtain ⟨t1, t2⟩ := hT t ht h0
    have s1 := smN_mono nn (t + 1) ht
    have s0 := smN_nonneg (f := p) t (fun j hj => nn j (by omega))
    rw [r.one] at s1
    have p0 := nn t ht
    simp only [smN] at s1 ⊢
    have A := av_add_le i2 t2
    have k1 := nat_rat (show t ≤ 8 by omega)
    rw [show ((8 : Nat) : Rat) = 8 from rfl] at k1
    have k0 := nat_rat0 t
    obtain ⟨b1, b2⟩ := acc_step i1 t1 (Rat.le_trans A (by grind)) (by grind)
    refine ⟨b1, b2.mono ?_, Rat.le_trans A (by grind)⟩
    rw [nat_rat1]
    grind
  have all : ∀ t, t ≤ n → (Ap .f32 (S t) (smN g t) (1 / 40000 * smN p t + (t : Rat) / 180000) ∧ av (smN g t) ≤ 28 * smN p t) := by
    intro t
    induction t with
    | zero =>
      intro _
      rw [S0]
      simp only [smN]
      refine ⟨?_, by decide +kernel⟩
      rw [show (1 : Rat) / 40000 * 0 + ((0 : Nat) : Rat) / 180000 = 0 by rw [show ((0 : Nat) : Rat) = 0 from rfl]; grind]
      exact zero_ap
    | succ t ih =>
      intro ht
      have I := ih (by omega)
      rw [S1 t (by omega)]
      have hz := (r.el t (by omega)).nil (show (1 : Rat) / 8000000 ≤ 1 / 1000 by decide +kernel)
      by_cases h0 : p t = 0
      · rw [if_pos (hz.2 h0)]
        simp only [smN]
        rw [h0, g0 t (by omega) h0, Rat.add_zero, Rat.add_zero, nat_rat1]
        exact ⟨I.1.mono (by grind), I.2⟩
      · rw [if_neg (fun hc => h0 (hz.1 hc))]
        exact (step t (by omega) I h0).2
  exact fun t ht => ⟨all t ht, fun h1 h2 => (step t h1 (all t ht) h2).1⟩
section
variable {xs ys : List Nat} {n : Nat} {p q : Nat → Rat} (h : Cov xs ys n p q)
include h
theorem Cov.mb : ∀ t, t ≤ n → (Ap .f32 (mbS xs ys t) (smN (fun i => p i * (Lb (p i) - Lb (q i))) t) (1 / 40000 * smN p t + (t : Rat) / 180000) ∧ av (smN (fun i => p i * (Lb (p i) - Lb (q i))) t) ≤ 28 * smN p t) ∧ (t < n → p t ≠ 0 → (floatBits .add .f32 (mbS xs ys t) (mbT (xs[t]?.getD 0) (ys[t]?.getD 0))).isSome = true) :=
  skip_sum (S := mbS xs ys) (T := fun t => mbT (xs[t]?.getD 0) (ys[t]?.getD 0)) h.r h.n8 rfl (fun _ _ => rfl) (fun t _ h0 => by rw [h0, Rat.zero_mul]) (fun t ht h0 => ⟨(h.mbTerm ht h0).2.2.1, (h.mbTerm ht h0).2.2.2.1⟩)
theorem Cov.ce : ∀ t, t ≤ n → (Ap .f32 (ceS xs ys t) (smN (fun i => p i * Lb (q i)) t) (1 / 40000 * smN p t + (t : Rat) / 180000) ∧ av (smN (fun i => p i * Lb (q i)) t) ≤ 28 * smN p t) ∧ (t < n → p t ≠ 0 → (floatBits .add .f32 (ceS xs ys t) (fA .mul .f32 (xs[t]?.getD 0) (enB (ys[t]?.getD 0)))).isSome = true) :=
  skip_sum (S := ceS xs ys) (T := fun t => fA .mul .f32 (xs[t]?.getD 0) (enB (ys[t]?.getD 0))) h.r h.n8 rfl (fun _ _ => rfl) (fun t _ h0 => by rw [h0, Rat.zero_mul]) (fun t ht h0 => ⟨(h.ceTerm ht h0).2.1, (h.ceTerm ht h0).2.2⟩)
theorem Cov.mbAp : Ap .f32 (mbS xs ys n) (DxE p q n) (1 / 14000) ∧ av (DxE p q n) ≤ 28 := by
  obtain ⟨⟨A, B⟩, _⟩ := h.mb n (Nat.le_refl _)
  rw [h.r.one] at A B
  have k1 := nat_rat h.n8
  rw [show ((8 : Nat) : Rat) = 8 from rfl] at k1
  exact ⟨A.mono (by grind), Rat.le_trans B (by grind)⟩
theorem Cov.ceAp : (floatBits .sub .f32 0 (ceS xs ys n)).isSome = true ∧ Ap .f32 (fA .sub .f32 0 (ceS xs ys n)) (CxE p q n) (1 / 13000) ∧ av (CxE p q n) ≤ 28 := by
  obtain ⟨⟨A, B⟩, _⟩ := h.ce n (Nat.le_refl _)
  rw [h.r.one] at A B
  have k1 := nat_rat h.n8
  rw [show ((8 : Nat) : Rat) = 8 from rfl] at k1
  have hB : av (CxE p q n) ≤ 28 := by
    unfold CxE
    rw [show ∀ z : Rat, 0 - z = -z from fun z => by grind, av_neg]
    exact Rat.le_trans B (by grind)
  obtain ⟨e1, e2⟩ := ap_sub (k := .f32) (E := 1 / 13000) zero_ap (A.mono (show 1 / 40000 * 1 + (n : Rat) / 180000 ≤ 1 / 14000 by grind)) hB (by decide +kernel) (by decide +kernel)
  exact ⟨e1, e2, hB⟩
end

set_option maxRecDepth 4000 in
set_option maxHeartbeats 4000000 in
theorem covers_any {xs ys : List Nat} {n : Nat} {p q : Nat → Rat} (h : Cov xs ys n p q) (w : World) (v u : Value) (hv : SlR w v (xs.map (Value.float .f32))) (hu : SlR w u (ys.map (Value.float .f32))) :
    Calls Try.prog 105 #[v, u] w fun e w' => e = .returned (.bool true) ∧ Qu w w' := by
  have n1 := h.r.n1
  obtain ⟨b, off, c, rfl, _, _, xcell⟩ := sl_cells hv h.r.len n1
  obtain ⟨b2, off2, c2, rfl, _, _, ycell⟩ := sl_cells hu h.s.len n1
  have HX := Lib.hid xcell
  have HY := Lib.hid ycell
  have n8 := h.n8
  have HV : Hid (∀ t, t < n → FloatKind.f32.format.order (xs[t]?.getD 0) 0 = some .eq ∨ (FloatKind.f32.format.order (xs[t]?.getD 0) 0 = some .gt ∧ FloatKind.f32.format.order (ys[t]?.getD 0) 0 = some .gt)) := Lib.hid fun t ht => by
    have R := h.r.el t ht
    have S := h.s.el t ht
    by_cases h0 : p t = 0
    · left; rw [R.2.1 h0]; rfl
    · right
      have q0 := h.cov t ht h0
      exact ⟨order_x0 (R.pos (by decide +kernel) h0).1 R.1, order_x0 (S.pos (by decide +kernel) q0).1 S.1⟩
  clear hv hu xcell ycell h
  go_enter Try.func105, Try.ntmps105
  go_upto_region 2 with fail
  go_loopw [9] (fun q W => ∃ t : Nat, t ≤ n ∧ q = .int .i64 (t : Int) ∧ Qu w W) (fun q _ => n - (intOf q).toNat)
  case atStart => exact ⟨0, Nat.zero_le _, rfl, Qu.refl _⟩
  case round =>
    obtain ⟨t, ht, rfl, hq⟩ := hrel
    by_cases hlt : t < n
    · have hc := HX.out wr hq.keep t hlt
      have hd := HY.out wr hq.keep t hlt
      have hV := HV.out t hlt
      generalize xs[t]?.getD 0 = x at *
      generalize ys[t]?.getD 0 = y at *
      rcases hV with e | ⟨e, e'⟩
      all_goals
        go_wp2
        go_roundw
        case rel => exact ⟨t + 1, by omega, by go_num, hq⟩
        case measure => simp [intOf]; omega
    · obtain rfl : n = t := by omega
      clear HX HY HV
      go_wp2
      go_ret
      exact ⟨rfl, hq⟩

set_option maxRecDepth 4000 in
set_option maxHeartbeats 4000000 in
theorem MoreBits_any {xs ys : List Nat} {n : Nat} {p q : Nat → Rat} (h : Cov xs ys n p q) (w : World) (v u : Value) (hv : SlR w v (xs.map (Value.float .f32))) (hu : SlR w u (ys.map (Value.float .f32))) :
    Calls Try.prog 54 #[v, u] w fun e w' => e = .returned (.tuple #[.float .f32 (mbS xs ys n), .bool true]) ∧ Qu w w' := by
  have n1 := h.r.n1
  have HTW : Hid (Calls Try.prog 97 #[v, u] w fun e w' => e = .returned (.bool true) ∧ Qu w w') := Lib.hid (by
    have := areRows_any v u xs ys w hv hu h.r.lt32 h.s.lt32
    rwa [show twB xs ys = true by unfold twB; rw [h.r.row (by decide +kernel) (by decide +kernel) (by have := h.n8; omega), h.s.row (by decide +kernel) (by decide +kernel) (by have := h.n8; omega), h.r.len, h.s.len]; simp] at this)
  have HCV : Hid (∀ W, Qu w W → Calls Try.prog 105 #[v, u] W fun e w' => e = .returned (.bool true) ∧ Qu W w') := Lib.hid fun W hW => covers_any h W v u (hv.below hW.keep) (hu.below hW.keep)
  obtain ⟨b, off, c, rfl, _, _, xcell⟩ := sl_cells hv h.r.len n1
  obtain ⟨b2, off2, c2, rfl, _, _, ycell⟩ := sl_cells hu h.s.len n1
  have HX := Lib.hid xcell
  have HY := Lib.hid ycell
  have HV : Hid (∀ t, t < n → (FloatKind.f32.format.order (xs[t]?.getD 0) 0 = some .eq ∧ mbS xs ys (t + 1) = mbS xs ys t) ∨ (FloatKind.f32.format.order (xs[t]?.getD 0) 0 = some .gt ∧ 0 < xs[t]?.getD 0 ∧ xs[t]?.getD 0 < 2139095040 ∧ 0 < ys[t]?.getD 0 ∧ ys[t]?.getD 0 < 2139095040 ∧ (floatBits .sub .f32 (enB (xs[t]?.getD 0)) (enB (ys[t]?.getD 0))).isSome = true ∧ (floatBits .mul .f32 (xs[t]?.getD 0) (fA .sub .f32 (enB (xs[t]?.getD 0)) (enB (ys[t]?.getD 0)))).isSome = true ∧ (floatBits .add .f32 (mbS xs ys t) (fA .mul .f32 (xs[t]?.getD 0) (fA .sub .f32 (enB (xs[t]?.getD 0)) (enB (ys[t]?.getD 0))))).isSome = true ∧ mbS xs ys (t + 1) = fA .add .f32 (mbS xs ys t) (fA .mul .f32 (xs[t]?.getD 0) (fA .sub .f32 (enB (xs[t]?.getD 0)) (enB (ys[t]?.getD 0)))))) := Lib.hid fun t ht => by
    have R := h.r.el t ht
    have hz := R.nil (show (1 : Rat) / 8000000 ≤ 1 / 1000 by decide +kernel)
    by_cases h0 : p t = 0
    · left
      simp only [mbS]
      rw [if_pos (hz.2 h0), hz.2 h0]
      exact ⟨rfl, rfl⟩
    · right
      obtain ⟨t1, t2, _, _, t5, t6⟩ := h.mbTerm ht h0
      refine ⟨order_x0 t5 R.1, t5, R.1, t6, (h.s.el t ht).1, t1, t2, (h.mb t (by omega)).2 ht h0, ?_⟩
      simp only [mbS]
      rw [if_neg (fun hc => h0 (hz.1 hc))]
      rfl
  have HBO : Hid (∀ x W, 0 < x → x < 2139095040 → Calls Try.prog 73 #[.float .f32 x] W fun e w' => e = .returned (.float .f32 (enB x)) ∧ Qu W w') := Lib.hid fun x W h0 hx => bitsOf_any x W h0 hx
  obtain ⟨hfin, hfz⟩ := fin_ok h.mbAp.1.1
  have HAS : Hid (∀ W : World, Calls Try.prog 63 #[.float .f32 (mbS xs ys n)] W fun e w' => e = .returned (.tuple #[.float .f32 (mbS xs ys n), .bool true]) ∧ Qu W w') := Lib.hid fun W => by
    have := asNumber_any (mbS xs ys n) W
    rwa [hfin, hfz] at this
  have n8 := h.n8
  clear hv hu xcell ycell h hfin hfz
  go_enter Try.func54, Try.ntmps54
  go_upto_region 3 with (first
    | (go_at_call 105; refine (HCV.out _ hq1).mono ?_; rintro e w2 ⟨rfl, hq2⟩)
    | (go_at_call 97; refine HTW.out.mono ?_; rintro e w1 ⟨rfl, hq1⟩))
  have hq12 := hq1.trans hq2
  go_upto_region 5 with fail
  go_loopw [6, 21] (fun s q W => ∃ t : Nat, t ≤ n ∧ q = .int .i64 (t : Int) ∧ s = .float .f32 (mbS xs ys t) ∧ Qu w W) (fun _ q _ => n - (intOf q).toNat)
  case atStart => exact ⟨0, Nat.zero_le _, rfl, rfl, hq12⟩
  case round =>
    clear hq1 hq2 hq12
    obtain ⟨t, ht, rfl, rfl, hq⟩ := hrel
    by_cases hlt : t < n
    · have hc := HX.out wr hq.keep t hlt
      have hd := HY.out wr hq.keep t hlt
      rcases HV.out t hlt with ⟨e, e2⟩ | ⟨e, x0, xi, y0, yi, m1, m2, m3, e2⟩
      · have HS := Lib.hid e2
        clear e2
        generalize xs[t]?.getD 0 = x at *
        generalize ys[t]?.getD 0 = y at *
        go_wp2
        go_roundw
        case rel => exact ⟨t + 1, by omega, by go_num, by rw [HS.out], hq⟩
        case measure => simp [intOf]; omega
      · have HS := Lib.hid e2
        have B1 := Lib.hid (fun W => HBO.out _ W x0 xi)
        have B2 := Lib.hid (fun W => HBO.out _ W y0 yi)
        clear e2 x0 xi y0 yi
        generalize xs[t]?.getD 0 = x at *
        generalize ys[t]?.getD 0 = y at *
        generalize enB x = ex at *
        generalize enB y = ey at *
        go_upto_region 8 with fail
        go_quiet ((go_at_call 73; first | exact Calls.quiet_of (B1.out _) | exact Calls.quiet_of (B2.out _)))
        go_wp2
        go_roundw
        case rel => exact ⟨t + 1, by omega, by go_num, by rw [HS.out], hq.drewN _⟩
        case measure => simp [intOf]; omega
    · obtain rfl : n = t := by omega
      clear HX HY HV
      go_wp2_with (go_at_call 63; refine (HAS.out _).mono ?_; rintro e w5 ⟨rfl, hq5⟩)
      go_ret2
      exact ⟨rfl, hq.trans hq5⟩

set_option maxRecDepth 4000 in
set_option maxHeartbeats 4000000 in
theorem CrossEntropy_any {xs ys : List Nat} {n : Nat} {p q : Nat → Rat} (h : Cov xs ys n p q) (w : World) (v u : Value) (hv : SlR w v (xs.map (Value.float .f32))) (hu : SlR w u (ys.map (Value.float .f32))) :
    Calls Try.prog 55 #[v, u] w fun e w' => e = .returned (.tuple #[.float .f32 (fA .sub .f32 0 (ceS xs ys n)), .bool true]) ∧ Qu w w' := by
  have n1 := h.r.n1
  have HTW : Hid (Calls Try.prog 97 #[v, u] w fun e w' => e = .returned (.bool true) ∧ Qu w w') := Lib.hid (by
    have := areRows_any v u xs ys w hv hu h.r.lt32 h.s.lt32
    rwa [show twB xs ys = true by unfold twB; rw [h.r.row (by decide +kernel) (by decide +kernel) (by have := h.n8; omega), h.s.row (by decide +kernel) (by decide +kernel) (by have := h.n8; omega), h.r.len, h.s.len]; simp] at this)
  have HCV : Hid (∀ W, Qu w W → Calls Try.prog 105 #[v, u] W fun e w' => e = .returned (.bool true) ∧ Qu W w') := Lib.hid fun W hW => covers_any h W v u (hv.below hW.keep) (hu.below hW.keep)
  obtain ⟨b, off, c, rfl, _, _, xcell⟩ := sl_cells hv h.r.len n1
  obtain ⟨b2, off2, c2, rfl, _, _, ycell⟩ := sl_cells hu h.s.len n1
  have HX := Lib.hid xcell
  have HY := Lib.hid ycell
  have HV : Hid (∀ t, t < n → (FloatKind.f32.format.order (xs[t]?.getD 0) 0 = some .eq ∧ ceS xs ys (t + 1) = ceS xs ys t) ∨ (FloatKind.f32.format.order (xs[t]?.getD 0) 0 = some .gt ∧ 0 < ys[t]?.getD 0 ∧ ys[t]?.getD 0 < 2139095040 ∧ (floatBits .mul .f32 (xs[t]?.getD 0) (enB (ys[t]?.getD 0))).isSome = true ∧ (floatBits .add .f32 (ceS xs ys t) (fA .mul .f32 (xs[t]?.getD 0) (enB (ys[t]?.getD 0)))).isSome = true ∧ ceS xs ys (t + 1) = fA .add .f32 (ceS xs ys t) (fA .mul .f32 (xs[t]?.getD 0) (enB (ys[t]?.getD 0))))) := Lib.hid fun t ht => by
    have R := h.r.el t ht
    have hz := R.nil (show (1 : Rat) / 8000000 ≤ 1 / 1000 by decide +kernel)
    by_cases h0 : p t = 0
    · left
      simp only [ceS]
      rw [if_pos (hz.2 h0), hz.2 h0]
      exact ⟨rfl, rfl⟩
    · right
      obtain ⟨_, _, _, _, t5, t6⟩ := h.mbTerm ht h0
      refine ⟨order_x0 t5 R.1, t6, (h.s.el t ht).1, (h.ceTerm ht h0).1, (h.ce t (by omega)).2 ht h0, ?_⟩
      simp only [ceS]
      rw [if_neg (fun hc => h0 (hz.1 hc))]
  have HBO : Hid (∀ x W, 0 < x → x < 2139095040 → Calls Try.prog 73 #[.float .f32 x] W fun e w' => e = .returned (.float .f32 (enB x)) ∧ Qu W w') := Lib.hid fun x W h0 hx => bitsOf_any x W h0 hx
  obtain ⟨hsub, hap, _⟩ := h.ceAp
  obtain ⟨hfin, hfz⟩ := fin_ok hap.1
  have HAS : Hid (∀ W : World, Calls Try.prog 63 #[.float .f32 (fA .sub .f32 0 (ceS xs ys n))] W fun e w' => e = .returned (.tuple #[.float .f32 (fA .sub .f32 0 (ceS xs ys n)), .bool true]) ∧ Qu W w') := Lib.hid fun W => by
    have := asNumber_any (fA .sub .f32 0 (ceS xs ys n)) W
    rwa [hfin, hfz] at this
  have n8 := h.n8
  clear hv hu xcell ycell h hfin hfz hap
  go_enter Try.func55, Try.ntmps55
  go_upto_region 3 with (first
    | (go_at_call 105; refine (HCV.out _ hq1).mono ?_; rintro e w2 ⟨rfl, hq2⟩)
    | (go_at_call 97; refine HTW.out.mono ?_; rintro e w1 ⟨rfl, hq1⟩))
  have hq12 := hq1.trans hq2
  go_upto_region 5 with fail
  go_loopw [6, 21] (fun s q W => ∃ t : Nat, t ≤ n ∧ q = .int .i64 (t : Int) ∧ s = .float .f32 (ceS xs ys t) ∧ Qu w W) (fun _ q _ => n - (intOf q).toNat)
  case atStart => exact ⟨0, Nat.zero_le _, rfl, rfl, hq12⟩
  case round =>
    clear hq1 hq2 hq12
    obtain ⟨t, ht, rfl, rfl, hq⟩ := hrel
    by_cases hlt : t < n
    · have hc := HX.out wr hq.keep t hlt
      have hd := HY.out wr hq.keep t hlt
      rcases HV.out t hlt with ⟨e, e2⟩ | ⟨e, y0, yi, m2, m3, e2⟩
      · have HS := Lib.hid e2
        clear e2
        generalize xs[t]?.getD 0 = x at *
        generalize ys[t]?.getD 0 = y at *
        go_wp2
        go_roundw
        case rel => exact ⟨t + 1, by omega, by go_num, by rw [HS.out], hq⟩
        case measure => simp [intOf]; omega
      · have HS := Lib.hid e2
        have B2 := Lib.hid (fun W => HBO.out _ W y0 yi)
        clear e2 y0 yi
        generalize xs[t]?.getD 0 = x at *
        generalize ys[t]?.getD 0 = y at *
        generalize enB y = ey at *
        go_wp2_with (go_at_call 73; refine (B2.out _).mono ?_; rintro e w3 ⟨rfl, hq3⟩)
        go_roundw
        case rel => exact ⟨t + 1, by omega, by go_num, by rw [HS.out], hq.trans hq3⟩
        case measure => simp [intOf]; omega
    · obtain rfl : n = t := by omega
      clear HX HY HV
      go_wp2_with (go_at_call 63; refine (HAS.out _).mono ?_; rintro e w5 ⟨rfl, hq5⟩)
      go_ret2
      exact ⟨rfl, hq.trans hq5⟩

end Go.Proofs.Ytmocfnpbofeiiaa

/- How far rows are (FarOfRows), and surprises (SurpriseOf). -/
namespace Go.Proofs.Ytmocfnpbofeiiaa
set_option linter.unusedSimpArgs false
set_option linter.unusedVariables false
open Go.RowKit
open Ieee
/-- The absolute value of a word. -/
def abW (x : Nat) : Nat := if x ≤ 2139095040 then x else if x - 2147483648 = 0 then 2147483648 else x - 2147483648
theorem abW_ok {x : Nat} (hf : Fnt single x) (hx : x < 4294967296) : (x ≤ 2139095040 ∨ ∃ q, x = 2147483648 + q ∧ q ≤ 2139095040) ∧ Fnt single (abW x) ∧ sv single (abW x) = av (sv single x) := by
  have hr : rg single x < single.infRung := hf
  rw [rgs, s_inf] at hr
  by_cases h : x < 2147483648
  · have hx2 : x < 2139095040 := by omega
    refine ⟨.inl (by omega), ?_, ?_⟩
    · unfold abW; rw [if_pos (by omega)]; exact hf
    · unfold abW
      rw [if_pos (by omega), sv_of_le single (by rw [s_inf]; omega)]
      exact (av_of_nonneg (rv_nonneg _ _)).symm
  · obtain ⟨q, rfl⟩ : ∃ q, x = 2147483648 + q := ⟨x - 2147483648, by omega⟩
    have hq : q < 2139095040 := by omega
    have e1 := av_sv single (2147483648 + q)
    have e2 : rg single (2147483648 + q) = q := by rw [rgs]; omega
    rw [e2] at e1
    refine ⟨.inr ⟨q, rfl, by omega⟩, ?_, ?_⟩
    · unfold abW
      rw [if_neg (by omega), Nat.add_sub_cancel_left]
      split
      · unfold Fnt; decide
      · exact fin_of_lt single (by rw [s_inf]; exact hq)
    · unfold abW
      rw [if_neg (by omega), Nat.add_sub_cancel_left, e1]
      split
      · rename_i h0
        rw [h0]
        decide +kernel
      · exact sv_of_le single (by rw [s_inf]; omega)
def fdS (xs ys : List Nat) : Nat → Nat
  | 0 => 0
  | t + 1 => fA .add .f32 (fdS xs ys t) (abW (fA .sub .f32 (xs[t]?.getD 0) (ys[t]?.getD 0)))
noncomputable def FxE (p q : Nat → Rat) (n : Nat) : Rat := smN (fun i => av (p i - q i)) n
/-- Two rows of the same length. -/
structure Two (xs ys : List Nat) (n : Nat) (p q : Nat → Rat) : Prop where
  r : Rw1 (1 / 8000000) xs n p
  s : Rw1 (1 / 8000000) ys n q
  n8 : n ≤ 8
section
variable {xs ys : List Nat} {n : Nat} {p q : Nat → Rat} (h : Two xs ys n p q)
include h
theorem Two.term {i : Nat} (hi : i < n) : (floatBits .sub .f32 (xs[i]?.getD 0) (ys[i]?.getD 0)).isSome = true ∧ fA .sub .f32 (xs[i]?.getD 0) (ys[i]?.getD 0) < 4294967296 ∧ Ap .f32 (fA .sub .f32 (xs[i]?.getD 0) (ys[i]?.getD 0)) (p i - q i) (1 / 2000000) ∧ Ap .f32 (abW (fA .sub .f32 (xs[i]?.getD 0) (ys[i]?.getD 0))) (av (p i - q i)) (1 / 2000000) ∧ 0 ≤ sv single (abW (fA .sub .f32 (xs[i]?.getD 0) (ys[i]?.getD 0))) ∧ av (p i - q i) ≤ 1 := by
  have R := h.r.el i hi
  have S := h.s.el i hi
  have r1 := h.r.le1 hi
  have s1 := h.s.le1 hi
  have d1 : av (p i - q i) ≤ 1 := av_le (by grind) (by grind)
  obtain ⟨a1, a2⟩ := ap_sub (k := .f32) (E := 1 / 2000000) (R.ap (e := 1 / 8000000) (by grind)) (S.ap (e := 1 / 8000000) (by grind)) d1 (by decide +kernel) (by decide +kernel)
  have hlt := fA_lt32 a1
  obtain ⟨_, b2, b3⟩ := abW_ok a2.1 hlt
  refine ⟨a1, hlt, a2, ⟨b2, ?_⟩, by rw [b3]; exact av_nonneg _, d1⟩
  rw [show FloatKind.f32.format = single from rfl, b3]
  have h1 := a2.2
  rw [show FloatKind.f32.format = single from rfl] at h1
  have g1 := av_add (sv single (fA .sub .f32 (xs[i]?.getD 0) (ys[i]?.getD 0)) - (p i - q i)) (p i - q i)
  have g2 := av_add (-(sv single (fA .sub .f32 (xs[i]?.getD 0) (ys[i]?.getD 0)) - (p i - q i))) (sv single (fA .sub .f32 (xs[i]?.getD 0) (ys[i]?.getD 0)))
  rw [show ∀ a b : Rat, a - b + b = a from fun a b => by grind] at g1
  rw [show ∀ a b : Rat, -(a - b) + a = b from fun a b => by grind, av_neg] at g2
  exact av_le (by grind) (by grind)
theorem Two.fa : ∀ t, t ≤ n → (Ap .f32 (fdS xs ys t) (smN (fun i => av (p i - q i)) t) ((t : Rat) * (1 / 150000)) ∧ 0 ≤ sv single (fdS xs ys t) ∧ 0 ≤ smN (fun i => av (p i - q i)) t ∧ smN (fun i => av (p i - q i)) t ≤ (t : Rat)) ∧ (t < n → (floatBits .add .f32 (fdS xs ys t) (abW (fA .sub .f32 (xs[t]?.getD 0) (ys[t]?.getD 0)))).isSome = true) := by
  have step : ∀ t, t < n → (Ap .f32 (fdS xs ys t) (smN (fun i => av (p i - q i)) t) ((t : Rat) * (1 / 150000)) ∧ 0 ≤ sv single (fdS xs ys t) ∧ 0 ≤ smN (fun i => av (p i - q i)) t ∧ smN (fun i => av (p i - q i)) t ≤ (t : Rat)) → (floatBits .add .f32 (fdS xs ys t) (abW (fA .sub .f32 (xs[t]?.getD 0) (ys[t]?.getD 0)))).isSome = true ∧ Ap .f32 (fdS xs ys (t + 1)) (smN (fun i => av (p i - q i)) (t + 1)) (((t + 1 : Nat) : Rat) * (1 / 150000)) ∧ 0 ≤ sv single (fdS xs ys (t + 1)) ∧ 0 ≤ smN (fun i => av (p i - q i)) (t + 1) ∧ smN (fun i => av (p i - q i)) (t + 1) ≤ ((t + 1 : Nat) : Rat) := by
    rintro t ht ⟨i1, i2, i3, i4⟩
    obtain ⟨_, _, _, t4, t5, t6⟩ := h.term ht
    have p0 := av_nonneg (p t - q t)
    have k1 := nat_rat (show t ≤ 8 by have := h.n8; omega)
    rw [show ((8 : Nat) : Rat) = 8 from rfl] at k1
    have k0 := nat_rat0 t
    obtain ⟨b1, b2⟩ := acc_step i1 t4 (by rw [av_of_nonneg (by grind)]; grind) (by grind)
    obtain ⟨w, w1, w2, _⟩ := add_spec (k_hf .f32) i1.1 t4.1
    obtain ⟨_, c2⟩ := fA_of (op := .add) (k := .f32) w1
    simp only [smN, fdS]
    rw [nat_rat1]
    refine ⟨b1, b2.mono (by grind), ?_, by grind, by grind⟩
    rw [c2]
    exact rnd_ge0 w2 (by rw [show FloatKind.f32.format = single from rfl]; grind)
  have all : ∀ t, t ≤ n → (Ap .f32 (fdS xs ys t) (smN (fun i => av (p i - q i)) t) ((t : Rat) * (1 / 150000)) ∧ 0 ≤ sv single (fdS xs ys t) ∧ 0 ≤ smN (fun i => av (p i - q i)) t ∧ smN (fun i => av (p i - q i)) t ≤ (t : Rat)) := by
    intro t
    induction t with
    | zero =>
      intro _
      simp only [smN, fdS]
      rw [show ((0 : Nat) : Rat) = 0 from rfl, Rat.zero_mul]
      exact ⟨zero_ap, by rw [show sv single 0 = 0 by decide +kernel]; exact Rat.le_refl, Rat.le_refl, Rat.le_refl⟩
    | succ t ih => intro ht; exact (step t (by omega) (ih (by omega))).2
  exact fun t ht => ⟨all t ht, fun hlt => (step t hlt (all t ht)).1⟩
def faW (xs ys : List Nat) (n : Nat) : Nat := fA .quo .f32 (fdS xs ys n) 1073741824
theorem Two.far : (floatBits .quo .f32 (fdS xs ys n) 1073741824).isSome = true ∧ Ap .f32 (faW xs ys n) (FxE p q n / 2) (1 / 20000) ∧ 0 ≤ sv single (faW xs ys n) := by
  obtain ⟨⟨A, A2, A3, A4⟩, _⟩ := h.fa n (Nat.le_refl _)
  have k1 := nat_rat h.n8
  rw [show ((8 : Nat) : Rat) = 8 from rfl] at k1
  have two : Ap .f32 1073741824 2 0 := Ap.ex (k := .f32) (fin_of_lt single (by rw [s_inf]; omega)) (by decide +kernel)
  obtain ⟨b1, b2⟩ := ap_div (k := .f32) (E := 1 / 20000) (A.mono (show (n : Rat) * (1 / 150000) ≤ 1 / 18000 by grind)) two (c := 3 / 2) (Q := 4) (by decide +kernel) (by decide +kernel) (by rw [av_of_nonneg (by grind)]; grind) (by decide +kernel) (by decide +kernel)
  obtain ⟨w, w1, w2⟩ := div_rnd (k_hf .f32) A.1 two.1 (by decide)
  obtain ⟨_, c2⟩ := fA_of (op := .quo) (k := .f32) w1
  refine ⟨b1, b2, ?_⟩
  unfold faW
  rw [c2]
  refine rnd_ge0 w2 ?_
  rw [show FloatKind.f32.format = single from rfl, show sv single 1073741824 = 2 by decide +kernel]
  grind
end
theorem fa_self {xs : List Nat} {n : Nat} {p : Nat → Rat} (h : Rw1 (1 / 8000000) xs n p) : ∀ t, t ≤ n → fdS xs xs t = 0 := by
  intro t
  induction t with
  | zero => intro _; rfl
  | succ t ih =>
    intro ht
    have R := h.el t (by omega)
    obtain ⟨w, w1, w2, w3⟩ := sub_spec (k_hf .f32) R.fnt R.fnt
    obtain ⟨_, c2⟩ := fA_of (op := .sub) (k := .f32) w1
    have sx : sg single (xs[t]?.getD 0) = false := sg_of_le single (by rw [s_inf]; have := R.1; omega)
    have hz := w3 (by grind)
    simp only [fdS]
    rw [ih (by omega), c2, hz, show FloatKind.f32.format = single from rfl, sx]
    decide +kernel
theorem absolute_ab {x : Nat} (hf : Fnt single x) (hx : x < 4294967296) (w : World) : Calls Try.prog 100 #[.float .f32 x] w fun e w' => e = .returned (.float .f32 (abW x)) ∧ w = w' := by
  obtain ⟨h, _, _⟩ := abW_ok hf hx
  rcases h with h | ⟨q, rfl, hq⟩
  · have := absolute_pos x w h
    unfold abW
    rwa [if_pos h]
  · have := absolute_neg q w hq
    unfold abW
    rwa [if_neg (by omega), Nat.add_sub_cancel_left]

set_option maxRecDepth 4000 in
set_option maxHeartbeats 4000000 in
theorem FarOfRows_any {xs ys : List Nat} {n : Nat} {p q : Nat → Rat} (h : Two xs ys n p q) (w : World) (v u : Value) (hv : SlR w v (xs.map (Value.float .f32))) (hu : SlR w u (ys.map (Value.float .f32))) :
    Calls Try.prog 48 #[v, u] w fun e w' => e = .returned (.tuple #[.float .f32 (faW xs ys n), .bool true]) ∧ Qu w w' := by
  have n1 := h.r.n1
  have HTW : Hid (Calls Try.prog 97 #[v, u] w fun e w' => e = .returned (.bool true) ∧ Qu w w') := Lib.hid (by
    have := areRows_any v u xs ys w hv hu h.r.lt32 h.s.lt32
    rwa [show twB xs ys = true by unfold twB; rw [h.r.row (by decide +kernel) (by decide +kernel) (by have := h.n8; omega), h.s.row (by decide +kernel) (by decide +kernel) (by have := h.n8; omega), h.r.len, h.s.len]; simp] at this)
  obtain ⟨b, off, c, rfl, _, _, xcell⟩ := sl_cells hv h.r.len n1
  obtain ⟨b2, off2, c2, rfl, _, _, ycell⟩ := sl_cells hu h.s.len n1
  have HX := Lib.hid xcell
  have HY := Lib.hid ycell
  have HT := Lib.hid (fun t ht => h.term (i := t) ht)
  have HF := Lib.hid h.fa
  have HFS : Hid (∀ t, fdS xs ys (t + 1) = fA .add .f32 (fdS xs ys t) (abW (fA .sub .f32 (xs[t]?.getD 0) (ys[t]?.getD 0)))) := Lib.hid fun _ => rfl
  have HAB : Hid (∀ (x : Nat) (W : World), Fnt single x → x < 4294967296 → Calls Try.prog 100 #[.float .f32 x] W fun e w' => e = .returned (.float .f32 (abW x)) ∧ W = w') := Lib.hid fun x W h1 h2 => absolute_ab h1 h2 W
  obtain ⟨hquo, hap, _⟩ := h.far
  obtain ⟨hfin, hfz⟩ := fin_ok hap.1
  have HAS : Hid (∀ W : World, Calls Try.prog 63 #[.float .f32 (faW xs ys n)] W fun e w' => e = .returned (.tuple #[.float .f32 (faW xs ys n), .bool true]) ∧ Qu W w') := Lib.hid fun W => by
    have := asNumber_any (faW xs ys n) W
    rwa [hfin, hfz] at this
  have hfw : fA .quo .f32 (fdS xs ys n) 1073741824 = faW xs ys n := rfl
  have n8 := h.n8
  clear hv hu xcell ycell h hfin hfz hap
  generalize faW xs ys n = fw' at *
  go_enter Try.func48, Try.ntmps48
  go_upto_region 3 with (go_at_call 97; refine HTW.out.mono ?_; rintro e w1 ⟨rfl, hq1⟩)
  go_upto_region 5 with fail
  go_loopw [6, 15] (fun s q W => ∃ t : Nat, t ≤ n ∧ q = .int .i64 (t : Int) ∧ s = .float .f32 (fdS xs ys t) ∧ Qu w W) (fun _ q _ => n - (intOf q).toNat)
  case atStart => exact ⟨0, Nat.zero_le _, rfl, rfl, hq1⟩
  case round =>
    clear hq1
    obtain ⟨t, ht, rfl, rfl, hq⟩ := hrel
    by_cases hlt : t < n
    · have hc := HX.out wr hq.keep t hlt
      have hd := HY.out wr hq.keep t hlt
      obtain ⟨t1, t2, t3, -⟩ := HT.out t hlt
      have A1 := Lib.hid (fun W => HAB.out _ W t3.1 t2)
      have hadd := (HF.out t ht).2 hlt
      have HS := Lib.hid (HFS.out t)
      clear t2 t3
      generalize xs[t]?.getD 0 = x at *
      generalize ys[t]?.getD 0 = y at *
      go_wp2_with (go_at_call 100; refine (A1.out _).mono ?_; rintro e w3 ⟨rfl, rfl⟩)
      go_roundw
      case rel => exact ⟨t + 1, by omega, by go_num, by rw [HS.out], hq⟩
      case measure => simp [intOf]; omega
    · obtain rfl : n = t := by omega
      clear HX HY HT HF
      go_wp2_with (go_at_call 63; refine (HAS.out _).mono ?_; rintro e w5 ⟨rfl, hq5⟩)
      go_ret2
      exact ⟨rfl, hq.trans hq5⟩

set_option maxHeartbeats 2000000 in
theorem SurpriseOf_any {x : Nat} {p : Rat} (h : Rq (1 / 8000000) x p) (h0 : p ≠ 0) (h1 : x ≤ 1065353216) (w : World) : Calls Try.prog 52 #[.float .f32 x] w fun e w' => e = .returned (.tuple #[.float .f32 (fA .sub .f32 0 (enB x)), .bool true]) ∧ Qu w w' ∧ Ap .f32 (fA .sub .f32 0 (enB x)) (0 - Lb p) (1 / 80000) := by
  have hp := (h.pos (by decide +kernel) h0).1
  have B := rq_bits h h0 (by decide +kernel)
  have b := Lb_in (h.2.2.1 h0) h.2.2.2.1
  have b' : av (0 - Lb p) ≤ 14 := by rw [show ∀ z : Rat, 0 - z = -z from fun z => by grind, av_neg]; exact b
  obtain ⟨s1, s2⟩ := ap_sub (k := .f32) (E := 1 / 80000) zero_ap B b' (by decide +kernel) (by decide +kernel)
  obtain ⟨hfin, hfz⟩ := fin_ok s2.1
  have HAS : Hid (∀ W : World, Calls Try.prog 63 #[.float .f32 (fA .sub .f32 0 (enB x))] W fun e w' => e = .returned (.tuple #[.float .f32 (fA .sub .f32 0 (enB x)), .bool true]) ∧ Qu W w') := Lib.hid fun W => by
    have := asNumber_any (fA .sub .f32 0 (enB x)) W
    rwa [hfin, hfz] at this
  have HBO := Lib.hid (fun W => bitsOf_any x W hp h.1)
  have o1 := order_x0 hp h.1
  have o2 : FloatKind.f32.format.order x 1065353216 = some .lt ∨ FloatKind.f32.format.order x 1065353216 = some .eq := by
    rw [show FloatKind.f32.format = single from rfl, order_pp (by omega) (by omega)]
    rcases Nat.lt_or_ge x 1065353216 with h | h
    · left; rw [Nat.compare_eq_lt.2 h]
    · right; rw [Nat.compare_eq_eq.2 (by omega)]
  have HS2 := Lib.hid s2
  clear h hfin hfz hp B b b' s2
  generalize enB x = ex at *
  rcases o2 with o2 | o2
  all_goals
    go_enter Try.func52, Try.ntmps52
    go_wp2_with (first
      | (go_at_call 63; refine (HAS.out _).mono ?_; rintro e w2 ⟨rfl, hq2⟩)
      | (go_at_call 73; refine (HBO.out _).mono ?_; rintro e w1 ⟨rfl, hq1⟩))
    go_ret2
    exact ⟨rfl, hq1.trans hq2, HS2.out⟩

end Go.Proofs.Ytmocfnpbofeiiaa

/- Entropies of orders (OrderEntropy). -/
namespace Go.Proofs.Ytmocfnpbofeiiaa
set_option linter.unusedSimpArgs false
set_option linter.unusedVariables false
open Go.RowKit
open Ieee
theorem smN_const (c : Rat) (n : Nat) : smN (fun _ => c) n = (n : Rat) * c := by
  induction n with
  | zero => simp only [smN]; rw [show ((0 : Nat) : Rat) = 0 from rfl, Rat.zero_mul]
  | succ n ih => simp only [smN]; rw [ih, nat_rat1]; grind
/-- Rows whose parts are not small. -/
structure Ro (xs : List Nat) (n : Nat) (p : Nat → Rat) : Prop where
  r : Rw1 (1 / 8000000) xs n p
  n8 : n ≤ 8
  lo : ∀ i, i < n → p i ≠ 0 → 1 / 64 ≤ p i
  le : ∀ i, i < n → xs[i]?.getD 0 ≤ 1065353216
theorem Cn.ro {cs : List Nat} {n : Nat} (h : Cn cs n) (n1 : 1 ≤ n) (n8 : n ≤ 8) : Ro (rowK cs) n (psC cs) := by
  refine ⟨h.rw1 n1 (by omega), n8, fun i hi h0 => ?_, fun i hi => (h.q n1 n8 hi).2.1⟩
  obtain ⟨s1, s2⟩ := h.sum n1
  have k1 := nat_rat (show cs.sum ≤ 64 by omega)
  have k2 := nat_rat s1
  rw [show ((64 : Nat) : Rat) = 64 from rfl] at k1
  rw [show ((1 : Nat) : Rat) = 1 from rfl] at k2
  have hk : psC cs i * ((cs.sum : Nat) : Rat) = ((cs[i]?.getD 0 : Nat) : Rat) := by unfold psC; exact Rat.div_mul_cancel (by grind)
  have c1 : 1 ≤ cs[i]?.getD 0 := by
    rcases Nat.eq_zero_or_pos (cs[i]?.getD 0) with hc | hc
    · exfalso; apply h0; unfold psC; rw [hc, show ((0 : Nat) : Rat) = 0 from rfl, Rat.div_def, Rat.zero_mul]
    · exact hc
  have c2 := nat_rat c1
  rw [show ((1 : Nat) : Rat) = 1 from rfl] at c2
  by_cases hc : 1 / 64 ≤ psC cs i
  · exact hc
  · have := Rat.mul_lt_mul_of_pos_right (show psC cs i < 1 / 64 by grind) (show 0 < ((cs.sum : Nat) : Rat) by grind)
    grind
theorem lnF_np8 {x : Nat} (h0 : 0 < x) (h1 : x ≤ 1065353216) : sv single (lnF x) ≤ 0 := by
  by_cases h : x = 1065353216
  · subst h; decide +kernel
  · obtain ⟨_, _, hr⟩ := lnF_some h0 (by omega)
    obtain ⟨_, u1, u2⟩ := up64_pos h0 (show x < 2139095040 by omega)
    have hf : Fnt single x := fin_of_lt single (by rw [s_inf]; omega)
    obtain ⟨_, _, us⟩ := ap_up (Ap.self (k := .f32) hf)
    have hl := (lnW_ap u1 (by omega)).2
    rw [us] at hl
    refine rnd_le (c := 0) 0 hr (rv_zero _) ?_
    have e : sv single x = rv single x := sv_of_le single (by rw [s_inf]; omega)
    have p : 0 < sv single x := by rw [e]; exact rv_pos (by omega)
    have k : sv single x ≤ 1 - 1 / 20000000 := by
      rw [e]
      refine Rat.le_trans (rv_le single (show x ≤ 1065353215 by omega)) ?_
      decide +kernel
    have := Ln_le p
    have := Rat.le_trans (le_av _) hl
    have he : eta ≤ 1 / 1000000000000 := by decide +kernel
    rw [show FloatKind.f64.format = double from rfl] at *
    generalize sv double (lnW (up64 x)) = s at *
    generalize Ln (sv single x) = l at *
    generalize sv single x = v at *
    clear hl hr
    grind
theorem Ln_64 {p : Rat} (h1 : 1 / 64 ≤ p) (h2 : p ≤ 1) : av (Ln p) ≤ 417 / 100 := by
  have he : eta ≤ 1 / 1000000 := by decide +kernel
  have h4 := Ln_le (show 0 < p by grind)
  have h5 := Ln_mono (show (0 : Rat) < 1 / 64 by decide +kernel) h1
  have e := Ln_pow (x := 1) (by decide +kernel) (-6)
  rw [show (1 : Rat) * 2 ^ (-6 : Int) = 1 / 64 by decide +kernel, Ln_one, show ((-6 : Int) : Rat) = -6 from rfl] at e
  have h6 := lg2_hi
  exact av_le (by grind) (by grind)
/-- Orders. -/
structure Od (o : Nat) (al : Rat) : Prop where
  f : o < 2139095040
  s : sv single o = al
  a0 : 0 ≤ al
  a2 : al ≤ 2
  q : finB o = true
  g : FloatKind.f32.format.order o 0 = some .gt ∨ FloatKind.f32.format.order o 0 = some .eq
  e : FloatKind.f32.format.order o 1065353216 = some .gt ∨ FloatKind.f32.format.order o 1065353216 = some .lt
  d : (floatBits .sub .f32 1065353216 o).isSome = true
  w : Ap .f32 (fA .sub .f32 1065353216 o) (1 - al) 0
  c : 1 / 2 ≤ av (1 - al)
theorem od_half : Od 1056964608 (1 / 2) := ⟨by decide, by decide +kernel, by decide +kernel, by decide +kernel, by decide +kernel, by decide +kernel, by decide +kernel, by decide +kernel, Ap.ex (k := .f32) (by unfold Fnt; decide +kernel) (by decide +kernel), by decide +kernel⟩
theorem od_two : Od 1073741824 2 := ⟨by decide, by decide +kernel, by decide +kernel, by decide +kernel, by decide +kernel, by decide +kernel, by decide +kernel, by decide +kernel, Ap.ex (k := .f32) (by unfold Fnt; decide +kernel) (by decide +kernel), by decide +kernel⟩
theorem od_zero : Od 0 0 := ⟨by decide, by decide +kernel, by decide +kernel, by decide +kernel, by decide +kernel, by decide +kernel, by decide +kernel, by decide +kernel, Ap.ex (k := .f32) (by unfold Fnt; decide +kernel) (by decide +kernel), by decide +kernel⟩
def oeZ (o x : Nat) : Nat := fA .mul .f32 o (lnF x)
def oeS (o : Nat) (xs : List Nat) : Nat → Nat
  | 0 => 0
  | t + 1 => if xs[t]?.getD 0 = 0 then oeS o xs t else fA .add .f32 (oeS o xs t) (exF (oeZ o (xs[t]?.getD 0)))
noncomputable def oeU (o : Nat) (xs : List Nat) (t : Nat) : Rat := if xs[t]?.getD 0 = 0 then 0 else sv single (exF (oeZ o (xs[t]?.getD 0)))
section
variable {xs : List Nat} {n : Nat} {p : Nat → Rat} (h : Ro xs n p) {o : Nat} {al : Rat} (ho : Od o al)
include h ho
theorem Ro.term {i : Nat} (hi : i < n) (h0 : p i ≠ 0) : 0 < xs[i]?.getD 0 ∧ xs[i]?.getD 0 < 2139095040 ∧ (floatBits .mul .f32 o (lnF (xs[i]?.getD 0))).isSome = true ∧ Fnt single (oeZ o (xs[i]?.getD 0)) ∧ sv single (oeZ o (xs[i]?.getD 0)) ≤ 0 ∧ Fnt single (exF (oeZ o (xs[i]?.getD 0))) ∧ 0 < sv single (exF (oeZ o (xs[i]?.getD 0))) ∧ sv single (exF (oeZ o (xs[i]?.getD 0))) ≤ 2 ∧ av (Ln (sv single (exF (oeZ o (xs[i]?.getD 0)))) - al * Ln (p i)) ≤ 1 / 370000 ∧ oeU o xs i = sv single (exF (oeZ o (xs[i]?.getD 0))) := by
  have R := h.r.el i hi
  have le := h.le i hi
  obtain ⟨x0, xs0⟩ := R.pos (by decide +kernel) h0
  have p1 := (h.r.le1 hi).2
  have lo := h.lo i hi h0
  have hU : oeU o xs i = sv single (exF (oeZ o (xs[i]?.getD 0))) := by unfold oeU; rw [if_neg (by omega)]
  generalize xs[i]?.getD 0 = x at *
  obtain ⟨_, N⟩ := Ln_nearer (show 0 < p i by grind) (show (1 : Rat) / 8000000 ≤ 1 / 2 by decide +kernel) R.2.2.2.2
  have he : eta ≤ 1 / 1000000000000 := by decide +kernel
  have B0 := Ln_64 lo p1
  have B1 : av (Ln (sv single x)) ≤ 418 / 100 := by
    have A := av_add (Ln (sv single x) - Ln (p i)) (Ln (p i))
    rw [show Ln (sv single x) - Ln (p i) + Ln (p i) = Ln (sv single x) by grind] at A
    grind
  have L := lnF_ap x0 R.1 (E := 1 / 1900000) B1 (by decide +kernel) (by decide +kernel)
  have L2 : Ap .f32 (lnF x) (Ln (p i)) (1 / 1450000) := L.move (u := Ln (p i)) (d := 1 / 7000000) (by grind) (by grind)
  have oS : Ap .f32 o al 0 := Ap.ex (k := .f32) (fin_of_lt single (by rw [s_inf]; exact ho.f)) ho.s
  obtain ⟨m1, m2⟩ := ap_mul (k := .f32) (E := 1 / 400000) oS L2 (A := 2) (B := 417 / 100) (by rw [av_of_nonneg ho.a0]; exact ho.a2) B0 (by decide +kernel) (by decide +kernel)
  have np := lnF_np8 x0 le
  obtain ⟨w, w1, w2⟩ := mul_rnd (k_hf .f32) oS.1 L2.1
  obtain ⟨_, c2⟩ := fA_of (op := .mul) (k := .f32) w1
  have zle : sv single (oeZ o x) ≤ 0 := by
    unfold oeZ
    rw [c2]
    refine rnd_le (c := 0) 0 w2 (rv_zero _) ?_
    rw [show FloatKind.f32.format = single from rfl, ho.s]
    have := Rat.mul_le_mul_of_nonneg_left np ho.a0
    grind
  have m3 : av (sv single (oeZ o x) - al * Ln (p i)) ≤ 1 / 400000 := m2.2
  have zf : Fnt single (oeZ o x) := m2.1
  have Q := av_mul_le (show av al ≤ 2 by rw [av_of_nonneg ho.a0]; exact ho.a2) B0
  have q1 := neg_le_av (sv single (oeZ o x) - al * Ln (p i))
  have q2 := neg_le_av (al * Ln (p i))
  obtain ⟨e1, e2, e3, e4⟩ := exF_ln zf (by grind) zle
  refine ⟨x0, R.1, m1, zf, zle, e1, e2, e3, ?_, hU⟩
  have A := av_add (Ln (sv single (exF (oeZ o x))) - sv single (oeZ o x)) (sv single (oeZ o x) - al * Ln (p i))
  rw [show ∀ a b c : Rat, a - b + (b - c) = a - c from fun a b c => by grind] at A
  grind
theorem Ro.u0 {i : Nat} (hi : i < n) : 0 ≤ oeU o xs i ∧ oeU o xs i ≤ 2 := by
  by_cases h0 : p i = 0
  · have := ((h.r.el i hi).nil (by decide +kernel)).2 h0
    unfold oeU
    rw [if_pos this]
    decide +kernel
  · obtain ⟨_, _, _, _, _, _, a, b, _, e⟩ := h.term ho hi h0
    rw [e]
    exact ⟨by grind, b⟩
theorem Ro.sum : ∀ t, t ≤ n → (Ap .f32 (oeS o xs t) (smN (oeU o xs) t) ((t : Rat) / 480000) ∧ 0 ≤ smN (oeU o xs) t ∧ smN (oeU o xs) t ≤ 2 * (t : Rat)) ∧ (t < n → p t ≠ 0 → (floatBits .add .f32 (oeS o xs t) (exF (oeZ o (xs[t]?.getD 0)))).isSome = true) := by
  have step : ∀ t, t < n → (Ap .f32 (oeS o xs t) (smN (oeU o xs) t) ((t : Rat) / 480000) ∧ 0 ≤ smN (oeU o xs) t ∧ smN (oeU o xs) t ≤ 2 * (t : Rat)) → p t ≠ 0 → (floatBits .add .f32 (oeS o xs t) (exF (oeZ o (xs[t]?.getD 0)))).isSome = true ∧ Ap .f32 (fA .add .f32 (oeS o xs t) (exF (oeZ o (xs[t]?.getD 0)))) (smN (oeU o xs) t + oeU o xs t) (((t + 1 : Nat) : Rat) / 480000) := by
    rintro t ht ⟨i1, i2, i3⟩ h0
    obtain ⟨_, _, _, _, _, t6, t7, t8, _, tU⟩ := h.term ho ht h0
    have k1 := nat_rat (show t ≤ 7 by have := h.n8; omega)
    rw [show ((7 : Nat) : Rat) = 7 from rfl] at k1
    have k0 := nat_rat0 t
    have T : Ap .f32 (exF (oeZ o (xs[t]?.getD 0))) (oeU o xs t) 0 := Ap.ex (k := .f32) t6 tU.symm
    rw [tU] at *
    have c1 : ulp .f32 ≤ 1 / 8388608 := by decide +kernel
    have c2 : tin .f32 ≤ 1 / 100000000000000000000 := by decide +kernel
    have c3 : 0 ≤ ulp .f32 := by decide +kernel
    have c4 : (17 : Rat) ≤ huge .f32 := by decide +kernel
    have c5 := Rat.mul_le_mul_of_nonneg_left c1 (show (0 : Rat) ≤ 16 + ((t : Rat) / 480000 + 0) by grind)
    refine ap_add (k := .f32) (A := 16) i1 T (by rw [av_of_nonneg (by grind)]; grind) (by grind) ?_
    rw [nat_rat1]
    grind
  have all : ∀ t, t ≤ n → (Ap .f32 (oeS o xs t) (smN (oeU o xs) t) ((t : Rat) / 480000) ∧ 0 ≤ smN (oeU o xs) t ∧ smN (oeU o xs) t ≤ 2 * (t : Rat)) := by
    intro t
    induction t with
    | zero =>
      intro _
      simp only [smN, oeS]
      rw [show ((0 : Nat) : Rat) = 0 from rfl, show (0 : Rat) / 480000 = 0 by decide +kernel, show (2 : Rat) * 0 = 0 by decide +kernel]
      exact ⟨zero_ap, Rat.le_refl, Rat.le_refl⟩
    | succ t ih =>
      intro ht
      have I := ih (by omega)
      have U := h.u0 ho (show t < n by omega)
      have hz := (h.r.el t (by omega)).nil (show (1 : Rat) / 8000000 ≤ 1 / 1000 by decide +kernel)
      simp only [smN, oeS]
      refine ⟨?_, by grind, by rw [nat_rat1]; grind⟩
      by_cases h0 : p t = 0
      · have e : oeU o xs t = 0 := by unfold oeU; rw [if_pos (hz.2 h0)]
        rw [if_pos (hz.2 h0), e, Rat.add_zero, nat_rat1]
        exact I.1.mono (by grind)
      · rw [if_neg (fun hc => h0 (hz.1 hc))]
        exact (step t (by omega) I h0).2
  exact fun t ht => ⟨all t ht, fun h1 h2 => (step t h1 (all t ht) h2).1⟩
theorem Ro.u1 {i : Nat} (hi : i < n) : p i ≤ 8192 * oeU o xs i := by
  by_cases h0 : p i = 0
  · have := (h.u0 ho hi).1
    grind
  · obtain ⟨_, _, _, _, _, _, a, _, b, e⟩ := h.term ho hi h0
    have p1 := (h.r.le1 hi).2
    have Q := av_mul_le (show av al ≤ 2 by rw [av_of_nonneg ho.a0]; exact ho.a2) (Ln_64 (h.lo i hi h0) p1)
    have q1 := neg_le_av (al * Ln (p i))
    have q2 := neg_le_av (Ln (sv single (exF (oeZ o (xs[i]?.getD 0)))) - al * Ln (p i))
    rw [e]
    have := Ln_low a (by grind)
    grind
theorem Ro.upos : 0 < smN (oeU o xs) n := by
  have k : smN p n ≤ smN (fun i => 8192 * oeU o xs i) n := smN_le n fun i hi => h.u1 ho hi
  rw [smN_mul, h.r.one] at k
  grind
/-- Jensen's inequality for orders. -/
theorem Ro.jen : (1 - al) * Hx p n - 1 / 200000 ≤ Lb (smN (oeU o xs) n) := by
  have U0 := h.upos ho
  obtain ⟨V, hV⟩ : ∃ V, V = (smN (oeU o xs) n)⁻¹ := ⟨_, rfl⟩
  have hUV : smN (oeU o xs) n * V = 1 := by rw [hV]; exact Rat.mul_inv_cancel _ (by grind)
  have V0 : 0 < V := by
    by_cases hc : 0 < V
    · exact hc
    · have := Rat.mul_le_mul_of_nonneg_left (show V ≤ 0 by grind) (Rat.le_of_lt U0)
      grind
  obtain ⟨U, hU⟩ : ∃ U, U = smN (oeU o xs) n := ⟨_, rfl⟩
  rw [← hU] at hUV U0 ⊢
  have c := lnC_inv
  have key : smN (fun i => (al - 1) * (p i * Lb (p i))) n ≤ smN (fun i => lnC⁻¹ * V * oeU o xs i + ((Lb U + 1 / 210000 - lnC⁻¹) * p i)) n := smN_le n fun i hi => by
    by_cases h0 : p i = 0
    · have := ((h.r.el i hi).nil (by decide +kernel)).2 h0
      have e : oeU o xs i = 0 := by unfold oeU; rw [if_pos this]
      rw [h0, e]
      grind
    · obtain ⟨_, _, _, _, _, _, a, _, b, e⟩ := h.term ho hi h0
      rw [← e] at a b
      have p0 := (h.r.le1 hi).1
      have g := gibL (show 0 < p i by grind) (Rat.mul_pos a V0)
      have m := Lb_mul (Rat.mul_pos a V0) U0
      rw [show oeU o xs i * V * U = oeU o xs i by rw [Rat.mul_assoc, Rat.mul_comm V U, hUV, Rat.mul_one]] at m
      have m1 := neg_le_av (Lb (oeU o xs i) - Lb (oeU o xs i * V) - Lb U)
      have m2 := le_av (Lb (oeU o xs i) - Lb (oeU o xs i * V) - Lb U)
      have d : av (Lb (oeU o xs i) - al * Lb (p i)) ≤ 1 / 240000 := by
        unfold Lb
        rw [show Ln (oeU o xs i) / lnC - al * (Ln (p i) / lnC) = (Ln (oeU o xs i) - al * Ln (p i)) * lnC⁻¹ by rw [Rat.div_def, Rat.div_def]; grind]
        exact Rat.le_trans (av_mul_le b c.1) (by decide +kernel)
      have d1 := neg_le_av (Lb (oeU o xs i) - al * Lb (p i))
      have r := Rat.mul_le_mul_of_nonneg_left (show al * Lb (p i) - 1 / 240000 - Lb U - 1 / 1000000000000000 - Lb (p i) ≤ Lb (oeU o xs i * V) - Lb (p i) by grind) p0
      generalize Lb (oeU o xs i * V) = y1 at *
      generalize Lb (p i) = y2 at *
      generalize Lb U = y3 at *
      generalize lnC⁻¹ = z at *
      clear m m1 m2 d d1 b c
      grind
  rw [smN_mul, smN_add, smN_mul, smN_mul, ← hU, h.r.one] at key
  have e1 : lnC⁻¹ * V * U = lnC⁻¹ := by rw [Rat.mul_assoc, Rat.mul_comm V U, hUV, Rat.mul_one]
  rw [e1] at key
  unfold Hx
  generalize lnC⁻¹ = z at *
  generalize Lb U = y at *
  generalize smN (fun i => p i * Lb (p i)) n = x at *
  clear c e1
  grind
omit ho in
/-- Even rows have the greatest entropy. -/
theorem Ro.top : Hx p n ≤ 1 / 1000000000000000 - Lb (1 / (n : Rat)) := by
  have n1 := nat_rat h.r.n1
  rw [show ((1 : Nat) : Rat) = 1 from rfl] at n1
  have hk : (n : Rat) * (1 / (n : Rat)) = 1 := by rw [Rat.mul_comm]; exact Rat.div_mul_cancel (by grind)
  have v0 : 0 < 1 / (n : Rat) := by
    by_cases hc : 0 < 1 / (n : Rat)
    · exact hc
    · have := Rat.mul_le_mul_of_nonneg_left (show 1 / (n : Rat) ≤ 0 by grind) (show 0 ≤ (n : Rat) by grind)
      grind
  generalize hv : 1 / (n : Rat) = v at *
  have c := lnC_inv
  have key : smN (fun i => (-1) * (p i * Lb (p i))) n ≤ smN (fun i => lnC⁻¹ * v + ((1 / 1000000000000000 - lnC⁻¹ - Lb v) * p i)) n := smN_le n fun i hi => by
    have p0 := (h.r.le1 hi).1
    by_cases h0 : p i = 0
    · have := Rat.mul_nonneg c.2.1 (Rat.le_of_lt v0)
      rw [h0]; grind
    · have g := gibL (show 0 < p i by grind) v0
      generalize lnC⁻¹ = z at *
      clear c
      grind
  have s1 := smN_const (lnC⁻¹ * v) n
  rw [smN_mul, smN_add, s1, smN_mul, h.r.one] at key
  have e1 : (n : Rat) * (lnC⁻¹ * v) = lnC⁻¹ := by rw [Rat.mul_comm, Rat.mul_assoc, Rat.mul_comm v, hk, Rat.mul_one]
  rw [e1] at key
  unfold Hx
  grind
omit ho in
theorem Ro.top8 : Hx p n ≤ 300001 / 100000 := by
  have T := h.top
  have n1 := nat_rat h.r.n1
  have n8 := nat_rat h.n8
  rw [show ((1 : Nat) : Rat) = 1 from rfl] at n1
  rw [show ((8 : Nat) : Rat) = 8 from rfl] at n8
  have hk : (n : Rat) * (1 / (n : Rat)) = 1 := by rw [Rat.mul_comm]; exact Rat.div_mul_cancel (by grind)
  generalize 1 / (n : Rat) = v at *
  have v8 : 1 / 8 ≤ v := by
    by_cases hc : 1 / 8 ≤ v
    · exact hc
    · have := Rat.mul_lt_mul_of_pos_left (show v < 1 / 8 by grind) (show 0 < (n : Rat) by grind)
      grind
  have he : eta ≤ 1 / 1000000000000 := by decide +kernel
  have h5 := Ln_mono (show (0 : Rat) < 1 / 8 by decide +kernel) v8
  have e := Ln_pow (x := 1) (by decide +kernel) (-3)
  rw [show (1 : Rat) * 2 ^ (-3 : Int) = 1 / 8 by decide +kernel, Ln_one, show ((-3 : Int) : Rat) = -3 from rfl] at e
  have h6 := lg2_hi
  have l := Lb_of (a := 0) (b := Ln v) (c := 3000009 / 1000000) (by have := lnC_b.1; grind)
  rw [Rat.div_def, Rat.zero_mul] at l
  unfold Lb at T
  grind
theorem Ro.u9 : 1 / 9 ≤ smN (oeU o xs) n ∧ smN (oeU o xs) n ≤ 16 ∧ av (Ln (smN (oeU o xs) n)) ≤ 28 / 10 := by
  have J := h.jen ho
  have U0 := h.upos ho
  have T := h.top8
  have N := Hx_nonneg (fun i hi => h.r.le1 hi) h.r.one
  obtain ⟨_, _, U2⟩ := (h.sum ho n (Nat.le_refl _)).1
  have n8 := nat_rat h.n8
  rw [show ((8 : Nat) : Rat) = 8 from rfl] at n8
  generalize smN (oeU o xs) n = U at *
  have hL : Lb U * lnC = Ln U := Rat.div_mul_cancel (by have := lnC_pos; grind)
  have m : -(3000015 / 1000000) ≤ (1 - al) * Hx p n := by
    have a0 := ho.a0
    have a2 := ho.a2
    have b := Rat.mul_le_mul_of_nonneg_right (show -1 ≤ 1 - al by grind) (show 0 ≤ Hx p n + 1 / 1000000000000000 by grind)
    grind
  have cb := lnC_b
  have q := Rat.mul_le_mul_of_nonneg_right (show -(3000021 / 1000000) ≤ Lb U by grind) (show 0 ≤ lnC by grind)
  have L1 : -(208 / 100) ≤ Ln U := by grind
  have he : eta ≤ 1 / 1000000000000 := by decide +kernel
  have h6 := lg2_lo
  have h7 := lg2_hi
  have u16 : U ≤ 16 := by grind
  refine ⟨?_, u16, av_le ?_ (by grind)⟩
  · by_cases hc : 1 / 9 ≤ U
    · exact hc
    · have k := Ln_mono U0 (show U ≤ 1 / 9 by grind)
      have k2 := Ln_mul (show (0 : Rat) < 8 / 9 by decide +kernel) (show (0 : Rat) < 1 / 8 by decide +kernel)
      rw [show (8 : Rat) / 9 * (1 / 8) = 1 / 9 by decide +kernel] at k2
      have k3 := Ln_le (show (0 : Rat) < 8 / 9 by decide +kernel)
      have e := Ln_pow (x := 1) (by decide +kernel) (-3)
      rw [show (1 : Rat) * 2 ^ (-3 : Int) = 1 / 8 by decide +kernel, Ln_one, show ((-3 : Int) : Rat) = -3 from rfl] at e
      have k4 := le_av (Ln (1 / 9) - Ln (8 / 9) - Ln (1 / 8))
      grind
  · have k := Ln_mono U0 u16
    have e := Ln_pow (x := 1) (by decide +kernel) 4
    rw [show (1 : Rat) * 2 ^ (4 : Int) = 16 by decide +kernel, Ln_one, show ((4 : Int) : Rat) = 4 from rfl] at e
    grind
theorem Ro.lt32 : ∀ t, t ≤ n → oeS o xs t < 4294967296 := by
  intro t
  induction t with
  | zero => intro _; simp only [oeS]; omega
  | succ t ih =>
    intro ht
    simp only [oeS]
    split
    · exact ih (by omega)
    · rename_i hx
      refine fA_lt32 ((h.sum ho t (by omega)).2 (by omega) fun h0 => hx ?_)
      exact ((h.r.el t (by omega)).nil (by decide +kernel)).2 h0
theorem Ro.pos : 0 < oeS o xs n ∧ oeS o xs n < 2139095040 ∧ Ap .f32 (enB (oeS o xs n)) (Lb (smN (oeU o xs) n)) (1 / 4500) := by
  obtain ⟨A, _⟩ := (h.sum ho n (Nat.le_refl _)).1
  obtain ⟨u9, u16, uL⟩ := h.u9 ho
  have lt := h.lt32 ho n (Nat.le_refl _)
  have n8 := nat_rat h.n8
  rw [show ((8 : Nat) : Rat) = 8 from rfl] at n8
  generalize oeS o xs n = S at *
  generalize smN (oeU o xs) n = U at *
  have A2 : av (sv single S - U) ≤ 1 / 60000 := Rat.le_trans A.2 (by grind)
  have a1 := neg_le_av (sv single S - U)
  have s0 : 0 < sv single S := by grind
  obtain ⟨w0, w1⟩ := pos_word lt A.1 s0
  refine ⟨w0, w1, ?_⟩
  obtain ⟨_, N⟩ := Ln_nearer (d := 3 / 20000) (show 0 < U by grind) (by decide +kernel) (show av (sv single S - U) ≤ 3 / 20000 * U by grind)
  have he : eta ≤ 1 / 1000000000000 := by decide +kernel
  have B1 : av (Ln (sv single S)) ≤ 29 / 10 := by
    have A := av_add (Ln (sv single S) - Ln U) (Ln U)
    rw [show Ln (sv single S) - Ln U + Ln U = Ln (sv single S) by grind] at A
    grind
  have L := lnF_ap w0 w1 (E := 1 / 1000000) B1 (by decide +kernel) (by decide +kernel)
  have T := enB_ap (E := 1 / 300000) L B1 (by decide +kernel) (by decide +kernel)
  refine T.move (u := Lb U) (d := 218 / 1000000) ?_ (by grind)
  unfold Lb
  rw [show Ln (sv single S) / lnC - Ln U / lnC = (Ln (sv single S) - Ln U) * lnC⁻¹ by rw [Rat.div_def, Rat.div_def]; grind]
  refine Rat.le_trans (av_mul_le N (show av lnC⁻¹ ≤ 14427 / 10000 by decide +kernel)) ?_
  grind
theorem Ro.ord : (floatBits .quo .f32 (enB (oeS o xs n)) (fA .sub .f32 1065353216 o)).isSome = true ∧ Ap .f32 (fA .quo .f32 (enB (oeS o xs n)) (fA .sub .f32 1065353216 o)) (Lb (smN (oeU o xs) n) / (1 - al)) (1 / 2200) := by
  obtain ⟨_, _, A⟩ := h.pos ho
  obtain ⟨u9, u16, uL⟩ := h.u9 ho
  have hL : av (Lb (smN (oeU o xs) n)) ≤ 42 / 10 := by
    unfold Lb
    rw [Rat.div_def]
    exact Rat.le_trans (av_mul_le uL lnC_inv.1) (by decide +kernel)
  refine ap_div (k := .f32) (c := 1 / 2) (Q := 84 / 10) A ho.w (by decide +kernel) (by have := ho.c; grind) ?_ (by decide +kernel) (by decide +kernel)
  rw [Rat.div_def]
  refine Rat.le_trans (av_mul_le' hL (show av (1 - al)⁻¹ ≤ 2 from ?_)) (by decide +kernel)
  have c := ho.c
  have h0 : (1 - al) ≠ 0 := by
    intro h0
    rw [h0] at c
    exact absurd c (by decide +kernel)
  have e : av (1 - al) * av (1 - al)⁻¹ = 1 := by rw [← av_mul, Rat.mul_inv_cancel _ h0]; decide +kernel
  have g := av_nonneg (1 - al)⁻¹
  generalize av (1 - al)⁻¹ = y at *
  have := Rat.mul_le_mul_of_nonneg_right c g
  grind
end
def orW (o : Nat) (xs : List Nat) (n : Nat) : Nat := fA .quo .f32 (enB (oeS o xs n)) (fA .sub .f32 1065353216 o)
theorem rg_small {x : Nat} (hx : x < 4294967296) (h : rg single x = 0) : x = 0 ∨ x = 2147483648 := by
  rw [rgs] at h
  omega
theorem exF_zero : exF 0 = 1065353216 ∧ exF 2147483648 = 1065353216 := by decide +kernel
/-- The entropy of order 0 counts. -/
theorem Ro.zero {xs : List Nat} {n : Nat} {p : Nat → Rat} (h : Ro xs n p) : smN (oeU 0 xs) n = smN (fun i => if p i = 0 then 0 else 1) n := smN_eq n fun i hi => by
  by_cases h0 : p i = 0
  · have := ((h.r.el i hi).nil (by decide +kernel)).2 h0
    unfold oeU
    rw [if_pos this, if_pos h0]
  · obtain ⟨a1, a2, a3, _, _, _, _, _, _, e⟩ := h.term od_zero hi h0
    rw [e, if_neg h0]
    obtain ⟨_, b2, _⟩ := lnF_some a1 a2
    obtain ⟨w, w1, w2⟩ := mul_rnd (k_hf .f32) (x := 0) (y := lnF (xs[i]?.getD 0)) (by unfold Fnt; decide +kernel) (b2.fnt (by decide +kernel))
    obtain ⟨_, c2⟩ := fA_of (op := .mul) (k := .f32) w1
    have hz := rnd_zero w2 (by rw [show sv FloatKind.f32.format 0 = 0 by decide +kernel, Rat.zero_mul])
    have hlt := fA_lt32 a3
    unfold oeZ
    rw [c2] at hlt ⊢
    rcases rg_small hlt hz with e | e
    · rw [e, exF_zero.1]; decide +kernel
    · rw [e, exF_zero.2]; decide +kernel

set_option maxRecDepth 4000 in
set_option maxHeartbeats 4000000 in
theorem OrderEntropy_any {xs : List Nat} {n : Nat} {p : Nat → Rat} (h : Ro xs n p) {o : Nat} {al : Rat} (ho : Od o al) (w : World) (v : Value) (hv : SlR w v (xs.map (Value.float .f32))) :
    Calls Try.prog 51 #[v, .float .f32 o] w fun e w' => e = .returned (.tuple #[.float .f32 (orW o xs n), .bool true]) ∧ Qu w w' := by
  have n1 := h.r.n1
  have HIR : Hid (Calls Try.prog 50 #[v] w fun e w' => e = .returned (.bool true) ∧ Qu w w') := Lib.hid (by
    have := isRow_any v xs w hv h.r.lt32
    rwa [h.r.row (by decide +kernel) (by decide +kernel) (by have := h.n8; omega)] at this)
  have HFI : Hid (∀ W, Calls Try.prog 69 #[.float .f32 o] W fun e w' => e = .returned (.bool true) ∧ Qu W w') := Lib.hid fun W => by
    have := implIsFinite_any o W
    rwa [ho.q] at this
  obtain ⟨b, off, c, rfl, _, _, xcell⟩ := sl_cells hv h.r.len n1
  have HX := Lib.hid xcell
  have HV : Hid (∀ t, t < n → (FloatKind.f32.format.order (xs[t]?.getD 0) 0 = some .eq ∧ oeS o xs (t + 1) = oeS o xs t) ∨ (FloatKind.f32.format.order (xs[t]?.getD 0) 0 = some .gt ∧ 0 < xs[t]?.getD 0 ∧ xs[t]?.getD 0 < 2139095040 ∧ (floatBits .mul .f32 o (lnF (xs[t]?.getD 0))).isSome = true ∧ Fnt single (fA .mul .f32 o (lnF (xs[t]?.getD 0))) ∧ sv single (fA .mul .f32 o (lnF (xs[t]?.getD 0))) ≤ 4 ∧ (floatBits .add .f32 (oeS o xs t) (exF (fA .mul .f32 o (lnF (xs[t]?.getD 0))))).isSome = true ∧ oeS o xs (t + 1) = fA .add .f32 (oeS o xs t) (exF (fA .mul .f32 o (lnF (xs[t]?.getD 0)))))) := Lib.hid fun t ht => by
    have R := h.r.el t ht
    have hz := R.nil (show (1 : Rat) / 8000000 ≤ 1 / 1000 by decide +kernel)
    by_cases h0 : p t = 0
    · left
      simp only [oeS]
      rw [if_pos (hz.2 h0), hz.2 h0]
      exact ⟨rfl, rfl⟩
    · right
      obtain ⟨t1, t2, t3, t4, t5, _⟩ := h.term ho ht h0
      refine ⟨order_x0 t1 t2, t1, t2, t3, t4, Rat.le_trans t5 (by decide +kernel), (h.sum ho t (by omega)).2 ht h0, ?_⟩
      simp only [oeS]
      rw [if_neg (fun hc => h0 (hz.1 hc))]
      rfl
  have HLN : Hid (∀ x W, 0 < x → x < 2139095040 → Calls Try.prog 103 #[.float .f32 x] W fun e w' => e = .returned (.float .f32 (lnF x)) ∧ Qu W w') := Lib.hid fun x W h0 hx => implLogNumber_any x W h0 hx
  have HEX : Hid (∀ z W, Fnt single z → sv single z ≤ 4 → Calls Try.prog 102 #[.float .f32 z] W fun e w' => e = .returned (.float .f32 (exF z)) ∧ W = w') := Lib.hid fun z W h0 hx => implExp_any z W h0 hx
  obtain ⟨S0, S1, _⟩ := h.pos ho
  obtain ⟨hquo, hap⟩ := h.ord ho
  have HBO : Hid (∀ W, Calls Try.prog 73 #[.float .f32 (oeS o xs n)] W fun e w' => e = .returned (.float .f32 (enB (oeS o xs n))) ∧ Qu W w') := Lib.hid fun W => bitsOf_any _ W S0 S1
  have hgt := order_x0 S0 S1
  obtain ⟨hfin, hfz⟩ := fin_ok hap.1
  have HAS : Hid (∀ W : World, Calls Try.prog 63 #[.float .f32 (orW o xs n)] W fun e w' => e = .returned (.tuple #[.float .f32 (orW o xs n), .bool true]) ∧ Qu W w') := Lib.hid fun W => by
    have := asNumber_any (orW o xs n) W
    rwa [show finB (orW o xs n) = true from hfin, show fz (orW o xs n) = orW o xs n from hfz] at this
  have how : fA .quo .f32 (enB (oeS o xs n)) (fA .sub .f32 1065353216 o) = orW o xs n := rfl
  have hsub := ho.d
  have hg := ho.g
  have he := ho.e
  have n8 := h.n8
  clear hv xcell h hfin hfz hap ho S0 S1
  generalize orW o xs n = ow at *
  rcases hg with hg | hg <;> rcases he with he | he
  all_goals
    go_enter Try.func51, Try.ntmps51
    go_upto_region 3 with (first
      | (go_at_call 69; refine (HFI.out _).mono ?_; rintro e w2 ⟨rfl, hq2⟩)
      | (go_at_call 50; refine HIR.out.mono ?_; rintro e w1 ⟨rfl, hq1⟩))
    have hq12 := hq1.trans hq2
    go_upto_region 5 with fail
    go_loopw [6, 28] (fun s q W => ∃ t : Nat, t ≤ n ∧ q = .int .i64 (t : Int) ∧ s = .float .f32 (oeS o xs t) ∧ Qu w W) (fun _ q _ => n - (intOf q).toNat)
    case atStart => exact ⟨0, Nat.zero_le _, rfl, rfl, hq12⟩
    case round =>
      clear hq1 hq2 hq12
      obtain ⟨t, ht, rfl, rfl, hq⟩ := hrel
      by_cases hlt : t < n
      · have hc := HX.out wr hq.keep t hlt
        rcases HV.out t hlt with ⟨e, e2⟩ | ⟨e, x0, xi, m1, m2, m3, m4, e2⟩
        · have HS := Lib.hid e2
          clear e2 hgt hquo how HBO HAS
          generalize xs[t]?.getD 0 = x at *
          go_wp2
          go_roundw
          case rel => exact ⟨t + 1, by omega, by go_num, by rw [HS.out], hq⟩
          case measure => simp [intOf]; omega
        · have HS := Lib.hid e2
          have B1 := Lib.hid (fun W => HLN.out _ W x0 xi)
          have B2 := Lib.hid (fun W => HEX.out _ W m2 m3)
          clear e2 x0 xi m2 m3 hgt hquo how HBO HAS
          generalize xs[t]?.getD 0 = x at *
          generalize lnF x = lx at *
          go_wp2_with (first
            | (go_at_call 102; refine (B2.out _).mono ?_; rintro e w4 ⟨rfl, rfl⟩)
            | (go_at_call 103; refine (B1.out _).mono ?_; rintro e w3 ⟨rfl, hq3⟩))
          go_roundw
          case rel => exact ⟨t + 1, by omega, by go_num, by rw [HS.out], hq.trans hq3⟩
          case measure => simp [intOf]; omega
      · obtain rfl : n = t := by omega
        clear HX HV
        generalize oeS o xs n = S at *
        go_wp2_with (first
          | (go_at_call 63; refine (HAS.out _).mono ?_; rintro e w5 ⟨rfl, hq5⟩)
          | (go_at_call 73; refine (HBO.out _).mono ?_; rintro e w6 ⟨rfl, hq6⟩))
        go_ret2
        exact ⟨rfl, (hq.trans hq6).trans hq5⟩

end Go.Proofs.Ytmocfnpbofeiiaa
