/- Square roots: how near the square of a root is. -/
import Derived.Test.YtmocfnpbofeiiaaMSu32
import Derived.Test.YtmocfnpbofeiiaaMEnO
namespace Go.Proofs.Ytmocfnpbofeiiaa
set_option linter.unusedSimpArgs false
set_option linter.unusedVariables false
open Ieee
theorem rootFrom_ok (n : Nat) : ∀ todo root : Nat, root * root ≤ n → n < (root + 2 ^ todo) * (root + 2 ^ todo) → Datum.rootFrom n todo root * Datum.rootFrom n todo root ≤ n ∧ n < (Datum.rootFrom n todo root + 1) * (Datum.rootFrom n todo root + 1) := by
  intro todo
  induction todo with
  | zero => intro root h1 h2; exact ⟨h1, h2⟩
  | succ t ih =>
    intro root h1 h2
    unfold Datum.rootFrom
    simp only [Nat.one_shiftLeft]
    have e : root + 2 ^ (t + 1) = root + 2 ^ t + 2 ^ t := by rw [Nat.pow_succ]; omega
    by_cases hc : (root + 2 ^ t) * (root + 2 ^ t) ≤ n
    · rw [if_pos hc]
      exact ih _ hc (by rw [e] at h2; exact h2)
    · rw [if_neg hc]
      exact ih _ h1 (by omega)
theorem root_start (n : Nat) : n < (0 + 2 ^ (n.log2 / 2 + 1)) * (0 + 2 ^ (n.log2 / 2 + 1)) := by
  rw [Nat.zero_add, ← Nat.pow_add]
  exact Nat.lt_of_lt_of_le Nat.lt_log2_self (Nat.pow_le_pow_right (by decide) (by omega))
/-- The number that a root is rounded from. -/
theorem sqrt_rnd {x : Nat} (hx : Fnt double x) (hs : sg double x = false) : ∃ w v, double.sqrt x = some w ∧ Rnd double v w ∧ 0 ≤ v ∧ av (v * v - sv double x) ≤ sv double x * (1 / 1000000000000000) := by
  obtain ⟨m, i, e1, e2, e3⟩ := read_fin2 double x hx
  have hsv : sv double x = pv m i := by unfold sv; rw [hs, e2]; rfl
  rw [hs] at e1
  by_cases h0 : m = 0
  · obtain ⟨r, h1, h2⟩ := nearest_spec double (by decide) false 0 i
    rw [pv_zero] at h2
    refine ⟨_, 0, ?_, ⟨false, r, rfl, h2, fun _ => rfl, fun h => by exact absurd h (by decide +kernel)⟩, Rat.le_refl, ?_⟩
    · unfold Format.sqrt
      rw [e1]
      subst h0
      simp only [Datum.root, if_true, Option.map_some]
      rw [← h1]
      rfl
    · rw [hsv, h0, pv_zero]; decide +kernel
  · obtain ⟨more, hm⟩ : ∃ more, more = 2 * (double.fractionBits + 2) - m.log2 := ⟨_, rfl⟩
    obtain ⟨mo, hmo⟩ : ∃ mo : Nat, mo = more + ((i - more) % 2).toNat := ⟨_, rfl⟩
    obtain ⟨n, hn⟩ : ∃ n, n = m <<< mo := ⟨_, rfl⟩
    obtain ⟨W, hW⟩ : ∃ W, W = Datum.rootFrom n (n.log2 / 2 + 1) 0 := ⟨_, rfl⟩
    obtain ⟨r1, r2⟩ := rootFrom_ok n (n.log2 / 2 + 1) 0 (by omega) (root_start n)
    rw [← hW] at r1 r2
    have hbig : 2 ^ 108 ≤ n := by
      rw [hn, Nat.shiftLeft_eq]
      have h1 := Nat.log2_self_le h0
      have h2 : m.log2 + mo ≥ 108 := by
        have : double.fractionBits = 52 := rfl
        omega
      refine Nat.le_trans ?_ (Nat.mul_le_mul_right _ h1)
      rw [← Nat.pow_add]
      exact Nat.pow_le_pow_right (by decide) h2
    have hWb : 2 ^ 54 ≤ W := by
      have : ¬ W + 1 ≤ 2 ^ 54 := fun hc => by
        have := Nat.mul_le_mul hc hc
        omega
      omega
    obtain ⟨q, hq⟩ : ∃ q : Int, q = (i - mo) / 2 := ⟨_, rfl⟩
    have hq2 : i - mo = 2 * q := by omega
    obtain ⟨st, hst⟩ : ∃ st : Nat, st = (W * W != n).toNat := ⟨_, rfl⟩
    obtain ⟨r, h1, h2⟩ := nearest_spec double (by decide) false (2 * W + st) (q - 1)
    have v0 := pv_nonneg (2 * W + st) (q - 1)
    refine ⟨_, pv (2 * W + st) (q - 1), ?_, ⟨false, r, rfl, by rw [av_of_nonneg v0]; exact h2, fun _ => rfl, fun h => by grind⟩, v0, ?_⟩
    · unfold Format.sqrt
      rw [e1]
      simp only [Datum.root, if_neg h0, Bool.false_eq_true, if_false, Option.map_some]
      rw [← hm, ← hmo, ← hn, ← hW, ← hst, ← hq, ← h1]
      rfl
    · have eB : sv double x = pv (4 * n) (2 * q - 2) := by
        rw [hsv, hn, Nat.shiftLeft_eq, show 4 * (m * 2 ^ mo) = m * 2 ^ (mo + 2) by rw [Nat.pow_add, show 2 ^ 2 = 4 from rfl, Nat.mul_comm 4, Nat.mul_assoc], pv_shift]
        congr 1
        omega
      have eA : pv (2 * W + st) (q - 1) * pv (2 * W + st) (q - 1) = pv ((2 * W + st) * (2 * W + st)) (2 * q - 2) := by
        rw [pv_mul]
        congr 1
        omega
      have N : (2 * W + st) * (2 * W + st) ≤ 4 * n + 4 * W ∧ 4 * n ≤ (2 * W + st) * (2 * W + st) + 4 * W := by
        by_cases hc : W * W = n
        · have : st = 0 := by rw [hst, hc]; simp
          subst this
          rw [Nat.add_zero, show 2 * W * (2 * W) = 4 * (W * W) by rw [Nat.mul_mul_mul_comm], hc]
          omega
        · have : st = 1 := by rw [hst]; simp [hc]
          subst this
          have e : (2 * W + 1) * (2 * W + 1) = 4 * (W * W) + 4 * W + 1 := by
            rw [Nat.add_mul, Nat.mul_add, Nat.mul_mul_mul_comm]; omega
          have e' : (W + 1) * (W + 1) = W * W + 2 * W + 1 := by rw [Nat.add_mul, Nat.mul_add]; omega
          rw [e]
          omega
      have N2 : 4 * W * 18014398509481984 ≤ 4 * n := by
        have h := Nat.mul_le_mul_left W hWb
        rw [Nat.mul_assoc]
        exact Nat.mul_le_mul_left 4 (Nat.le_trans h r1)
      have a := pv_le (2 * q - 2) N.1
      have b := pv_le (2 * q - 2) N.2
      have c := pv_le (2 * q - 2) N2
      rw [pv_add] at a b
      have d : pv (4 * W * 18014398509481984) (2 * q - 2) = pv (4 * W) (2 * q - 2) * 18014398509481984 := by
        unfold pv
        rw [Rat.natCast_mul, show ((18014398509481984 : Nat) : Rat) = 18014398509481984 from rfl]
        grind
      rw [d] at c
      rw [eA, eB]
      have p0 := pv_nonneg (4 * W) (2 * q - 2)
      exact av_le (by grind) (by grind)

end Go.Proofs.Ytmocfnpbofeiiaa

/- How far rows are by the roots of their chances (RootFar): roots. -/
namespace Go.Proofs.Ytmocfnpbofeiiaa
set_option linter.unusedSimpArgs false
set_option linter.unusedVariables false
open Go.RowKit
open Ieee
/-- Half a place from what a word is the rounding of. -/
theorem err_s2 {v : Rat} {w : Nat} (h : Rnd single v w) (hf : Fnt single w) : av (sv single w - v) ≤ av v * (1 / 16777215) + ts := by
  have h1 := rnd_gap h hf
  have h2 := gap_le single (rg single w)
  rw [s_bin, s_lp, ← av_sv, show ((8388608 : Nat) : Rat) = 8388608 from rfl, show pv 1 (-149) = ts from rfl] at h2
  have h5 : av (sv single w) ≤ av v + av (sv single w - v) := by
    have := av_add v (sv single w - v)
    rwa [show v + (sv single w - v) = sv single w by grind] at this
  have := av_nonneg (sv single w - v)
  have t0 := ts_pos
  generalize gap single (rg single w) = g at *
  generalize av (sv single w) = s at *
  generalize av (sv single w - v) = e at *
  generalize av v = a at *
  generalize ts = t at *
  clear h hf
  grind
theorem err_lt {v B : Rat} {w r : Nat} (h : Rnd single v w) (hw : w ≤ r) (hr : r < 2139095040) (hB : gap single r ≤ 2 * B) : av (sv single w - v) ≤ B := by
  have hf : Fnt single w := fin_of_lt single (by rw [s_inf]; omega)
  have h1 := rnd_gap h hf
  have h2 := gap_mono single (show rg single w ≤ r by rw [rgs]; omega)
  generalize gap single (rg single w) = g at *
  grind
theorem err_lt1 {v : Rat} {w : Nat} (h : Rnd single v w) (hw : w < 1065353216) : av (sv single w - v) ≤ 1 / 33554432 := err_lt h (show w ≤ 1065353215 by omega) (by omega) (by decide +kernel)
theorem err_lt2 {v : Rat} {w : Nat} (h : Rnd single v w) (hw : w < 1073741824) : av (sv single w - v) ≤ 2 / 33554432 := err_lt h (show w ≤ 1073741823 by omega) (by omega) (by decide +kernel)
theorem sq_le {a b : Rat} (h : a * a ≤ b * b) (hb : 0 ≤ b) : a ≤ b := by
  by_cases hc : a ≤ b
  · exact hc
  · have h1 := Rat.mul_lt_mul_of_pos_left (show b < a by grind) (show 0 < a by grind)
    have h2 := Rat.mul_le_mul_of_nonneg_right (show b ≤ a by grind) hb
    grind
def sqD (x : Nat) : Nat := (double.sqrt x).getD 0
def rtW (x : Nat) : Nat := (floatToFloatBits .f64 (sqD (up64 x)) .f32).getD 0
/-- Words that roots are taken of. -/
structure Rt (x : Nat) : Prop where
  lt : x < 2139095040
  lo : x = 0 ∨ 1 / 1000000000 ≤ sv single x
  up : sv single x ≤ 2
theorem Rt.ok {x : Nat} (h : Rt x) : floatToFloatBits .f32 x .f64 = some (up64 x) ∧ (double.sqrt (up64 x)).isSome = true ∧ floatToFloatBits .f64 (sqD (up64 x)) .f32 = some (rtW x) ∧ rtW x < 2139095040 ∧ (x = 0 → rtW x = 0) ∧ 0 ≤ sv single (rtW x) ∧ av (sv single (rtW x) * sv single (rtW x) - sv single x) ≤ sv single x * (12 / 100000000) := by
  by_cases hx : x = 0
  · subst hx
    decide +kernel
  · have hX := h.lo.resolve_left hx
    have hf : Fnt single x := fin_of_lt single (by rw [s_inf]; exact h.lt)
    obtain ⟨r, h1, h2, h3, h4⟩ := conv_up hf
    have hu : up64 x = r := by unfold up64; rw [h1]; rfl
    have hs : sv double r = sv single x := by unfold sv; rw [h3, h4]
    have hg : sg double r = false := by rw [h3]; exact sg_of_le single (by rw [s_inf]; have := h.lt; omega)
    obtain ⟨w, v, s1, s2, v0, s3⟩ := sqrt_rnd h2 hg
    rw [hs] at s3
    have X2 := h.up
    generalize hXX : sv single x = X at *
    have k1 := neg_le_av (v * v - X)
    have k2 := le_av (v * v - X)
    have vl : 1 / 100000 ≤ v := sq_le (by rw [show (1 : Rat) / 100000 * (1 / 100000) = 1 / 10000000000 by decide +kernel]; grind) v0
    have vu : v ≤ 2 := sq_le (by rw [show (2 : Rat) * 2 = 4 by decide +kernel]; grind) (by decide +kernel)
    have avv : av v = v := av_of_nonneg v0
    have wf : Fnt double w := huge_bd (k := .f64) s2 (by rw [avv]; exact Rat.le_trans vu (by decide +kernel))
    have E1 := err_d s2 wf
    rw [avv] at E1
    have c1 : ed ≤ 1 / 1000000000000000 := by decide +kernel
    have c2 : td ≤ 1 / 1000000000000000000000000000000 := by decide +kernel
    have m1 := Rat.mul_le_mul_of_nonneg_left c1 v0
    have j1 := neg_le_av (sv double w - v)
    have j2 := le_av (sv double w - v)
    have Bw : Bd .f64 120 w := by
      unfold Bd
      rw [show FloatKind.f64.format = double from rfl]
      refine Rat.le_trans (show av (sv double w) ≤ 3 from av_le ?_ ?_) (by decide +kernel) <;> grind
    obtain ⟨b, b1, b2, b3⟩ := conv_down Bw (by decide)
    have bf : Fnt single b := b2.fnt (by decide)
    have E2 := err_s2 b3 bf
    have w0 : 0 < sv double w := by grind
    rw [av_of_nonneg (Rat.le_of_lt w0)] at E2
    have c3 : ts ≤ 1 / 1000000000000000000000000000000 := by decide +kernel
    have hb := b3.pos w0
    have hlt : b < 2139095040 := by
      have : rg single b < single.infRung := bf
      rwa [rg_of_le single hb, s_inf] at this
    have l1 := neg_le_av (sv single b - sv double w)
    have l2 := le_av (sv single b - sv double w)
    have hrt : rtW x = b := by unfold rtW sqD; rw [hu, s1]; simp only [Option.getD_some]; rw [b1]; rfl
    have hsq : sqD r = w := by unfold sqD; rw [s1]; rfl
    rw [hrt, hu, hsq]
    refine ⟨h1, by rw [s1]; rfl, b1, hlt, fun hc => absurd hc hx, ?_, ?_⟩
    · generalize sv double w = y at *
      clear s2 b3
      grind
    · have d1 : av (sv single b - v) ≤ 1 / 16776000 * v := by
        generalize sv double w = y at *
        clear s2 b3
        exact av_le (by grind) (by grind)
      have M := mul_err v0 v0 (show (0 : Rat) ≤ 1 / 16776000 by decide +kernel) d1 d1
      have A := av_add (sv single b * sv single b - v * v) (v * v - X)
      rw [show ∀ a b c : Rat, a - b + (b - c) = a - c from fun a b c => by grind] at A
      clear s2 b3
      grind

set_option maxHeartbeats 1000000 in
theorem sqrtD_any (x : Nat) (h : (double.sqrt x).isSome = true) (w : World) : Calls Try.prog 124 #[.float .f64 x] w fun e w' => e = .returned (.float .f64 (sqD x)) ∧ w = w' := by
  have hx2 : ∀ W : World, (callFunc 143 #[.float .f64 x]).run Try.prog W = .ok (.value (.float .f64 (sqD x))) W := fun W => by
    rw [run_callFunc_extern (e := Extern.MathSqrt.sqrt) Try.func143 (by kernel_rfl) (by kernel_rfl) (by kernel_rfl) (by kernel_rfl)]
    obtain ⟨r, hr⟩ := Option.isSome_iff_exists.1 h
    unfold sqD
    have hq : ∀ o, double.sqrt x = o → Extern.MathSqrt.sqrt #[.float .f64 x] = (match o with
      | some r => pure (.float .f64 r)
      | none => do pure (.float .f64 (← choose (.nanBits .f64 x x)))) := by rintro o rfl; rfl
    rw [hq _ hr, hr]
    rfl
  clear h
  generalize sqD x = y at *
  go_enter Try.func124, Try.ntmps124
  go_wp2
  go_ret
  exact ⟨rfl, rfl⟩

set_option maxHeartbeats 1000000 in
theorem RootNumber_any {x : Nat} (h : Rt x) (w : World) : Calls Try.prog 101 #[.float .f32 x] w fun e w' => e = .returned (.float .f32 (rtW x)) ∧ w = w' := by
  obtain ⟨u1, u2, u3, _⟩ := h.ok
  have HS := Lib.hid (fun W => sqrtD_any _ u2 W)
  have e1 := fun W : World => run_convert_float_float (P := Try.prog) W 32 29 .f32 .f64 _ _ (by rw [Try.underlying32]; rfl) Try.underlying29 u1
  have e2 := fun W : World => run_convert_float_float (P := Try.prog) W 29 32 .f64 .f32 _ _ (by rw [Try.underlying29]; rfl) Try.underlying32 u3
  clear u1 u2 u3 h
  generalize rtW x = b at *
  generalize up64 x = y at *
  generalize sqD y = z at *
  go_enter Try.func101, Try.ntmps101
  go_wp2_with (go_at_call 124; refine (HS.out _).mono ?_; rintro e w' ⟨rfl, rfl⟩)
  go_ret
  exact ⟨rfl, rfl⟩

end Go.Proofs.Ytmocfnpbofeiiaa

/- How far rows are by the roots of their chances (RootFar). -/
namespace Go.Proofs.Ytmocfnpbofeiiaa
set_option linter.unusedSimpArgs false
set_option linter.unusedVariables false
open Go.RowKit
open Ieee
def qw16 (s k : Nat) : Bool := !(decide (1 ≤ s) && decide (k ≤ s)) || decide (av (sv single (qwC k s) - (k : Rat) / (s : Rat)) ≤ 1 / 16000000 * ((k : Rat) / (s : Rat)))
theorem qw16_all : ∀ s : Nat, s < 65 → ∀ k : Nat, k < 9 → qw16 s k = true := by decide +kernel
theorem Cn.p16 {cs : List Nat} {n : Nat} (h : Cn cs n) (n1 : 1 ≤ n) (n8 : n ≤ 8) {i : Nat} (hi : i < n) : av (sv single ((rowK cs)[i]?.getD 0) - psC cs i) ≤ 1 / 16000000 * psC cs i := by
  obtain ⟨c1, c2, c3⟩ := h.at n1 hi
  obtain ⟨s1, s2⟩ := h.sum n1
  rw [c3]
  have := qw16_all cs.sum (by omega) _ c1
  unfold qw16 at this
  rw [decide_eq_true s1, decide_eq_true c2] at this
  simpa [psC] using this
theorem rs1' : sv single 1065353216 = 1 := by decide +kernel
/-- Two rows, and how near their words are. -/
structure Tq (xs ys : List Nat) (n : Nat) (p q : Nat → Rat) : Prop where
  t : Two xs ys n p q
  x : Ro xs n p
  y : Ro ys n q
  a : ∀ i, i < n → av (sv single (xs[i]?.getD 0) - p i) ≤ 1 / 16000000 * p i
  b : ∀ i, i < n → av (sv single (ys[i]?.getD 0) - q i) ≤ 1 / 16000000 * q i
theorem Cn.tq {cs ds : List Nat} {n : Nat} (h : Cn cs n) (g : Cn ds n) (n1 : 1 ≤ n) (n8 : n ≤ 8) : Tq (rowK cs) (rowK ds) n (psC cs) (psC ds) :=
  ⟨⟨h.rw1 n1 (by omega), g.rw1 n1 (by omega), n8⟩, h.ro n1 n8, g.ro n1 n8, fun _ hi => h.p16 n1 n8 hi, fun _ hi => g.p16 n1 n8 hi⟩
def rfM (xs ys : List Nat) (i : Nat) : Nat := fA .mul .f32 (xs[i]?.getD 0) (ys[i]?.getD 0)
def rfS (xs ys : List Nat) : Nat → Nat
  | 0 => 0
  | t + 1 => fA .add .f32 (rfS xs ys t) (rtW (rfM xs ys t))
def rfB (xs ys : List Nat) (i : Nat) : Rat := sv single (rtW (rfM xs ys i))
section
variable {xs ys : List Nat} {n : Nat} {p q : Nat → Rat} (h : Tq xs ys n p q)
include h
theorem Tq.m {i : Nat} (hi : i < n) : (floatBits .mul .f32 (xs[i]?.getD 0) (ys[i]?.getD 0)).isSome = true ∧ Rt (rfM xs ys i) ∧ (rfM xs ys i ≠ 0 → 1 / 65 ≤ rfB xs ys i) ∧ 0 ≤ rfB xs ys i ∧ av (rfB xs ys i * rfB xs ys i - p i * q i) ≤ 31 / 100000000 * (p i * q i) := by
  have X := h.t.r.el i hi
  have Y := h.t.s.el i hi
  have xa := h.a i hi
  have ya := h.b i hi
  have p1 := h.t.r.le1 hi
  have q1 := h.t.s.le1 hi
  have pl := h.x.lo i hi
  have ql := h.y.lo i hi
  unfold rfB rfM
  generalize xs[i]?.getD 0 = x at *
  generalize ys[i]?.getD 0 = y at *
  by_cases hz : p i = 0 ∨ q i = 0
  · have h0 : x = 0 ∨ y = 0 := hz.imp (fun e => (X.nil (by decide +kernel)).2 e) (fun e => (Y.nil (by decide +kernel)).2 e)
    obtain ⟨a1, a2⟩ := fA_mul0 X.1 Y.1 h0
    rw [a2]
    have e0 : p i * q i = 0 := by rcases hz with e | e <;> rw [e] <;> grind
    rw [e0]
    exact ⟨a1, ⟨by decide, .inl rfl, by decide +kernel⟩, fun hc => absurd rfl hc, by decide +kernel, by decide +kernel⟩
  · have hp : p i ≠ 0 := fun e => hz (.inl e)
    have hq : q i ≠ 0 := fun e => hz (.inr e)
    have pl := pl hp
    have ql := ql hq
    obtain ⟨w, w1, w2⟩ := mul_rnd (k_hf .f32) X.fnt Y.fnt
    obtain ⟨a1, a2⟩ := fA_of (op := .mul) (k := .f32) w1
    have M := mul_err p1.1 q1.1 (show (0 : Rat) ≤ 1 / 16000000 by decide +kernel) xa ya
    rw [show FloatKind.f32.format = single from rfl] at w2
    have pq1 := Rat.mul_le_mul_of_nonneg_right p1.2 q1.1
    have pq0 := Rat.mul_le_mul_of_nonneg_right pl q1.1
    generalize p i * q i = P at *
    have P1 : P ≤ 1 := by grind
    have P0 : 1 / 4096 ≤ P := by grind
    generalize sv single x * sv single y = v at *
    replace M : av (v - P) ≤ 13 / 100000000 * P := Rat.le_trans M (Rat.mul_le_mul_of_nonneg_right (by decide +kernel) (by grind))
    clear xa ya X Y pq1 pq0
    have v1 := neg_le_av (v - P)
    have v2 := le_av (v - P)
    have v0 : 0 < v := by grind
    have wf : Fnt single w := huge_bd (k := .f32) w2 (by rw [av_of_nonneg (by grind)]; exact Rat.le_trans (show v ≤ 2 by grind) (by decide +kernel))
    have E := err_s2 w2 wf
    rw [av_of_nonneg (Rat.le_of_lt v0)] at E
    have c3 : ts ≤ 1 / 1000000000000000000000000000000 := by decide +kernel
    have hw := w2.pos v0
    have hlt : w < 2139095040 := by
      have : rg single w < single.infRung := wf
      rwa [rg_of_le single hw, s_inf] at this
    have l1 := neg_le_av (sv single w - v)
    have l2 := le_av (sv single w - v)
    rw [a2]
    have RT : Rt w := ⟨hlt, .inr (by grind), by grind⟩
    obtain ⟨_, _, _, r4, r5, r6, r7⟩ := RT.ok
    have k1 := neg_le_av (sv single (rtW w) * sv single (rtW w) - sv single w)
    have A := av_add (sv single (rtW w) * sv single (rtW w) - sv single w) (sv single w - v)
    have A2 := av_add (sv single (rtW w) * sv single (rtW w) - v) (v - P)
    rw [show ∀ a b c : Rat, a - b + (b - c) = a - c from fun a b c => by grind] at A A2
    generalize sv single (rtW w) = b at *
    generalize sv single w = W at *
    have fin : av (b * b - P) ≤ 31 / 100000000 * P := by
      clear w2
      grind
    refine ⟨a1, RT, fun _ => ?_, r6, fin⟩
    have f1 := neg_le_av (b * b - P)
    exact sq_le (by rw [show (1 : Rat) / 65 * (1 / 65) = 1 / 4225 by decide +kernel]; grind) r6
theorem Tq.bb {i : Nat} (hi : i < n) : rfB xs ys i ≤ (p i + q i) / 2 * (1 + 16 / 100000000) ∧ (p i + q i - av (p i - q i)) / 2 - 8 / 100000000 * (p i + q i) ≤ rfB xs ys i := by
  obtain ⟨_, _, _, b0, bb⟩ := h.m hi
  have p1 := h.t.r.le1 hi
  have q1 := h.t.s.le1 hi
  generalize rfB xs ys i = b at *
  generalize p i = P at *
  generalize q i = Q at *
  have f1 := neg_le_av (b * b - P * Q)
  have f2 := le_av (b * b - P * Q)
  have PQ := Rat.mul_nonneg p1.1 q1.1
  constructor
  · refine sq_le ?_ (by grind)
    have s0 : 0 ≤ (P - Q) * (P - Q) := by
      by_cases hc : Q ≤ P
      · exact Rat.mul_nonneg (by grind) (by grind)
      · have := Rat.mul_nonneg (show 0 ≤ Q - P by grind) (show 0 ≤ Q - P by grind); grind
    grind
  · by_cases hc : Q ≤ P
    · rw [av_of_nonneg (by grind)]
      have k := Rat.mul_le_mul_of_nonneg_right hc q1.1
      have : Q * (1 - 16 / 100000000) ≤ b := sq_le (by grind) b0
      grind
    · rw [show P - Q = -(Q - P) by grind, av_neg, av_of_nonneg (by grind)]
      have k := Rat.mul_le_mul_of_nonneg_left (show P ≤ Q by grind) p1.1
      have : P * (1 - 16 / 100000000) ≤ b := sq_le (by grind) b0
      grind
theorem Tq.bsum {t : Nat} (ht : t ≤ n) : smN (rfB xs ys) t ≤ 1 + 16 / 100000000 := by
  have h1 := smN_mono (f := rfB xs ys) (n := n) (fun i hi => (h.m hi).2.2.2.1) t ht
  have h2 : smN (rfB xs ys) n ≤ smN (fun i => (1 + 16 / 100000000) / 2 * (p i + q i)) n := smN_le n fun i hi => by
    have := (h.bb hi).1
    grind
  rw [smN_mul, smN_add, h.t.r.one, h.t.s.one] at h2
  grind
theorem Tq.far_le : 1 - smN (rfB xs ys) n ≤ FxE p q n / 2 + 16 / 100000000 := by
  have h2 : smN (fun i => (1 / 2 - 8 / 100000000) * (p i + q i) + (-(1 / 2)) * av (p i - q i)) n ≤ smN (rfB xs ys) n := smN_le n fun i hi => by
    have := (h.bb hi).2
    grind
  rw [smN_add, smN_mul, smN_mul, smN_add, h.t.r.one, h.t.s.one] at h2
  unfold FxE
  grind
/-- The mean of two numbers is at least their root. -/
theorem Tq.amgm {k t : Rat} (k0 : 0 ≤ k) (t0 : 0 ≤ t) (kt : k * t = 1) : FxE p q n / 2 ≤ 1 / 2 * k * (1 - smN (rfB xs ys) n + 16 / 100000000) + t * (1 + 16 / 100000000) := by
  have B1 := h.bsum (Nat.le_refl n)
  have h2 : smN (fun i => av (p i - q i)) n ≤ smN (fun i => (1 / 2 * k * (1 + 16 / 100000000) + 1 / 2 * t * (1 + 16 / 100000000)) * (p i + q i) + (t - k) * rfB xs ys i) n := smN_le n fun i hi => by
    obtain ⟨_, _, _, b0, bb⟩ := h.m hi
    have bu := (h.bb hi).1
    have p1 := h.t.r.le1 hi
    have q1 := h.t.s.le1 hi
    generalize rfB xs ys i = b at *
    generalize p i = P at *
    generalize q i = Q at *
    have f2 := le_av (b * b - P * Q)
    have PQ := Rat.mul_nonneg p1.1 q1.1
    obtain ⟨X, hX⟩ : ∃ X, X = (P + Q) * (1 + 16 / 100000000) - 2 * b := ⟨_, rfl⟩
    obtain ⟨Y, hY⟩ : ∃ Y, Y = (P + Q) * (1 + 16 / 100000000) + 2 * b := ⟨_, rfl⟩
    have X0 : 0 ≤ X := by grind
    have Y0 : 0 ≤ Y := by grind
    have XY : (P - Q) * (P - Q) ≤ X * Y := by
      have e : X * Y = (P + Q) * (P + Q) * ((1 + 16 / 100000000) * (1 + 16 / 100000000)) - 4 * (b * b) := by rw [hX, hY]; grind
      rw [e]
      have s0 := Rat.mul_nonneg (show 0 ≤ P + Q by grind) (show 0 ≤ P + Q by grind)
      have s1 : 0 ≤ (P - Q) * (P - Q) := by
        by_cases hc : Q ≤ P
        · exact Rat.mul_nonneg (by grind) (by grind)
        · have := Rat.mul_nonneg (show 0 ≤ Q - P by grind) (show 0 ≤ Q - P by grind); grind
      grind
    have aa : av (P - Q) * av (P - Q) = (P - Q) * (P - Q) := by unfold av; split <;> grind
    have m0 := Rat.mul_nonneg k0 X0
    have m1 := Rat.mul_nonneg t0 Y0
    have key : 2 * av (P - Q) ≤ k * X + t * Y := by
      refine sq_le ?_ (by grind)
      have d0 : 0 ≤ (k * X - t * Y) * (k * X - t * Y) := by
        by_cases hc : t * Y ≤ k * X
        · exact Rat.mul_nonneg (by grind) (by grind)
        · have := Rat.mul_nonneg (show 0 ≤ t * Y - k * X by grind) (show 0 ≤ t * Y - k * X by grind); grind
      have e1 : (k * X) * (t * Y) = X * Y := by
        rw [show (k * X) * (t * Y) = (k * t) * (X * Y) by grind, kt, Rat.one_mul]
      generalize k * X = a at *
      generalize t * Y = c at *
      grind
    rw [hX, hY] at key
    grind
  rw [smN_add, smN_mul, smN_mul, smN_add, h.t.r.one, h.t.s.one] at h2
  unfold FxE
  have m0 := Rat.mul_le_mul_of_nonneg_left B1 t0
  generalize smN (rfB xs ys) n = B at *
  generalize smN (fun i => av (p i - q i)) n = F at *
  grind
theorem Tq.sum : ∀ t, t ≤ n → (rfS xs ys t < 1073741824 ∧ 0 ≤ sv single (rfS xs ys t) ∧ (rfS xs ys t < 1065353216 → av (sv single (rfS xs ys t) - smN (rfB xs ys) t) ≤ (t : Rat) / 33554432) ∧ (1065353216 ≤ rfS xs ys t → av (sv single (rfS xs ys t) - smN (rfB xs ys) t) ≤ ((t : Rat) + 1) / 33554432)) ∧ (t < n → (floatBits .add .f32 (rfS xs ys t) (rtW (rfM xs ys t))).isSome = true) := by
  have step : ∀ t, t < n → (rfS xs ys t < 1073741824 ∧ 0 ≤ sv single (rfS xs ys t) ∧ (rfS xs ys t < 1065353216 → av (sv single (rfS xs ys t) - smN (rfB xs ys) t) ≤ (t : Rat) / 33554432) ∧ (1065353216 ≤ rfS xs ys t → av (sv single (rfS xs ys t) - smN (rfB xs ys) t) ≤ ((t : Rat) + 1) / 33554432)) → (floatBits .add .f32 (rfS xs ys t) (rtW (rfM xs ys t))).isSome = true ∧ (rfS xs ys (t + 1) < 1073741824 ∧ 0 ≤ sv single (rfS xs ys (t + 1)) ∧ (rfS xs ys (t + 1) < 1065353216 → av (sv single (rfS xs ys (t + 1)) - smN (rfB xs ys) (t + 1)) ≤ ((t + 1 : Nat) : Rat) / 33554432) ∧ (1065353216 ≤ rfS xs ys (t + 1) → av (sv single (rfS xs ys (t + 1)) - smN (rfB xs ys) (t + 1)) ≤ (((t + 1 : Nat) : Rat) + 1) / 33554432)) := by
    rintro t ht ⟨i1, i2, i3, i4⟩
    obtain ⟨_, RT, m3, m4, _⟩ := h.m ht
    obtain ⟨_, _, _, r4, r5, _, _⟩ := RT.ok
    have B1 := h.bsum (show t + 1 ≤ n by omega)
    have k1 := nat_rat (show t ≤ 8 by have := h.t.n8; omega)
    rw [show ((8 : Nat) : Rat) = 8 from rfl] at k1
    have k0 := nat_rat0 t
    have hb : rfB xs ys t = sv single (rtW (rfM xs ys t)) := rfl
    simp only [smN, rfS] at B1 ⊢
    rw [nat_rat1]
    have fS : Fnt single (rfS xs ys t) := fin_of_lt single (by rw [s_inf]; omega)
    have fb : Fnt single (rtW (rfM xs ys t)) := fin_of_lt single (by rw [s_inf]; omega)
    obtain ⟨w, w1, w2, _⟩ := add_spec (k_hf .f32) fS fb
    obtain ⟨c1, c2⟩ := fA_of (op := .add) (k := .f32) w1
    rw [show FloatKind.f32.format = single from rfl, ← hb] at w2
    refine ⟨c1, ?_⟩
    rw [c2]
    have z0 : rfM xs ys t = 0 → rfB xs ys t = 0 := fun e => by rw [hb, r5 e]; decide +kernel
    generalize hS : rfS xs ys t = S at *
    generalize hBt : smN (rfB xs ys) t = B at *
    generalize rfB xs ys t = b at *
    by_cases hc : S < 1065353216
    · have I := i3 hc
      by_cases ha : sv single S + b = 0
      · have s0 : sv single S = 0 := by grind
        have b0 : b = 0 := by grind
        have S0 : S = 0 := by
          rcases Nat.eq_zero_or_pos S with e | e
          · exact e
          · have := rv_pos (f := single) (r := S) (by omega)
            rw [← sv_of_le single (by rw [s_inf]; omega), s0] at this
            exact absurd this (by decide +kernel)
        have M0 : rfM xs ys t = 0 := by
          by_cases e : rfM xs ys t = 0
          · exact e
          · have := m3 e; grind
        have w0 : w = 0 := by
          rw [← c2, S0, r5 M0]
          decide +kernel
        rw [s0] at I
        rw [w0, b0, Rat.add_zero, show sv single 0 = 0 by decide +kernel]
        exact ⟨by omega, by grind, fun _ => by grind, fun _ => by grind⟩
      · have a0 : 0 < sv single S + b := by grind
        have J1 := neg_le_av (sv single S - B)
        have J2 := le_av (sv single S - B)
        have hw := w2.pos a0
        have hr : rg single w ≤ 1073741823 := w2.le (by
          rw [av_of_nonneg (Rat.le_of_lt a0)]
          exact Rat.le_trans (show sv single S + b ≤ 3 / 2 by grind) (by decide +kernel))
        rw [rg_of_le single hw] at hr
        have hn := rnd_ge0 w2 (Rat.le_of_lt a0)
        have A := av_add (sv single w - (sv single S + b)) (sv single S - B)
        rw [show sv single w - (sv single S + b) + (sv single S - B) = sv single w - (B + b) by grind] at A
        refine ⟨by omega, hn, fun hlt => ?_, fun hge => ?_⟩
        · have := err_lt1 w2 hlt
          grind
        · have := err_lt2 w2 (by omega)
          grind
    · have I := i4 (by omega)
      have J1 := le_av (sv single S - B)
      have S1 : 1 ≤ sv single S := by
        rw [sv_of_le single (by rw [s_inf]; omega), ← rs_1]
        exact rv_le _ (by omega)
      have M0 : rfM xs ys t = 0 := by
        by_cases e : rfM xs ys t = 0
        · exact e
        · have := m3 e; grind
      have b0 := z0 M0
      rw [b0, Rat.add_zero] at w2
      rw [b0, Rat.add_zero]
      have hw := w2.pos (by grind)
      obtain ⟨_, e2⟩ := rnd_exact w2 (r := S) (by rw [sv_of_le single (by rw [s_inf]; omega), av_of_nonneg (rv_nonneg _ _)]) (by rw [s_inf]; omega)
      have hr : rg single w ≤ S := w2.le (by rw [sv_of_le single (by rw [s_inf]; omega), av_of_nonneg (rv_nonneg _ _)]; exact Rat.le_refl)
      rw [rg_of_le single hw] at hr
      rw [e2]
      exact ⟨by omega, by grind, fun _ => by grind, fun _ => by grind⟩
  have all : ∀ t, t ≤ n → (rfS xs ys t < 1073741824 ∧ 0 ≤ sv single (rfS xs ys t) ∧ (rfS xs ys t < 1065353216 → av (sv single (rfS xs ys t) - smN (rfB xs ys) t) ≤ (t : Rat) / 33554432) ∧ (1065353216 ≤ rfS xs ys t → av (sv single (rfS xs ys t) - smN (rfB xs ys) t) ≤ ((t : Rat) + 1) / 33554432)) := by
    intro t
    induction t with
    | zero => intro _; simp only [smN, rfS]; rw [show ((0 : Nat) : Rat) = 0 from rfl]; decide +kernel
    | succ t ih => intro ht; exact (step t (by omega) (ih (by omega))).2
  exact fun t ht => ⟨all t ht, fun h1 => (step t h1 (all t ht)).1⟩
end
def rooW (xs ys : List Nat) (n : Nat) : Nat := if rfS xs ys n ≤ 1065353216 then rtW (fA .sub .f32 1065353216 (rfS xs ys n)) else 0
section
variable {xs ys : List Nat} {n : Nat} {p q : Nat → Rat} (h : Tq xs ys n p q)
include h
/-- The root's word: what is left of one, and its root. -/
theorem Tq.root : (floatBits .sub .f32 1065353216 (rfS xs ys n)).isSome = true ∧ ((rfS xs ys n ≤ 1065353216 ∧ Rt (fA .sub .f32 1065353216 (rfS xs ys n)) ∧ (FloatKind.f32.format.order (fA .sub .f32 1065353216 (rfS xs ys n)) 0 = some .eq ∨ FloatKind.f32.format.order (fA .sub .f32 1065353216 (rfS xs ys n)) 0 = some .gt)) ∨ (1065353216 < rfS xs ys n ∧ FloatKind.f32.format.order (fA .sub .f32 1065353216 (rfS xs ys n)) 0 = some .lt)) ∧ rooW xs ys n < 2139095040 ∧ 0 ≤ sv single (rooW xs ys n) ∧ sv single (rooW xs ys n) * sv single (rooW xs ys n) ≤ 1 - smN (rfB xs ys) n + 1 / 1000000 ∧ 1 - smN (rfB xs ys) n ≤ sv single (rooW xs ys n) * sv single (rooW xs ys n) * (1 + 1 / 1000000) + 27 / 100000000 := by
  obtain ⟨⟨i1, i2, i3, i4⟩, _⟩ := h.sum n (Nat.le_refl _)
  have B1 := h.bsum (Nat.le_refl n)
  have k1 := nat_rat h.t.n8
  rw [show ((8 : Nat) : Rat) = 8 from rfl] at k1
  have k0 := nat_rat0 n
  have I : av (sv single (rfS xs ys n) - smN (rfB xs ys) n) ≤ 9 / 33554432 := by
    by_cases hc : rfS xs ys n < 1065353216
    · have := i3 hc; grind
    · have := i4 (by omega); grind
  unfold rooW
  generalize rfS xs ys n = S at *
  generalize smN (rfB xs ys) n = B at *
  have J1 := neg_le_av (sv single S - B)
  have J2 := le_av (sv single S - B)
  have fS : Fnt single S := fin_of_lt single (by rw [s_inf]; omega)
  have one : Fnt single 1065353216 := fin_of_lt single (by rw [s_inf]; omega)
  obtain ⟨w, w1, w2, _⟩ := sub_spec (k_hf .f32) one fS
  obtain ⟨c1, c2⟩ := fA_of (op := .sub) (k := .f32) w1
  refine ⟨c1, ?_⟩
  have hlt32 := fA_lt32 c1
  rw [c2] at hlt32 ⊢
  rw [show FloatKind.f32.format = single from rfl, rs1'] at w2
  have c3 : ts ≤ 1 / 1000000000000000000000000000000 := by decide +kernel
  by_cases hc : S ≤ 1065353216
  · rw [if_pos hc]
    have S1 : sv single S ≤ 1 := by
      rw [sv_of_le single (by rw [s_inf]; omega), ← rs_1]
      exact rv_le _ hc
    by_cases he : S = 1065353216
    · have w0 : w = 0 := by rw [← c2, he]; decide +kernel
      rw [he, rs1'] at J1 J2 I
      rw [w0]
      have r0 : rtW 0 = 0 := by decide +kernel
      rw [r0, show sv single 0 = 0 by decide +kernel]
      exact ⟨.inl ⟨hc, ⟨by decide, .inl rfl, by decide +kernel⟩, .inl rfl⟩, by decide, by decide +kernel, by grind, by grind⟩
    · have S2 : sv single S ≤ 1 - 1 / 16777216 := by
        rw [sv_of_le single (by rw [s_inf]; omega)]
        exact Rat.le_trans (rv_le single (show S ≤ 1065353215 by omega)) (by decide +kernel)
      generalize sv single S = s at *
      have d0 : 0 < 1 - s := by grind
      have hw := w2.pos d0
      have wf : Fnt single w := huge_bd (k := .f32) w2 (by rw [av_of_nonneg (Rat.le_of_lt d0)]; exact Rat.le_trans (show 1 - s ≤ 2 by grind) (by decide +kernel))
      have hlt : w < 2139095040 := by
        have : rg single w < single.infRung := wf
        rwa [rg_of_le single hw, s_inf] at this
      have E := err_s2 w2 wf
      rw [av_of_nonneg (Rat.le_of_lt d0)] at E
      have l1 := neg_le_av (sv single w - (1 - s))
      have l2 := le_av (sv single w - (1 - s))
      have T0 : 1 / 1000000000 ≤ sv single w := by grind
      have RT : Rt w := ⟨hlt, .inr T0, by grind⟩
      obtain ⟨_, _, _, r4, r5, r6, r7⟩ := RT.ok
      have w0 : 0 < w := by
        rcases Nat.eq_zero_or_pos w with e | e
        · rw [e, show sv single 0 = 0 by decide +kernel] at T0
          exact absurd T0 (by decide +kernel)
        · exact e
      refine ⟨.inl ⟨hc, RT, .inr (order_x0 w0 hlt)⟩, r4, r6, ?_, ?_⟩
      all_goals
        have m1 := neg_le_av (sv single (rtW w) * sv single (rtW w) - sv single w)
        have m2 := le_av (sv single (rtW w) * sv single (rtW w) - sv single w)
        generalize sv single (rtW w) * sv single (rtW w) = r at *
        generalize sv single w = T at *
        clear w2 i3 i4
        grind
  · rw [if_neg hc]
    have S1 : 1 + 1 / 8388608 ≤ sv single S := by
      rw [sv_of_le single (by rw [s_inf]; omega)]
      exact Rat.le_trans (by decide +kernel) (rv_le single (show 1065353217 ≤ S by omega))
    have S2 : sv single S ≤ 2 := by grind
    rw [show sv single 0 = 0 by decide +kernel]
    generalize sv single S = s at *
    have wf : Fnt single w := huge_bd (k := .f32) w2 (by rw [show (1 - s) = -(s - 1) by grind, av_neg, av_of_nonneg (by grind)]; exact Rat.le_trans (show s - 1 ≤ 2 by grind) (by decide +kernel))
    have E := err_s2 w2 wf
    rw [show av (1 - s) = s - 1 by rw [show (1 - s) = -(s - 1) by grind, av_neg, av_of_nonneg (by grind)]] at E
    have l2 := le_av (sv single w - (1 - s))
    refine ⟨.inr ⟨by omega, ?_⟩, by decide, by decide +kernel, by grind, by grind⟩
    refine ord_flt (k := .f32) wf (by unfold Fnt; decide +kernel) ?_
    rw [show FloatKind.f32.format = single from rfl, show sv single 0 = 0 by decide +kernel]
    clear w2
    grind
/-- How far rows are, by both measures. -/
theorem Tq.two : sv single (rooW xs ys n) * sv single (rooW xs ys n) ≤ FxE p q n / 2 + 1 / 100000 ∧ FxE p q n / 2 ≤ 14143 / 10000 * sv single (rooW xs ys n) + 94 / 100000 := by
  obtain ⟨_, _, _, r0, r1, r2⟩ := h.root
  have F := h.far_le
  refine ⟨by grind, ?_⟩
  generalize sv single (rooW xs ys n) = r at *
  obtain ⟨t, ht⟩ : ∃ t, t = 7071 / 10000 * r + 469 / 1000000 := ⟨_, rfl⟩
  have t0 : 0 < t := by grind
  have kt : t⁻¹ * t = 1 := by rw [Rat.mul_comm]; exact Rat.mul_inv_cancel _ (by grind)
  have k0 : 0 < t⁻¹ := Rat.inv_pos.2 t0
  have A := h.amgm (Rat.le_of_lt k0) (Rat.le_of_lt t0) kt
  generalize t⁻¹ = k at *
  generalize smN (rfB xs ys) n = B at *
  generalize FxE p q n / 2 = G at *
  have m1 := Rat.mul_le_mul_of_nonneg_left (show 1 - B + 16 / 100000000 ≤ r * r * (1 + 1 / 1000000) + 43 / 100000000 by grind) (Rat.le_of_lt k0)
  have kr0 := Rat.mul_nonneg (Rat.le_of_lt k0) r0
  have e : k * (7071 / 10000 * r) + k * (469 / 1000000) = 1 := by rw [← Rat.mul_add, ← ht]; exact kt
  have kr : k * r ≤ 10000 / 7071 := by grind
  have kk : k ≤ 1000000 / 469 := by grind
  have m2 := Rat.mul_le_mul_of_nonneg_right kr r0
  grind
end

set_option maxRecDepth 4000 in
set_option maxHeartbeats 4000000 in
theorem RootFar_any {xs ys : List Nat} {n : Nat} {p q : Nat → Rat} (h : Tq xs ys n p q) (w : World) (v u : Value) (hv : SlR w v (xs.map (Value.float .f32))) (hu : SlR w u (ys.map (Value.float .f32))) :
    Calls Try.prog 49 #[v, u] w fun e w' => e = .returned (.tuple #[.float .f32 (rooW xs ys n), .bool true]) ∧ Qu w w' := by
  have n1 := h.t.r.n1
  have HTW : Hid (Calls Try.prog 97 #[v, u] w fun e w' => e = .returned (.bool true) ∧ Qu w w') := Lib.hid (by
    have := areRows_any v u xs ys w hv hu h.t.r.lt32 h.t.s.lt32
    rwa [show twB xs ys = true by unfold twB; rw [h.t.r.row (by decide +kernel) (by decide +kernel) (by have := h.t.n8; omega), h.t.s.row (by decide +kernel) (by decide +kernel) (by have := h.t.n8; omega), h.t.r.len, h.t.s.len]; simp] at this)
  obtain ⟨b, off, c, rfl, _, _, xcell⟩ := sl_cells hv h.t.r.len n1
  obtain ⟨b2, off2, c2, rfl, _, _, ycell⟩ := sl_cells hu h.t.s.len n1
  have HX := Lib.hid xcell
  have HY := Lib.hid ycell
  have HT : Hid (∀ t, t < n → (floatBits .mul .f32 (xs[t]?.getD 0) (ys[t]?.getD 0)).isSome = true ∧ Rt (fA .mul .f32 (xs[t]?.getD 0) (ys[t]?.getD 0)) ∧ (floatBits .add .f32 (rfS xs ys t) (rtW (fA .mul .f32 (xs[t]?.getD 0) (ys[t]?.getD 0)))).isSome = true ∧ rfS xs ys (t + 1) = fA .add .f32 (rfS xs ys t) (rtW (fA .mul .f32 (xs[t]?.getD 0) (ys[t]?.getD 0)))) := Lib.hid fun t ht => ⟨(h.m ht).1, (h.m ht).2.1, (h.sum t (by omega)).2 ht, rfl⟩
  have HRN : Hid (∀ x W, Rt x → Calls Try.prog 101 #[.float .f32 x] W fun e w' => e = .returned (.float .f32 (rtW x)) ∧ W = w') := Lib.hid fun x W hx => RootNumber_any hx W
  obtain ⟨hsub, hcase, hlt, _⟩ := h.root
  obtain ⟨hfin, hfz⟩ := fin_ok (x := rooW xs ys n) (fin_of_lt single (by rw [s_inf]; exact hlt))
  have HAS : Hid (∀ W : World, Calls Try.prog 63 #[.float .f32 (rooW xs ys n)] W fun e w' => e = .returned (.tuple #[.float .f32 (rooW xs ys n), .bool true]) ∧ Qu W w') := Lib.hid fun W => by
    have := asNumber_any (rooW xs ys n) W
    rwa [hfin, hfz] at this
  have HC : Hid ((Rt (fA .sub .f32 1065353216 (rfS xs ys n)) ∧ rtW (fA .sub .f32 1065353216 (rfS xs ys n)) = rooW xs ys n ∧ (FloatKind.f32.format.order (fA .sub .f32 1065353216 (rfS xs ys n)) 0 = some .eq ∨ FloatKind.f32.format.order (fA .sub .f32 1065353216 (rfS xs ys n)) 0 = some .gt)) ∨ (rooW xs ys n = 0 ∧ FloatKind.f32.format.order (fA .sub .f32 1065353216 (rfS xs ys n)) 0 = some .lt)) := Lib.hid (by
    rcases hcase with ⟨a, b, c⟩ | ⟨a, b⟩
    · exact .inl ⟨b, by unfold rooW; rw [if_pos a], c⟩
    · exact .inr ⟨by unfold rooW; rw [if_neg (by omega)], b⟩)
  have n8 := h.t.n8
  clear hv hu xcell ycell h hfin hfz hcase hlt
  generalize rooW xs ys n = R at *
  go_enter Try.func49, Try.ntmps49
  go_upto_region 3 with (go_at_call 97; refine HTW.out.mono ?_; rintro e w1 ⟨rfl, hq1⟩)
  go_upto_region 5 with fail
  go_loopw [6, 15] (fun s q W => ∃ t : Nat, t ≤ n ∧ q = .int .i64 (t : Int) ∧ s = .float .f32 (rfS xs ys t) ∧ Qu w W) (fun _ q _ => n - (intOf q).toNat)
  case atStart => exact ⟨0, Nat.zero_le _, rfl, rfl, hq1⟩
  case round =>
    clear hq1
    obtain ⟨t, ht, rfl, rfl, hq⟩ := hrel
    by_cases hlt : t < n
    · have hc := HX.out wr hq.keep t hlt
      have hd := HY.out wr hq.keep t hlt
      obtain ⟨t1, t2, hadd, e2⟩ := HT.out t hlt
      have HS := Lib.hid e2
      have A1 := Lib.hid (fun W => HRN.out _ W t2)
      clear t2 e2 hsub HC HAS
      generalize xs[t]?.getD 0 = x at *
      generalize ys[t]?.getD 0 = y at *
      go_wp2_with (go_at_call 101; refine (A1.out _).mono ?_; rintro e w3 ⟨rfl, rfl⟩)
      go_roundw
      case rel => exact ⟨t + 1, by omega, by go_num, by rw [HS.out], hq⟩
      case measure => simp [intOf]; omega
    · obtain rfl : n = t := by omega
      clear HX HY HT
      generalize rfS xs ys n = S at *
      rcases HC.out with ⟨c1, c2, c3⟩ | ⟨rfl, c3⟩
      · have A1 := Lib.hid (fun W => HRN.out _ W c1)
        rw [c2] at A1
        clear HC HRN c1 c2
        rcases c3 with c3 | c3
        all_goals
          go_wp2_with (first
            | (go_at_call 63; refine (HAS.out _).mono ?_; rintro e w5 ⟨rfl, hq5⟩)
            | (go_at_call 101; refine (A1.out _).mono ?_; rintro e w4 ⟨rfl, rfl⟩))
          go_ret2
          exact ⟨rfl, hq.trans hq5⟩
      · clear HC HRN HAS
        go_wp2
        go_ret2
        exact ⟨rfl, hq⟩

end Go.Proofs.Ytmocfnpbofeiiaa
