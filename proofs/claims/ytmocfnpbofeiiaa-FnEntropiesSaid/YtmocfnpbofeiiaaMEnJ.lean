/- Entropies: exact laws of mixtures, spreads and cross entropies (plain). -/
import Derived.Test.YtmocfnpbofeiiaaMEnH
import Derived.Test.YtmocfnpbofeiiaaMEnW
import Derived.Test.YtmocfnpbofeiiaaMEnO
import Derived.Test.YtmocfnpbofeiiaaMEnM
import Derived.Test.YtmocfnpbofeiiaaMSpo
import Derived.Test.YtmocfnpbofeiiaaMTtP
namespace Go.Proofs.Ytmocfnpbofeiiaa
set_option linter.unusedSimpArgs false
set_option linter.unusedVariables false
open Go.RowKit
open Ieee
section
variable {p q m : Nat → Rat} {n : Nat}
theorem mix_one {s : Rat} (s0 : 0 ≤ s) (hp : ∀ i, i < n → 0 ≤ p i) (hm : ∀ i, i < n → s * p i ≤ m i) (sp : smN p n = 1) (sm : smN m n = 1) :
    s * smN (fun i => p i * Lb (m i)) n ≤ s * smN (fun i => p i * Lb (p i)) n + 1 / 1000000000000000 * s := by
  have key : smN (fun i => s * (p i * Lb (m i))) n ≤ smN (fun i => s * (p i * Lb (p i)) + (s * lnC⁻¹ * (m i + (-1) * p i) + s * (1 / 1000000000000000) * p i)) n := smN_le n fun i hi => by
    have p0 := hp i hi
    have m0 := hm i hi
    have c := lnC_inv
    have sp0 := Rat.mul_nonneg s0 p0
    by_cases hs : s = 0
    · rw [hs]; grind
    · by_cases h0 : p i = 0
      · rw [h0]
        have := Rat.mul_nonneg (Rat.mul_nonneg s0 c.2.1) (show 0 ≤ m i by grind)
        grind
      · have sp1 := Rat.mul_pos (show 0 < s by grind) (show 0 < p i by grind)
        have g := gibL (show 0 < p i by grind) (show 0 < m i by grind)
        have := Rat.mul_le_mul_of_nonneg_left g s0
        generalize Lb (m i) = lm at *
        generalize Lb (p i) = lp at *
        generalize lnC⁻¹ = z at *
        grind
  rw [smN_add, smN_add, smN_mul, smN_mul, smN_mul, smN_mul, smN_add, smN_mul, sp, sm] at key
  generalize smN (fun i => p i * Lb (m i)) n = u at *
  generalize smN (fun i => p i * Lb (p i)) n = v at *
  generalize lnC⁻¹ = z at *
  grind
/-- A mixture tells at least what its parts tell, in the mean. -/
theorem mx_conc {s t : Rat} (s0 : 0 ≤ s) (t0 : 0 ≤ t) (st : s + t = 1) (hp : ∀ i, i < n → 0 ≤ p i) (hq : ∀ i, i < n → 0 ≤ q i) (sp : smN p n = 1) (sq : smN q n = 1) :
    s * Hx p n + t * Hx q n - 1 / 100000000000000 ≤ Hx (fun i => s * p i + t * q i) n := by
  have sm : smN (fun i => s * p i + t * q i) n = 1 := by rw [smN_add, smN_mul, smN_mul, sp, sq]; grind
  have a := mix_one (p := p) (m := fun i => s * p i + t * q i) s0 hp (fun i hi => by have := Rat.mul_nonneg t0 (hq i hi); grind) sp sm
  have b := mix_one (p := q) (m := fun i => s * p i + t * q i) t0 hq (fun i hi => by have := Rat.mul_nonneg s0 (hp i hi); grind) sq sm
  have e : smN (fun i => (s * p i + t * q i) * Lb (s * p i + t * q i)) n = s * smN (fun i => p i * Lb (s * p i + t * q i)) n + t * smN (fun i => q i * Lb (s * p i + t * q i)) n := by
    rw [← smN_mul, ← smN_mul, ← smN_add]
    exact smN_eq _ fun i _ => by grind
  unfold Hx
  rw [e]
  generalize smN (fun i => p i * Lb (s * p i + t * q i)) n = u at *
  generalize smN (fun i => q i * Lb (s * p i + t * q i)) n = v at *
  generalize smN (fun i => p i * Lb (p i)) n = a1 at *
  generalize smN (fun i => q i * Lb (q i)) n = b1 at *
  clear e sm
  grind
theorem Lb_half : -(100001 / 100000) ≤ Lb (1 / 2) := by
  have e := Ln_pow (x := 1) (by decide +kernel) (-1)
  rw [show (1 : Rat) * 2 ^ (-1 : Int) = 1 / 2 by decide +kernel, Ln_one, show ((-1 : Int) : Rat) = -1 from rfl] at e
  have h := lg2_hi
  have c := lnC_b
  have := Lb_of (a := 0) (b := Ln (1 / 2)) (c := 100001 / 100000) (by rw [e]; grind)
  rw [show (0 : Rat) / lnC = 0 by rw [Rat.div_def, Rat.zero_mul]] at this
  unfold Lb
  grind
/-- The spread of two rows is at most one bit. -/
theorem hx_spread (hp : ∀ i, i < n → 0 ≤ p i) (hq : ∀ i, i < n → 0 ≤ q i) (sp : smN p n = 1) (sq : smN q n = 1) :
    Hx (fun i => 1 / 2 * p i + 1 / 2 * q i) n ≤ 1 / 2 * Hx p n + 1 / 2 * Hx q n + 10001 / 10000 := by
  have one : ∀ {r m : Nat → Rat}, (∀ i, i < n → 0 ≤ r i) → (∀ i, i < n → 1 / 2 * r i ≤ m i) → smN r n = 1 → smN (fun i => r i * Lb (r i)) n ≤ smN (fun i => r i * Lb (m i)) n + 10001 / 10000 := by
    intro r m hr hm sr
    have key : smN (fun i => r i * Lb (r i)) n ≤ smN (fun i => r i * Lb (m i) + 10001 / 10000 * r i) n := smN_le n fun i hi => by
      have r0 := hr i hi
      have m0 := hm i hi
      by_cases h0 : r i = 0
      · rw [h0]; grind
      · have a := Lb_mono (show 0 < 1 / 2 * r i by grind) m0
        have b := Lb_mul (x := 1 / 2) (y := r i) (by decide +kernel) (by grind)
        have b1 := neg_le_av (Lb (1 / 2 * r i) - Lb (1 / 2) - Lb (r i))
        have c := Lb_half
        have := Rat.mul_le_mul_of_nonneg_left (show Lb (r i) ≤ Lb (m i) + 10001 / 10000 by grind) r0
        grind
    rw [smN_add, smN_mul, sr] at key
    grind
  have a := one (r := p) (m := fun i => 1 / 2 * p i + 1 / 2 * q i) hp (fun i hi => by have := hq i hi; grind) sp
  have b := one (r := q) (m := fun i => 1 / 2 * p i + 1 / 2 * q i) hq (fun i hi => by have := hp i hi; grind) sq
  have e : smN (fun i => (1 / 2 * p i + 1 / 2 * q i) * Lb (1 / 2 * p i + 1 / 2 * q i)) n = 1 / 2 * smN (fun i => p i * Lb (1 / 2 * p i + 1 / 2 * q i)) n + 1 / 2 * smN (fun i => q i * Lb (1 / 2 * p i + 1 / 2 * q i)) n := by
    rw [← smN_mul, ← smN_mul, ← smN_add]
    exact smN_eq _ fun i _ => by grind
  unfold Hx
  rw [e]
  generalize smN (fun i => p i * Lb (1 / 2 * p i + 1 / 2 * q i)) n = u at *
  generalize smN (fun i => q i * Lb (1 / 2 * p i + 1 / 2 * q i)) n = v at *
  generalize smN (fun i => p i * Lb (p i)) n = a1 at *
  generalize smN (fun i => q i * Lb (q i)) n = b1 at *
  clear e one
  grind
theorem dx_nonneg (hp : ∀ i, i < n → 0 ≤ p i) (hq : ∀ i, i < n → 0 ≤ q i) (sp : smN p n = 1) (sq : smN q n = 1) (cov : ∀ i, i < n → p i ≠ 0 → q i ≠ 0) : -(1 / 1000000000000000) ≤ DxE p q n := by
  have key : smN (fun i => (-(1 / 1000000000000000)) * p i + (-lnC⁻¹) * (q i + (-1) * p i)) n ≤ DxE p q n := smN_le n fun i hi => by
    have p0 := hp i hi
    have q0 := hq i hi
    have c := lnC_inv
    by_cases h0 : p i = 0
    · rw [h0]
      have := Rat.mul_nonneg c.2.1 q0
      grind
    · have c0 := cov i hi h0
      have g := gibL (show 0 < p i by grind) (show 0 < q i by grind)
      generalize Lb (p i) = u at *
      generalize Lb (q i) = v at *
      generalize lnC⁻¹ = z at *
      grind
  rw [smN_add, smN_mul, smN_mul, smN_add, smN_mul, sp, sq] at key
  grind
theorem cx_eq : CxE p q n = Hx p n + DxE p q n := by
  unfold CxE Hx DxE
  rw [show (fun i => p i * (Lb (p i) - Lb (q i))) = fun i => p i * Lb (p i) + (-1) * (p i * Lb (q i)) from funext fun i => by grind, smN_add, smN_mul]
  grind
theorem dx_self : DxE p p n = 0 := by
  unfold DxE
  rw [show (fun i => p i * (Lb (p i) - Lb (p i))) = fun _ => 0 from funext fun i => by grind, smN_zero]
end
theorem mxX_8 (p q : Nat → Rat) : mxX 8 p q = fun i => 1 / 2 * p i + 1 / 2 * q i := by
  funext i
  unfold mxX
  rw [show ((8 : Nat) : Rat) / 16 = 1 / 2 by decide +kernel, show (1 : Rat) - 1 / 2 = 1 / 2 by decide +kernel]
theorem mxL_8 (xs ys : List Nat) (n : Nat) : mxL xs ys n = mxS 8 xs ys n := by
  unfold mxL mxS mxT
  rw [show shC 8 = 1056964608 by decide +kernel, show shW 8 = 1056964608 by decide +kernel]
theorem ev_hx {n : Nat} (n1 : 1 ≤ n) : Hx (fun _ => 1 / (n : Rat)) n = 0 - Lb (1 / (n : Rat)) := by
  unfold Hx
  rw [smN_const]
  have k := nat_rat n1
  rw [show ((1 : Nat) : Rat) = 1 from rfl] at k
  have e : 1 / (n : Rat) * (n : Rat) = 1 := Rat.div_mul_cancel (by grind)
  generalize 1 / (n : Rat) = z at *
  generalize Lb z = l at *
  generalize (n : Rat) = N at *
  rw [show N * (z * l) = z * N * l by grind, e, Rat.one_mul]

end Go.Proofs.Ytmocfnpbofeiiaa

/- What the law FnEntropies asks of words near exact numbers (plain, and the absolute differences). -/
namespace Go.Proofs.Ytmocfnpbofeiiaa
set_option linter.unusedSimpArgs false
set_option linter.unusedVariables false
open Go.RowKit
open Ieee
def w1001 : Nat := 4607186922399644778
def w14143 : Nat := 4609048260125637004
def one64 : Nat := 4607182418800017408
theorem w1001_ap : Ap .f64 w1001 (1001 / 1000) (1 / 1000000000000000) := ⟨by unfold Fnt w1001; decide, by decide +kernel⟩
theorem w14143_ap : Ap .f64 w14143 (14143 / 10000) (1 / 1000000000000000) := ⟨by unfold Fnt w14143; decide, by decide +kernel⟩
theorem one64_ap : Ap .f64 one64 1 0 := ⟨by unfold Fnt one64; decide, by decide +kernel⟩
theorem nul64_ap : Ap .f64 0 0 0 := ⟨by unfold Fnt; decide, by decide +kernel⟩
theorem mul64f {x y : Nat} {v u e d : Rat} (hx : Ap .f64 x v e) (hy : Ap .f64 y u d) (hA : av v ≤ 4) (hB : av u ≤ 4) (he : e ≤ 1 / 1000) (hd : d ≤ 1 / 1000) : (floatBits .mul .f64 x y).isSome = true ∧ Ap .f64 (fA .mul .f64 x y) (v * u) (e * 4 + e * d + 4 * d + 1 / 1000000000000) := by
  have c1 : ulp .f64 ≤ 1 / 1000000000000000 := by decide +kernel
  have c2 : tin .f64 ≤ 1 / 100000000000000000000 := by decide +kernel
  have c0 : 0 ≤ ulp .f64 := by decide +kernel
  have c3 : (1000 : Rat) ≤ huge .f64 := by decide +kernel
  have e0 := hx.ge0
  have d0 := hy.ge0
  have ed := Rat.mul_le_mul_of_nonneg_left hd e0
  have ed0 := Rat.mul_nonneg e0 d0
  have m2 := Rat.mul_le_mul_of_nonneg_right (show 4 * 4 + (e * (4 + d) + 4 * d) ≤ 17 by grind) c0
  exact ap_mul hx hy hA hB (by grind) (by grind)
def CondA (x y z t s f r h : Nat) : Prop :=
    ((floatToFloatBits .f32 x .f64).isSome = true ∧ (floatToFloatBits .f32 y .f64).isSome = true ∧ (floatToFloatBits .f32 z .f64).isSome = true ∧ (floatToFloatBits .f32 t .f64).isSome = true ∧ (floatToFloatBits .f32 s .f64).isSome = true ∧ (floatToFloatBits .f32 f .f64).isSome = true ∧ (floatToFloatBits .f32 r .f64).isSome = true ∧ (floatToFloatBits .f32 h .f64).isSome = true) ∧
    (FloatKind.f64.format.order (up64 x) n001 == some .lt) = false ∧
    ((floatBits .add .f64 (up64 t) w001).isSome = true ∧ (FloatKind.f64.format.order (up64 x) (fA .add .f64 (up64 t) w001) == some .gt) = false) ∧
    ((floatBits .sub .f64 one64 (up64 h)).isSome = true ∧ (floatBits .mul .f64 (up64 x) (fA .sub .f64 one64 (up64 h))).isSome = true ∧ (floatBits .mul .f64 (up64 y) (up64 h)).isSome = true ∧ (floatBits .add .f64 (fA .mul .f64 (up64 x) (fA .sub .f64 one64 (up64 h))) (fA .mul .f64 (up64 y) (up64 h))).isSome = true ∧ (floatBits .sub .f64 (fA .add .f64 (fA .mul .f64 (up64 x) (fA .sub .f64 one64 (up64 h))) (fA .mul .f64 (up64 y) (up64 h))) w001).isSome = true ∧
      (FloatKind.f64.format.order (up64 z) (fA .sub .f64 (fA .add .f64 (fA .mul .f64 (up64 x) (fA .sub .f64 one64 (up64 h))) (fA .mul .f64 (up64 y) (up64 h))) w001) == some .lt) = false) ∧
    (FloatKind.f64.format.order (up64 s) n001 == some .lt) = false ∧ (FloatKind.f64.format.order (up64 s) w1001 == some .gt) = false ∧
    (FloatKind.f32.format.order f 0 == some .lt) = false ∧ (FloatKind.f64.format.order (up64 f) w1001 == some .gt) = false ∧
    ((floatBits .mul .f64 (up64 r) (up64 r)).isSome = true ∧ (floatBits .add .f64 (up64 f) w001).isSome = true ∧ (FloatKind.f64.format.order (fA .mul .f64 (up64 r) (up64 r)) (fA .add .f64 (up64 f) w001) == some .gt) = false) ∧
    ((floatBits .mul .f64 (up64 r) w14143).isSome = true ∧ (floatBits .add .f64 (fA .mul .f64 (up64 r) w14143) w001).isSome = true ∧ (FloatKind.f64.format.order (up64 f) (fA .add .f64 (fA .mul .f64 (up64 r) w14143) w001) == some .gt) = false)
theorem condA {x y z t s f r h : Nat} {X Y Z T S F R H : Rat}
    (ax : Ap .f32 x X (1 / 15000)) (ay : Ap .f32 y Y (1 / 15000)) (az : Ap .f32 z Z (1 / 15000)) (tt : Ap .f32 t T (1 / 15000)) (ss : Ap .f32 s S (1 / 7000)) (af : Ap .f32 f F (1 / 250000)) (ar : Ap .f32 r R 0) (ah : Ap .f32 h H 0) (f0 : 0 ≤ sv single f)
    (X0 : -(1 / 1000000000) ≤ X) (X3 : X ≤ 31 / 10) (XT : X ≤ T + 1 / 1000000000) (Y0 : -(1 / 1000000000) ≤ Y) (Y3 : Y ≤ 31 / 10) (T3 : T ≤ 14) (H0 : 0 ≤ H) (H1 : H ≤ 1) (Zc : (1 - H) * X + H * Y - 1 / 1000000000 ≤ Z) (S0 : -(1 / 1000000000) ≤ S) (S1 : S ≤ 10001 / 10000) (F0 : 0 ≤ F) (F1 : F ≤ 1)
    (R0 : 0 ≤ R) (R1 : R * R ≤ F + 1 / 100000) (RF : F ≤ 14143 / 10000 * R + 94 / 100000) : CondA x y z t s f r h := by
  obtain ⟨vx, ux⟩ := up_ok ax
  obtain ⟨vy, uy⟩ := up_ok ay
  obtain ⟨vz, uz⟩ := up_ok az
  obtain ⟨vt, ut⟩ := up_ok tt
  obtain ⟨vs, us⟩ := up_ok ss
  obtain ⟨vf, uf⟩ := up_ok af
  obtain ⟨vr, ur⟩ := up_ok ar
  obtain ⟨vh, uh⟩ := up_ok ah
  have R2 : R ≤ 2 := sq_le (by grind) (by decide +kernel)
  have XH0 := Rat.mul_nonneg (show 0 ≤ X + 1 / 1000000000 by grind) (show 0 ≤ 1 - H by grind)
  have XH1 := Rat.mul_le_mul_of_nonneg_right X3 (show 0 ≤ 1 - H by grind)
  have YH0 := Rat.mul_nonneg (show 0 ≤ Y + 1 / 1000000000 by grind) H0
  have YH1 := Rat.mul_le_mul_of_nonneg_right Y3 H0
  obtain ⟨q1, q2⟩ := add64 ut w001_ap (av_le (by grind) (by grind)) (by decide +kernel)
  obtain ⟨a1, a2⟩ := sub64 one64_ap uh (av_le (by grind) (by grind)) (by decide +kernel)
  obtain ⟨b1, b2⟩ := mul64f ux a2 (av_le (by grind) (by grind)) (av_le (by grind) (by grind)) (by decide +kernel) (by decide +kernel)
  obtain ⟨c1, c2⟩ := mul64f uy uh (av_le (by grind) (by grind)) (av_le (by grind) (by grind)) (by decide +kernel) (by decide +kernel)
  obtain ⟨d1, d2⟩ := add64 b2 c2 (av_le (by grind) (by grind)) (by decide +kernel)
  obtain ⟨e1, e2⟩ := sub64 d2 w001_ap (av_le (by grind) (by grind)) (by decide +kernel)
  obtain ⟨g1, g2⟩ := mul64f ur ur (av_le (by grind) (by grind)) (av_le (by grind) (by grind)) (by decide +kernel) (by decide +kernel)
  obtain ⟨i1, i2⟩ := add64 uf w001_ap (av_le (by grind) (by grind)) (by decide +kernel)
  obtain ⟨j1, j2⟩ := mul64f ur w14143_ap (av_le (by grind) (by grind)) (by decide +kernel) (by decide +kernel) (by decide +kernel)
  obtain ⟨k1, k2⟩ := add64 j2 w001_ap (av_le (by grind) (by grind)) (by decide +kernel)
  refine ⟨⟨vx, vy, vz, vt, vs, vf, vr, vh⟩, not_lt ux n001_ap (by grind), ⟨q1, not_gt ux q2 (by grind)⟩, ⟨a1, b1, c1, d1, e1, not_lt uz e2 (by grind)⟩, not_lt us n001_ap (by grind), not_gt us w1001_ap (by grind), ?_, not_gt uf w1001_ap (by grind), ⟨g1, i1, not_gt g2 i2 (by grind)⟩, ⟨j1, k1, not_gt uf k2 (by grind)⟩⟩
  exact ord_lt_no af.1 (zero_ap).1 (by rw [show sv FloatKind.f32.format 0 = 0 by decide +kernel]; exact f0)
def CondB (x l h z u : Nat) : Prop :=
    ((floatToFloatBits .f32 l .f64).isSome = true ∧ (floatToFloatBits .f32 h .f64).isSome = true ∧ (floatToFloatBits .f32 z .f64).isSome = true ∧ (floatToFloatBits .f32 u .f64).isSome = true) ∧
    ((floatBits .sub .f64 (up64 x) w001).isSome = true ∧ (FloatKind.f64.format.order (up64 l) (fA .sub .f64 (up64 x) w001) == some .lt) = false) ∧
    ((floatBits .add .f64 (up64 x) w001).isSome = true ∧ (FloatKind.f64.format.order (up64 h) (fA .add .f64 (up64 x) w001) == some .gt) = false) ∧
    (∃ g, (FloatKind.f64.format.order g w001 == some .gt) = false ∧ ∀ w, Calls Try.prog 14 #[.float .f64 (up64 z), .float .f64 (up64 u)] w fun e w' => e = .returned (.float .f64 g) ∧ w = w')
theorem condB {x l h z u : Nat} {X L H Z U : Rat} (ax : Ap .f32 x X (1 / 15000)) (al : Ap .f32 l L (1 / 2200)) (ah : Ap .f32 h H (1 / 2200)) (az : Ap .f32 z Z (1 / 2200)) (au : Ap .f32 u U (1 / 80000))
    (X3 : av X ≤ 4) (LX : X - 1 / 90000 ≤ L) (HX : H ≤ X + 1 / 90000) (ZU : av (Z - U) ≤ 1 / 1000000) : CondB x l h z u := by
  obtain ⟨vx, ux⟩ := up_ok ax
  obtain ⟨vl, ul⟩ := up_ok al
  obtain ⟨vh, uh⟩ := up_ok ah
  obtain ⟨vz, uz⟩ := up_ok az
  obtain ⟨vu, uu⟩ := up_ok au
  have w1 : av (1 / 1000) ≤ 1 := by decide +kernel
  obtain ⟨a1, a2⟩ := sub64 ux w001_ap (Rat.le_trans (av_sub_le X3 w1) (by decide +kernel)) (by decide +kernel)
  obtain ⟨b1, b2⟩ := add64 ux w001_ap (Rat.le_trans (av_add_le X3 w1) (by decide +kernel)) (by decide +kernel)
  obtain ⟨g, g1, _, g2⟩ := gapNear uz uu (D := 1 / 1000000) ZU (by decide +kernel) w001_ap (by decide +kernel)
  exact ⟨⟨vl, vh, vz, vu⟩, ⟨a1, not_lt ul a2 (by grind)⟩, ⟨b1, not_gt uh b2 (by grind)⟩, ⟨g, g1, g2⟩⟩
theorem gap0 {s : Nat} {S e : Rat} (ss : Ap .f32 s S e) (S0 : av S ≤ 1 / 1000000000) (he : e ≤ 1 / 7000) :
    (floatToFloatBits .f32 s .f64).isSome = true ∧ ∃ g, (FloatKind.f64.format.order g w001 == some .gt) = false ∧ FloatKind.f64.format.order g w001 = some .lt ∧ ∀ w, Calls Try.prog 14 #[.float .f64 (up64 s), .float .f64 0] w fun e w' => e = .returned (.float .f64 g) ∧ w = w' := by
  obtain ⟨vs, us⟩ := up_ok (ss.mono he)
  obtain ⟨g, g1, g2, g3⟩ := gapNear us nul64_ap (D := 1 / 1000000000) (by rw [show S - 0 = S by grind]; exact S0) (by decide +kernel) w001_ap (by decide +kernel)
  exact ⟨vs, g, g1, g2, g3⟩
theorem gapQ {x y : Nat} {p : Rat} (hx : Rq (1 / 500000) x p) (hy : Rq (1 / 8000000) y p) : (floatToFloatBits .f32 x .f64).isSome = true ∧ (floatToFloatBits .f32 y .f64).isSome = true ∧ ∃ g, (FloatKind.f64.format.order g w001 == some .gt) = false ∧ ∀ w, Calls Try.prog 14 #[.float .f64 (up64 x), .float .f64 (up64 y)] w fun e w' => e = .returned (.float .f64 g) ∧ w = w' := by
  have p2 := hx.2.2.2.1
  obtain ⟨vx, ux⟩ := up_ok (hx.ap (e := 1 / 250000) (by grind))
  obtain ⟨vy, uy⟩ := up_ok (hy.ap (e := 1 / 4000000) (by grind))
  obtain ⟨g, g1, _, g3⟩ := gapNear ux uy (D := 0) (by rw [show p - p = 0 by grind]; decide +kernel) (by decide +kernel) w001_ap (by decide +kernel)
  exact ⟨vx, vy, g, g1, g3⟩
def CondD (x m c o z : Nat) (b : Bool) : Prop :=
    ((floatToFloatBits .f32 m .f64).isSome = true ∧ (floatToFloatBits .f32 c .f64).isSome = true ∧ (floatToFloatBits .f32 o .f64).isSome = true) ∧
    FloatKind.f64.format.order (up64 m) n001 = some .gt ∧
    ((floatBits .add .f64 (up64 x) (up64 m)).isSome = true ∧ (floatBits .add .f64 one64 (up64 c)).isSome = true ∧ (floatBits .mul .f64 w001 (fA .add .f64 one64 (up64 c))).isSome = true ∧ ∃ g, FloatKind.f64.format.order g (fA .mul .f64 w001 (fA .add .f64 one64 (up64 c))) = some .lt ∧ ∀ w, Calls Try.prog 14 #[.float .f64 (up64 c), .float .f64 (fA .add .f64 (up64 x) (up64 m))] w fun e w' => e = .returned (.float .f64 g) ∧ w = w') ∧
    (∃ g, FloatKind.f64.format.order g w001 = some .lt ∧ ∀ w, Calls Try.prog 14 #[.float .f64 (up64 o), .float .f64 0] w fun e w' => e = .returned (.float .f64 g) ∧ w = w') ∧
    ((floatBits .sub .f64 (up64 x) w001).isSome = true ∧ (b = true → FloatKind.f64.format.order (up64 z) (fA .sub .f64 (up64 x) w001) = some .gt))
theorem condD {x m c o z : Nat} {X M C O Z : Rat} (ax : Ap .f32 x X (1 / 15000)) (am : Ap .f32 m M (1 / 14000)) (ac : Ap .f32 c C (1 / 13000)) (ao : Ap .f32 o O (1 / 14000)) (az : Ap .f32 z Z (1 / 15000))
    (X0 : -(1 / 1000000000) ≤ X) (X3 : X ≤ 31 / 10) (M0 : -(1 / 1000000000) ≤ M) (M3 : M ≤ 28) (CE : C = X + M) (O0 : O = 0) (b : Bool) (ZX : b = true → X ≤ Z + 1 / 3000) : CondD x m c o z b := by
  subst CE O0
  obtain ⟨vx, ux⟩ := up_ok ax
  obtain ⟨vm, um⟩ := up_ok am
  obtain ⟨vc, uc⟩ := up_ok ac
  obtain ⟨vo, go, _, go2, go3⟩ := gap0 ao (by decide +kernel) (by decide +kernel)
  obtain ⟨vz, uz⟩ := up_ok az
  obtain ⟨a1, a2⟩ := add64 ux um (av_le (by grind) (by grind)) (by decide +kernel)
  obtain ⟨b1, b2⟩ := add64 one64_ap uc (av_le (by grind) (by grind)) (by decide +kernel)
  have c1 : ulp .f64 ≤ 1 / 1000000000000000 := by decide +kernel
  obtain ⟨d1, d2⟩ := ap_mul (k := .f64) (E := 1 / 1000000) w001_ap b2 (A := 1 / 1000) (B := 40) (by decide +kernel) (av_le (by grind) (by grind)) (by decide +kernel) (by decide +kernel)
  obtain ⟨g, g1, g2, g3⟩ := r8Gap_any uc.1 a2.1 (by
    have h1 := ap_lo uc
    have h2 := ap_hi uc
    have h3 := ap_lo a2
    have h4 := ap_hi a2
    rw [show FloatKind.f64.format = double from rfl] at h1 h2 h3 h4
    exact av_le (by grind) (by grind))
  have hlt : sv double g < sv double (fA .mul .f64 w001 (fA .add .f64 one64 (up64 c))) := by
    have h1 := ap_lo uc
    have h2 := ap_hi uc
    have h3 := ap_lo a2
    have h4 := ap_hi a2
    have h5 := ap_lo d2
    rw [show FloatKind.f64.format = double from rfl] at h1 h2 h3 h4 h5
    have h6 : av (sv double (up64 c) - sv double (fA .add .f64 (up64 x) (up64 m))) ≤ 3 / 10000 := av_le (by grind) (by grind)
    have h7 := le_av (sv double g - av (sv double (up64 c) - sv double (fA .add .f64 (up64 x) (up64 m))))
    grind
  obtain ⟨e1, e2⟩ := sub64 ux w001_ap (av_le (by grind) (by grind)) (by decide +kernel)
  refine ⟨⟨vm, vc, vo⟩, ord_gt_yes um.1 n001_ap.1 (by have := ap_lo um; have := ap_hi n001_ap; grind), ⟨a1, b1, d1, g, ord_lt_yes g1 d2.1 hlt, g3⟩, ⟨go, go2, go3⟩, e1, fun hb => ?_⟩
  have := ZX hb
  exact ord_gt_yes uz.1 e2.1 (by have := ap_lo uz; have := ap_hi e2; grind)

end Go.Proofs.Ytmocfnpbofeiiaa
