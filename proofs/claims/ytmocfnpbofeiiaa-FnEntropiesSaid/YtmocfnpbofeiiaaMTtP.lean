/- Absolute differences of double words, and what is asked of them. Plain: no program. -/
import Derived.Test.YtmocfnpbofeiiaaMSu32
import Derived.Test.YtmocfnpbofeiiaaMCod
import Derived.Test.YtmocfnpbofeiiaaMTbF
import Derived.Test.YtmocfnpbofeiiaaMR8T
namespace Go.Proofs.Ytmocfnpbofeiiaa
set_option linter.unusedSimpArgs false
set_option linter.unusedVariables false
open Ieee
/-- The absolute difference of two double words. -/
def gpW (x y : Nat) : Nat := if FloatKind.f64.format.order x y = some .lt then fA .sub .f64 y x else fA .sub .f64 x y
def gpOk (x y : Nat) : Bool := (FloatKind.f64.format.order x y).isSome && (floatBits .sub .f64 y x).isSome && (floatBits .sub .f64 x y).isSome
def leOk (x y : Nat) : Bool := FloatKind.f64.format.order x y == some .lt || FloatKind.f64.format.order x y == some .eq
def cvOk (x : Nat) : Bool := (floatToFloatBits .f32 x .f64).isSome
theorem up_runG (x : Nat) (h : (floatToFloatBits .f32 x .f64).isSome = true) : floatToFloatBits .f32 x .f64 = some (up64 x) := by
  unfold up64; revert h; cases floatToFloatBits .f32 x .f64 <;> simp
theorem leOk_some {x y : Nat} (h : leOk x y = true) : FloatKind.f64.format.order x y = some .lt ∨ FloatKind.f64.format.order x y = some .eq := by
  unfold leOk at h
  simpa [Bool.or_eq_true, beq_iff_eq] using h
section
variable {k : FloatKind} {x y : Nat} (hx : Fnt k.format x) (hy : Fnt k.format y)
include hx hy
theorem ord_lt_no (h : sv k.format y ≤ sv k.format x) : (k.format.order x y == some .lt) = false := by
  have := (order_fin hx hy).1
  rw [beq_eq_false_iff_ne]
  intro hc
  have := this.1 hc
  grind
theorem ord_gt_no (h : sv k.format x ≤ sv k.format y) : (k.format.order x y == some .gt) = false := by
  have := (order_fin hx hy).2.2
  rw [beq_eq_false_iff_ne]
  intro hc
  have := this.1 hc
  grind
theorem ord_lt_yes (h : sv k.format x < sv k.format y) : k.format.order x y = some .lt := (order_fin hx hy).1.2 h
theorem ord_gt_yes (h : sv k.format y < sv k.format x) : k.format.order x y = some .gt := (order_fin hx hy).2.2.2 h
theorem ord_eq_yes (h : sv k.format x = sv k.format y) : k.format.order x y = some .eq := (order_fin hx hy).2.1.2 h
theorem ord_ge_or (h : sv k.format y ≤ sv k.format x) : k.format.order x y = some .gt ∨ k.format.order x y = some .eq := by
  by_cases h1 : sv k.format y < sv k.format x
  · exact .inl (ord_gt_yes hx hy h1)
  · exact .inr (ord_eq_yes hx hy (by grind))
theorem ord_le_or (h : sv k.format x ≤ sv k.format y) : k.format.order x y = some .lt ∨ k.format.order x y = some .eq := by
  by_cases h1 : sv k.format x < sv k.format y
  · exact .inl (ord_lt_yes hx hy h1)
  · exact .inr (ord_eq_yes hx hy (by grind))
end
/-- An absolute difference of doubles is near the exact one. -/
theorem gp_near {x y : Nat} (hx : Fnt double x) (hy : Fnt double y) (h : av (sv double x - sv double y) ≤ 100) : gpOk x y = true ∧ Fnt double (gpW x y) ∧ av (sv double (gpW x y) - av (sv double x - sv double y)) ≤ 1 / 10000000000000 := by
  have ax : Ap .f64 x (sv double x) 0 := Ap.self (k := .f64) hx
  have ay : Ap .f64 y (sv double y) 0 := Ap.self (k := .f64) hy
  have h' : av (sv double y - sv double x) ≤ 100 := by rw [show sv double y - sv double x = -(sv double x - sv double y) by grind, av_neg]; exact h
  obtain ⟨a1, a2⟩ := ap_sub (k := .f64) (E := 1 / 10000000000000) ax ay (A := 100) h (by decide +kernel) (by decide +kernel)
  obtain ⟨b1, b2⟩ := ap_sub (k := .f64) (E := 1 / 10000000000000) ay ax (A := 100) h' (by decide +kernel) (by decide +kernel)
  obtain ⟨o1, o2, o3⟩ := order_fin hx hy
  have ho : (FloatKind.f64.format.order x y).isSome = true := by
    show (double.order x y).isSome = true
    by_cases c1 : sv double x < sv double y
    · rw [o1.2 c1]; rfl
    · by_cases c2 : sv double x = sv double y
      · rw [o2.2 c2]; rfl
      · rw [o3.2 (by grind)]; rfl
  refine ⟨by unfold gpOk; rw [ho, b1, a1]; rfl, ?_⟩
  unfold gpW
  split
  · rename_i hlt
    have hlt : sv double x < sv double y := o1.1 hlt
    refine ⟨b2.1, ?_⟩
    have : av (sv double x - sv double y) = sv double y - sv double x := by
      rw [show sv double x - sv double y = -(sv double y - sv double x) by grind, av_neg, av_of_nonneg (by grind)]
    rw [this]
    exact b2.2
  · rename_i hge
    have hge : sv double y ≤ sv double x := by
      by_cases c : sv double y ≤ sv double x
      · exact c
      · exact absurd (o1.2 (by grind)) hge
    refine ⟨a2.1, ?_⟩
    rw [show av (sv double x - sv double y) = sv double x - sv double y from av_of_nonneg (by clear o1 o2 o3; grind)]
    exact a2.2

end Go.Proofs.Ytmocfnpbofeiiaa

/- Absolute differences by max (r8Gap). -/
namespace Go.Proofs.Ytmocfnpbofeiiaa
set_option linter.unusedSimpArgs false
set_option linter.unusedVariables false
open Go.RowKit
open Ieee
theorem run_max {x y : Nat} (hx : Fnt double x) (hy : Fnt double y) : ∃ r, (r = x ∨ r = y) ∧ sv double x ≤ sv double r ∧ sv double y ≤ sv double r ∧ ∀ (ats : Array TypeId) (t : TypeId) (W : World), (Builtin.max_ ats t #[.float .f64 x, .float .f64 y]).run Try.prog W = .ok (.float .f64 r) W := by
  obtain ⟨o1, o2, o3⟩ := order_fin hx hy
  by_cases h1 : sv double x < sv double y
  · have ho : FloatKind.f64.format.order x y = some .lt := o1.2 h1
    exact ⟨y, .inr rfl, Rat.le_of_lt h1, Rat.le_refl, fun ats t W => by simp [Builtin.max_, Builtin.max2, ho]⟩
  · by_cases h2 : sv double x = sv double y
    · have ho : FloatKind.f64.format.order x y = some .eq := o2.2 h2
      cases hn : (FloatKind.f64.decode x).neg
      · exact ⟨x, .inl rfl, Rat.le_refl, by rw [h2]; exact Rat.le_refl, fun ats t W => by simp [Builtin.max_, Builtin.max2, ho, hn]⟩
      · exact ⟨y, .inr rfl, by rw [h2]; exact Rat.le_refl, Rat.le_refl, fun ats t W => by simp [Builtin.max_, Builtin.max2, ho, hn]⟩
    · have ho : FloatKind.f64.format.order x y = some .gt := o3.2 (by grind)
      exact ⟨x, .inl rfl, Rat.le_refl, by grind, fun ats t W => by simp [Builtin.max_, Builtin.max2, ho]⟩

set_option maxHeartbeats 1000000 in
theorem r8Gap_any {x y : Nat} (hx : Fnt double x) (hy : Fnt double y) (h : av (sv double x - sv double y) ≤ 100) : ∃ r, Fnt double r ∧ av (sv double r - av (sv double x - sv double y)) ≤ 1 / 10000000000000 ∧ ∀ w, Calls Try.prog 14 #[.float .f64 x, .float .f64 y] w fun e w' => e = .returned (.float .f64 r) ∧ w = w' := by
  have ax : Ap .f64 x (sv double x) 0 := Ap.self (k := .f64) hx
  have ay : Ap .f64 y (sv double y) 0 := Ap.self (k := .f64) hy
  have h' : av (sv double y - sv double x) ≤ 100 := by rw [show sv double y - sv double x = -(sv double x - sv double y) by grind, av_neg]; exact h
  obtain ⟨a1, a2⟩ := ap_sub (k := .f64) (E := 1 / 10000000000000) ax ay (A := 100) h (by decide +kernel) (by decide +kernel)
  obtain ⟨b1, b2⟩ := ap_sub (k := .f64) (E := 1 / 10000000000000) ay ax (A := 100) h' (by decide +kernel) (by decide +kernel)
  obtain ⟨r, r1, r2, r3, r4⟩ := run_max a2.1 b2.1
  refine ⟨r, ?_, ?_, fun w => ?_⟩
  · rcases r1 with rfl | rfl
    · exact a2.1
    · exact b2.1
  · have p1 := Rat.le_trans (le_av _) a2.2
    have p2 := Rat.le_trans (neg_le_av _) a2.2
    have q1 := Rat.le_trans (le_av _) b2.2
    have q2 := Rat.le_trans (neg_le_av _) b2.2
    rw [show FloatKind.f64.format = double from rfl] at p1 p2 q1 q2
    have hr : sv double r ≤ sv double (fA .sub .f64 x y) ∨ sv double r ≤ sv double (fA .sub .f64 y x) := by
      rcases r1 with rfl | rfl
      · exact .inl Rat.le_refl
      · exact .inr Rat.le_refl
    have e : (av (sv double x - sv double y) = sv double x - sv double y ∧ sv double y ≤ sv double x) ∨ (av (sv double x - sv double y) = sv double y - sv double x ∧ sv double x ≤ sv double y) := by
      by_cases hc : sv double y ≤ sv double x
      · exact .inl ⟨av_of_nonneg (by grind), hc⟩
      · right
        refine ⟨?_, by grind⟩
        rw [show sv double x - sv double y = -(sv double y - sv double x) by grind, av_neg, av_of_nonneg (by grind)]
    clear a2 b2 ax ay h h' r1 r4 a1 b1
    generalize sv double (fA .sub .f64 x y) = s at *
    generalize sv double (fA .sub .f64 y x) = t at *
    generalize sv double r = u at *
    generalize sv double x = a at *
    generalize sv double y = b at *
    rcases e with ⟨e, e'⟩ | ⟨e, e'⟩
    · rw [e]; exact av_le (by grind) (by grind)
    · rw [e]; exact av_le (by grind) (by grind)
  · clear a2 b2 ax ay h h' r1 r2 r3 hx hy
    go_enter Try.func14, Try.ntmps14
    go_wp2
    go_ret
    exact ⟨rfl, rfl⟩

end Go.Proofs.Ytmocfnpbofeiiaa

/- What the law FnTables asks of words near exact numbers (plain, and the absolute differences). -/
namespace Go.Proofs.Ytmocfnpbofeiiaa
set_option linter.unusedSimpArgs false
set_option linter.unusedVariables false
open Go.RowKit
open Ieee
theorem Ix_swap (p : Nat → Nat → Rat) (a m : Nat) : Ix (fun k i => p i k) m a = Ix p a m := by
  rw [Ix_eq, Ix_eq]
  unfold Hr Hc Ht
  rw [sm2_swap (fun i k => p i k * Lb (p i k)) a m]
  grind
theorem up_ok {x : Nat} {v e : Rat} (h : Ap .f32 x v e) : (floatToFloatBits .f32 x .f64).isSome = true ∧ Ap .f64 (up64 x) v e := by
  obtain ⟨a, b, _⟩ := ap_up h
  exact ⟨by rw [a]; rfl, b⟩
theorem add64 {x y : Nat} {v u e d : Rat} (hx : Ap .f64 x v e) (hy : Ap .f64 y u d) (hA : av (v + u) ≤ 90) (hh : e + d ≤ 1) : (floatBits .add .f64 x y).isSome = true ∧ Ap .f64 (fA .add .f64 x y) (v + u) (e + d + 1 / 1000000000000) := by
  have c1 : ulp .f64 ≤ 1 / 1000000000000000 := by decide +kernel
  have c2 : tin .f64 ≤ 1 / 100000000000000000000 := by decide +kernel
  have c0 : 0 ≤ ulp .f64 := by decide +kernel
  have c3 : (1000 : Rat) ≤ huge .f64 := by decide +kernel
  have m2 := Rat.mul_le_mul_of_nonneg_right (show 90 + (e + d) ≤ 91 by grind) c0
  exact ap_add hx hy hA (by grind) (by grind)
theorem sub64 {x y : Nat} {v u e d : Rat} (hx : Ap .f64 x v e) (hy : Ap .f64 y u d) (hA : av (v - u) ≤ 90) (hh : e + d ≤ 1) : (floatBits .sub .f64 x y).isSome = true ∧ Ap .f64 (fA .sub .f64 x y) (v - u) (e + d + 1 / 1000000000000) := by
  have c1 : ulp .f64 ≤ 1 / 1000000000000000 := by decide +kernel
  have c2 : tin .f64 ≤ 1 / 100000000000000000000 := by decide +kernel
  have c0 : 0 ≤ ulp .f64 := by decide +kernel
  have c3 : (1000 : Rat) ≤ huge .f64 := by decide +kernel
  have m2 := Rat.mul_le_mul_of_nonneg_right (show 90 + (e + d) ≤ 91 by grind) c0
  exact ap_sub hx hy hA (by grind) (by grind)
def w001 : Nat := 4562254508917369340
def w002 : Nat := 4566758108544739836
def n001 : Nat := 13785626545772145148
theorem w001_ap : Ap .f64 w001 (1 / 1000) (1 / 1000000000000000) := ⟨by unfold Fnt w001; decide, by decide +kernel⟩
theorem w002_ap : Ap .f64 w002 (2 / 1000) (1 / 1000000000000000) := ⟨by unfold Fnt w002; decide, by decide +kernel⟩
theorem n001_ap : Ap .f64 n001 (-(1 / 1000)) (1 / 1000000000000000) := ⟨by unfold Fnt n001; decide, by decide +kernel⟩
theorem ap_lo {k : FloatKind} {x : Nat} {v e : Rat} (h : Ap k x v e) : v - e ≤ sv k.format x := by have := Rat.le_trans (neg_le_av _) h.2; grind
theorem ap_hi {k : FloatKind} {x : Nat} {v e : Rat} (h : Ap k x v e) : sv k.format x ≤ v + e := by have := Rat.le_trans (le_av _) h.2; grind
theorem not_lt {x y : Nat} {v u e d : Rat} (hx : Ap .f64 x v e) (hy : Ap .f64 y u d) (h : u + d ≤ v - e) : (FloatKind.f64.format.order x y == some .lt) = false :=
  ord_lt_no hx.1 hy.1 (by have := ap_lo hx; have := ap_hi hy; grind)
theorem not_gt {x y : Nat} {v u e d : Rat} (hx : Ap .f64 x v e) (hy : Ap .f64 y u d) (h : v + e ≤ u - d) : (FloatKind.f64.format.order x y == some .gt) = false :=
  ord_gt_no hx.1 hy.1 (by have := ap_hi hx; have := ap_lo hy; grind)
theorem yes_lt {x y : Nat} {v u e d : Rat} (hx : Ap .f64 x v e) (hy : Ap .f64 y u d) (h : v + e < u - d) : FloatKind.f64.format.order x y = some .lt :=
  ord_lt_yes hx.1 hy.1 (by have := ap_hi hx; have := ap_lo hy; grind)
theorem gapNear {X Y L : Nat} {v u e d D l : Rat} (hX : Ap .f64 X v e) (hY : Ap .f64 Y u d) (hD : av (v - u) ≤ D) (hD1 : D + e + d ≤ 99) (hL : Ap .f64 L l (1 / 1000000000000000)) (hl : D + e + d + 1 / 1000000000000 ≤ l) : ∃ g, (FloatKind.f64.format.order g L == some .gt) = false ∧ FloatKind.f64.format.order g L = some .lt ∧ ∀ w, Calls Try.prog 14 #[.float .f64 X, .float .f64 Y] w fun e w' => e = .returned (.float .f64 g) ∧ w = w' := by
  have h1 : av (sv double X - sv double Y) ≤ D + e + d := by
    have a := av_add_le hX.2 (show av (-(sv double Y - u)) ≤ d by rw [av_neg]; exact hY.2)
    have b := av_add_le a hD
    rw [show FloatKind.f64.format = double from rfl] at b
    rw [show sv double X - v + -(sv double Y - u) + (v - u) = sv double X - sv double Y by grind] at b
    grind
  obtain ⟨g, g1, g2, g3⟩ := r8Gap_any hX.1 hY.1 (Rat.le_trans h1 (by grind))
  have g4 := Rat.le_trans (le_av _) g2
  have L0 := ap_lo hL
  rw [show FloatKind.f64.format = double from rfl] at L0
  have hlt : sv double g < sv double L := by grind
  exact ⟨g, ord_gt_no g1 hL.1 (Rat.le_of_lt hlt), ord_lt_yes g1 hL.1 hlt, g3⟩
/-- All that the law compares of one table. -/
theorem table_facts {cs : List Nat} {a m : Nat} (h : Cn cs (a * m)) (a1 : 1 ≤ a) (a2 : a ≤ 4) (m1 : 1 ≤ m) (m2 : m ≤ 4) {cw sw aw xw yw lw : Nat}
    (hcw : cw = cmS (rowK cs) a m (a * m)) (hsw : sw = cmS (turnOf (rowK cs) m a m) m a (m * a)) (haw : aw = entF (rowK cs)) (hxw : xw = entF (partsOf (rowK cs) m a)) (hyw : yw = entF (colsOf (rowK cs) m a)) (hlw : lw = geS (rowK cs) m a) :
    (((floatToFloatBits .f32 cw .f64).isSome = true ∧ (floatToFloatBits .f32 sw .f64).isSome = true ∧ (floatToFloatBits .f32 aw .f64).isSome = true) ∧ (floatToFloatBits .f32 xw .f64).isSome = true ∧ (floatToFloatBits .f32 yw .f64).isSome = true ∧ (floatToFloatBits .f32 lw .f64).isSome = true) ∧
    (FloatKind.f64.format.order (up64 cw) n001 == some .lt) = false ∧
    (∃ g, (FloatKind.f64.format.order g w001 == some .gt) = false ∧ ∀ w, Calls Try.prog 14 #[.float .f64 (up64 cw), .float .f64 (up64 sw)] w fun e w' => e = .returned (.float .f64 g) ∧ w = w') ∧
    ((floatBits .add .f64 (up64 xw) (up64 lw)).isSome = true ∧ ∃ g, (FloatKind.f64.format.order g w002 == some .gt) = false ∧ ∀ w, Calls Try.prog 14 #[.float .f64 (up64 aw), .float .f64 (fA .add .f64 (up64 xw) (up64 lw))] w fun e w' => e = .returned (.float .f64 g) ∧ w = w') ∧
    ((floatBits .add .f64 (up64 xw) (up64 yw)).isSome = true ∧ (floatBits .sub .f64 (fA .add .f64 (up64 xw) (up64 yw)) (up64 aw)).isSome = true ∧ ∃ g, (FloatKind.f64.format.order g w002 == some .gt) = false ∧ ∀ w, Calls Try.prog 14 #[.float .f64 (up64 cw), .float .f64 (fA .sub .f64 (fA .add .f64 (up64 xw) (up64 yw)) (up64 aw))] w fun e w' => e = .returned (.float .f64 g) ∧ w = w') ∧
    ((floatBits .add .f64 (up64 yw) w001).isSome = true ∧ (FloatKind.f64.format.order (up64 lw) (fA .add .f64 (up64 yw) w001) == some .gt) = false) ∧
    (FloatKind.f64.format.order (up64 lw) n001 == some .lt) = false := by
  have n16 : a * m ≤ 16 := Nat.mul_le_mul a2 m2
  obtain ⟨p, T⟩ : ∃ p, Tb (1 / 8000000) (rowK cs) a m p := ⟨_, (h.rw1 (Nat.mul_pos a1 m1) n16).table (a := a) (m := m) a1 (by omega) m1 (by omega)⟩
  have d0 : (0 : Rat) ≤ 1 / 8000000 := by decide +kernel
  have dd : (1 : Rat) / 8000000 ≤ 1 / 2000000 := by decide +kernel
  have de : (0 : Rat) ≤ 1 / 8000000 + 1 / 1000000 := by decide +kernel
  have nr := nat_rat n16
  rw [show ((16 : Nat) : Rat) = 16 from rfl] at nr
  have nra := nat_rat a2
  have nrm := nat_rat m2
  rw [show ((4 : Nat) : Rat) = 4 from rfl] at nra nrm
  obtain ⟨C, Cb⟩ := T.cAp d0 dd (E := 1 / 6000) (by grind)
  obtain ⟨S, _⟩ := T.turn.cAp d0 dd (E := 1 / 6000) (by rw [Nat.mul_comm]; grind)
  rw [Ix_swap] at S
  obtain ⟨A, Ab⟩ := T.tAp d0 dd (E := 1 / 9000) (by grind)
  obtain ⟨_, X, Xb⟩ := (T.parts d0 (by decide +kernel)).ent (E := 1 / 10000) de (by decide +kernel) (by grind)
  obtain ⟨_, Y, Yb⟩ := (T.cols d0 dd).ent (E := 1 / 10000) de (by decide +kernel) (by grind)
  obtain ⟨L, Lbd⟩ := T.gAp d0 dd
  rw [← hcw] at C
  rw [← hsw] at S
  rw [← haw] at A
  rw [← hxw] at X
  rw [← hyw] at Y
  rw [← hlw] at L
  clear hcw hsw haw hxw hyw hlw h
  have nn : ∀ i, i < a → ∀ k, k < m → 0 ≤ p i k := fun i hi k hk => T.nn hi hk
  have E1 := Ht_eq nn T.one
  have E2 := Ix_nonneg nn T.one
  have E3 := Hg_nonneg nn T.one
  have E4 := Ix_eq (p := p) (a := a) (m := m)
  rw [show Hx (fun i => smN (p i) m) a = Hr p a m from rfl] at X Xb
  rw [show Hx (fun k => smN (fun i => p i k) a) m = Hc p a m from rfl] at Y Yb
  clear T nn
  generalize Ix p a m = I at *
  generalize Ht p a m = Hall at *
  generalize Hr p a m = Hrow at *
  generalize Hc p a m = Hcol at *
  generalize Hg p a m = Hgiv at *
  have e1 := Rat.le_trans (le_av _) E1
  have e2 := Rat.le_trans (neg_le_av _) E1
  obtain ⟨vc, uc⟩ := up_ok C
  obtain ⟨vs, us⟩ := up_ok S
  obtain ⟨va, ua⟩ := up_ok A
  obtain ⟨vx, ux⟩ := up_ok X
  obtain ⟨vy, uy⟩ := up_ok Y
  obtain ⟨vl, ul⟩ := up_ok L
  have Sxl := av_add_le Xb Lbd
  have Sxy := av_add_le Xb Yb
  have Sxya := av_sub_le Sxy Ab
  obtain ⟨x1, x2⟩ := add64 ux ul (Rat.le_trans Sxl (by decide +kernel)) (by decide +kernel)
  obtain ⟨y1, y2⟩ := add64 ux uy (Rat.le_trans Sxy (by decide +kernel)) (by decide +kernel)
  obtain ⟨z1, z2⟩ := sub64 y2 ua (Rat.le_trans Sxya (by decide +kernel)) (by decide +kernel)
  obtain ⟨q1, q2⟩ := add64 uy w001_ap (Rat.le_trans (av_add_le Yb (show av (1 / 1000) ≤ 1 by decide +kernel)) (by decide +kernel)) (by decide +kernel)
  obtain ⟨g1, g1a, _, g1b⟩ := gapNear uc us (D := 0) (by rw [show I - I = 0 by grind]; decide +kernel) (by decide +kernel) w001_ap (by decide +kernel)
  obtain ⟨g2, g2a, _, g2b⟩ := gapNear ua x2 (D := 1 / 100000000000000) E1 (by decide +kernel) w002_ap (by decide +kernel)
  obtain ⟨g3, g3a, _, g3b⟩ := gapNear uc z2 (D := 0) (by rw [E4, show Hrow + Hcol - Hall - (Hrow + Hcol - Hall) = 0 by grind]; decide +kernel) (by decide +kernel) w002_ap (by decide +kernel)
  refine ⟨⟨⟨vc, vs, va⟩, vx, vy, vl⟩, not_lt uc n001_ap (by grind), ⟨g1, g1a, g1b⟩, ⟨x1, g2, g2a, g2b⟩, ⟨y1, z1, g3, g3a, g3b⟩, ⟨q1, not_gt ul q2 (by grind)⟩, not_lt ul n001_ap (by grind)⟩

end Go.Proofs.Ytmocfnpbofeiiaa
