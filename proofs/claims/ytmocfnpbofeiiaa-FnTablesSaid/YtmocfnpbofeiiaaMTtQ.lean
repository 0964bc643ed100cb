/- What the law FnTables asks of words near exact numbers (plain, and the absolute differences). -/
import Derived.Test.YtmocfnpbofeiiaaMTbF
import Derived.Test.YtmocfnpbofeiiaaMR8G
import Derived.Test.YtmocfnpbofeiiaaMR8T
import Derived.Test.YtmocfnpbofeiiaaMJrw
namespace Go.Proofs.Ytmocfnpbofeiiaa
set_option linter.unusedSimpArgs false
set_option linter.unusedVariables false
open Go.RowKit
open Ieee
theorem Ix_swap (p : Nat → Nat → Rat) (a m : Nat) : Ix (fun k i => p i k) m a = Ix p a m := by
  rw [Ix_eq, Ix_eq]
  unfold Hr Hc Ht
  rw [sm2_swap (fun i k => p i k * Lb (p i k)) a m]
  grind
theorem up_ok {x : Nat} {v e : Rat} (h : Ap .f32 x v e) : (floatToFloatBits .f32 x .f64).isSome = true ∧ Ap .f64 (up64 x) v e := by
  obtain ⟨a, b, _⟩ := ap_up h
  exact ⟨by rw [a]; rfl, b⟩
theorem add64 {x y : Nat} {v u e d : Rat} (hx : Ap .f64 x v e) (hy : Ap .f64 y u d) (hA : av (v + u) ≤ 90) (hh : e + d ≤ 1) : (floatBits .add .f64 x y).isSome = true ∧ Ap .f64 (fA .add .f64 x y) (v + u) (e + d + 1 / 1000000000000) := by
  have c1 : ulp .f64 ≤ 1 / 1000000000000000 := by decide +kernel
  have c2 : tin .f64 ≤ 1 / 100000000000000000000 := by decide +kernel
  have c0 : 0 ≤ ulp .f64 := by decide +kernel
  have c3 : (1000 : Rat) ≤ huge .f64 := by decide +kernel
  have m2 := Rat.mul_le_mul_of_nonneg_right (show 90 + (e + d) ≤ 91 by grind) c0
  exact ap_add hx hy hA (by grind) (by grind)
theorem sub64 {x y : Nat} {v u e d : Rat} (hx : Ap .f64 x v e) (hy : Ap .f64 y u d) (hA : av (v - u) ≤ 90) (hh : e + d ≤ 1) : (floatBits .sub .f64 x y).isSome = true ∧ Ap .f64 (fA .sub .f64 x y) (v - u) (e + d + 1 / 1000000000000) := by
  have c1 : ulp .f64 ≤ 1 / 1000000000000000 := by decide +kernel
  have c2 : tin .f64 ≤ 1 / 100000000000000000000 := by decide +kernel
  have c0 : 0 ≤ ulp .f64 := by decide +kernel
  have c3 : (1000 : Rat) ≤ huge .f64 := by decide +kernel
  have m2 := Rat.mul_le_mul_of_nonneg_right (show 90 + (e + d) ≤ 91 by grind) c0
  exact ap_sub hx hy hA (by grind) (by grind)
def w001 : Nat := 4562254508917369340
def w002 : Nat := 4566758108544739836
def n001 : Nat := 13785626545772145148
theorem w001_ap : Ap .f64 w001 (1 / 1000) (1 / 1000000000000000) := ⟨by unfold Fnt w001; decide, by decide +kernel⟩
theorem w002_ap : Ap .f64 w002 (2 / 1000) (1 / 1000000000000000) := ⟨by unfold Fnt w002; decide, by decide +kernel⟩
theorem n001_ap : Ap .f64 n001 (-(1 / 1000)) (1 / 1000000000000000) := ⟨by unfold Fnt n001; decide, by decide +kernel⟩
theorem ap_lo {k : FloatKind} {x : Nat} {v e : Rat} (h : Ap k x v e) : v - e ≤ sv k.format x := by have := Rat.le_trans (neg_le_av _) h.2; grind
theorem ap_hi {k : FloatKind} {x : Nat} {v e : Rat} (h : Ap k x v e) : sv k.format x ≤ v + e := by have := Rat.le_trans (le_av _) h.2; grind
theorem not_lt {x y : Nat} {v u e d : Rat} (hx : Ap .f64 x v e) (hy : Ap .f64 y u d) (h : u + d ≤ v - e) : (FloatKind.f64.format.order x y == some .lt) = false :=
  ord_lt_no hx.1 hy.1 (by have := ap_lo hx; have := ap_hi hy; grind)
theorem not_gt {x y : Nat} {v u e d : Rat} (hx : Ap .f64 x v e) (hy : Ap .f64 y u d) (h : v + e ≤ u - d) : (FloatKind.f64.format.order x y == some .gt) = false :=
  ord_gt_no hx.1 hy.1 (by have := ap_hi hx; have := ap_lo hy; grind)
theorem yes_lt {x y : Nat} {v u e d : Rat} (hx : Ap .f64 x v e) (hy : Ap .f64 y u d) (h : v + e < u - d) : FloatKind.f64.format.order x y = some .lt :=
  ord_lt_yes hx.1 hy.1 (by have := ap_hi hx; have := ap_lo hy; grind)
theorem gapNear {X Y L : Nat} {v u e d D l : Rat} (hX : Ap .f64 X v e) (hY : Ap .f64 Y u d) (hD : av (v - u) ≤ D) (hD1 : D + e + d ≤ 99) (hL : Ap .f64 L l (1 / 1000000000000000)) (hl : D + e + d + 1 / 1000000000000 ≤ l) : ∃ g, (FloatKind.f64.format.order g L == some .gt) = false ∧ FloatKind.f64.format.order g L = some .lt ∧ ∀ w, Calls Try.prog 14 #[.float .f64 X, .float .f64 Y] w fun e w' => e = .returned (.float .f64 g) ∧ w = w' := by
  have h1 : av (sv double X - sv double Y) ≤ D + e + d := by
    have a := av_add_le hX.2 (show av (-(sv double Y - u)) ≤ d by rw [av_neg]; exact hY.2)
    have b := av_add_le a hD
    rw [show FloatKind.f64.format = double from rfl] at b
    rw [show sv double X - v + -(sv double Y - u) + (v - u) = sv double X - sv double Y by grind] at b
    grind
  obtain ⟨g, g1, g2, g3⟩ := r8Gap_any hX.1 hY.1 (Rat.le_trans h1 (by grind))
  have g4 := Rat.le_trans (le_av _) g2
  have L0 := ap_lo hL
  rw [show FloatKind.f64.format = double from rfl] at L0
  have hlt : sv double g < sv double L := by grind
  exact ⟨g, ord_gt_no g1 hL.1 (Rat.le_of_lt hlt), ord_lt_yes g1 hL.1 hlt, g3⟩
/-- All that the law compares of one table. -/
theorem table_facts {cs : List Nat} {a m : Nat} (h : Cn cs (a * m)) (a1 : 1 ≤ a) (a2 : a ≤ 4) (m1 : 1 ≤ m) (m2 : m ≤ 4) {cw sw aw xw yw lw : Nat}
    (hcw : cw = cmS (rowK cs) a m (a * m)) (hsw : sw = cmS (turnOf (rowK cs) m a m) m a (m * a)) (haw : aw = entF (rowK cs)) (hxw : xw = entF (partsOf (rowK cs) m a)) (hyw : yw = entF (colsOf (rowK cs) m a)) (hlw : lw = geS (rowK cs) m a) :
    (((floatToFloatBits .f32 cw .f64).isSome = true ∧ (floatToFloatBits .f32 sw .f64).isSome = true ∧ (floatToFloatBits .f32 aw .f64).isSome = true) ∧ (floatToFloatBits .f32 xw .f64).isSome = true ∧ (floatToFloatBits .f32 yw .f64).isSome = true ∧ (floatToFloatBits .f32 lw .f64).isSome = true) ∧
    (FloatKind.f64.format.order (up64 cw) n001 == some .lt) = false ∧
    (∃ g, (FloatKind.f64.format.order g w001 == some .gt) = false ∧ ∀ w, Calls Try.prog 14 #[.float .f64 (up64 cw), .float .f64 (up64 sw)] w fun e w' => e = .returned (.float .f64 g) ∧ w = w') ∧
    ((floatBits .add .f64 (up64 xw) (up64 lw)).isSome = true ∧ ∃ g, (FloatKind.f64.format.order g w002 == some .gt) = false ∧ ∀ w, Calls Try.prog 14 #[.float .f64 (up64 aw), .float .f64 (fA .add .f64 (up64 xw) (up64 lw))] w fun e w' => e = .returned (.float .f64 g) ∧ w = w') ∧
    ((floatBits .add .f64 (up64 xw) (up64 yw)).isSome = true ∧ (floatBits .sub .f64 (fA .add .f64 (up64 xw) (up64 yw)) (up64 aw)).isSome = true ∧ ∃ g, (FloatKind.f64.format.order g w002 == some .gt) = false ∧ ∀ w, Calls Try.prog 14 #[.float .f64 (up64 cw), .float .f64 (fA .sub .f64 (fA .add .f64 (up64 xw) (up64 yw)) (up64 aw))] w fun e w' => e = .returned (.float .f64 g) ∧ w = w') ∧
    ((floatBits .add .f64 (up64 yw) w001).isSome = true ∧ (FloatKind.f64.format.order (up64 lw) (fA .add .f64 (up64 yw) w001) == some .gt) = false) ∧
    (FloatKind.f64.format.order (up64 lw) n001 == some .lt) = false := by
  have n16 : a * m ≤ 16 := Nat.mul_le_mul a2 m2
  obtain ⟨p, T⟩ : ∃ p, Tb (1 / 8000000) (rowK cs) a m p := ⟨_, (h.rw1 (Nat.mul_pos a1 m1) n16).table (a := a) (m := m) a1 (by omega) m1 (by omega)⟩
  have d0 : (0 : Rat) ≤ 1 / 8000000 := by decide +kernel
  have dd : (1 : Rat) / 8000000 ≤ 1 / 2000000 := by decide +kernel
  have de : (0 : Rat) ≤ 1 / 8000000 + 1 / 1000000 := by decide +kernel
  have nr := nat_rat n16
  rw [show ((16 : Nat) : Rat) = 16 from rfl] at nr
  have nra := nat_rat a2
  have nrm := nat_rat m2
  rw [show ((4 : Nat) : Rat) = 4 from rfl] at nra nrm
  obtain ⟨C, Cb⟩ := T.cAp d0 dd (E := 1 / 6000) (by grind)
  obtain ⟨S, _⟩ := T.turn.cAp d0 dd (E := 1 / 6000) (by rw [Nat.mul_comm]; grind)
  rw [Ix_swap] at S
  obtain ⟨A, Ab⟩ := T.tAp d0 dd (E := 1 / 9000) (by grind)
  obtain ⟨_, X, Xb⟩ := (T.parts d0 (by decide +kernel)).ent (E := 1 / 10000) de (by decide +kernel) (by grind)
  obtain ⟨_, Y, Yb⟩ := (T.cols d0 dd).ent (E := 1 / 10000) de (by decide +kernel) (by grind)
  obtain ⟨L, Lbd⟩ := T.gAp d0 dd
  rw [← hcw] at C
  rw [← hsw] at S
  rw [← haw] at A
  rw [← hxw] at X
  rw [← hyw] at Y
  rw [← hlw] at L
  clear hcw hsw haw hxw hyw hlw h
  have nn : ∀ i, i < a → ∀ k, k < m → 0 ≤ p i k := fun i hi k hk => T.nn hi hk
  have E1 := Ht_eq nn T.one
  have E2 := Ix_nonneg nn T.one
  have E3 := Hg_nonneg nn T.one
  have E4 := Ix_eq (p := p) (a := a) (m := m)
  rw [show Hx (fun i => smN (p i) m) a = Hr p a m from rfl] at X Xb
  rw [show Hx (fun k => smN (fun i => p i k) a) m = Hc p a m from rfl] at Y Yb
  clear T nn
  generalize Ix p a m = I at *
  generalize Ht p a m = Hall at *
  generalize Hr p a m = Hrow at *
  generalize Hc p a m = Hcol at *
  generalize Hg p a m = Hgiv at *
  have e1 := Rat.le_trans (le_av _) E1
  have e2 := Rat.le_trans (neg_le_av _) E1
  obtain ⟨vc, uc⟩ := up_ok C
  obtain ⟨vs, us⟩ := up_ok S
  obtain ⟨va, ua⟩ := up_ok A
  obtain ⟨vx, ux⟩ := up_ok X
  obtain ⟨vy, uy⟩ := up_ok Y
  obtain ⟨vl, ul⟩ := up_ok L
  have Sxl := av_add_le Xb Lbd
  have Sxy := av_add_le Xb Yb
  have Sxya := av_sub_le Sxy Ab
  obtain ⟨x1, x2⟩ := add64 ux ul (Rat.le_trans Sxl (by decide +kernel)) (by decide +kernel)
  obtain ⟨y1, y2⟩ := add64 ux uy (Rat.le_trans Sxy (by decide +kernel)) (by decide +kernel)
  obtain ⟨z1, z2⟩ := sub64 y2 ua (Rat.le_trans Sxya (by decide +kernel)) (by decide +kernel)
  obtain ⟨q1, q2⟩ := add64 uy w001_ap (Rat.le_trans (av_add_le Yb (show av (1 / 1000) ≤ 1 by decide +kernel)) (by decide +kernel)) (by decide +kernel)
  obtain ⟨g1, g1a, _, g1b⟩ := gapNear uc us (D := 0) (by rw [show I - I = 0 by grind]; decide +kernel) (by decide +kernel) w001_ap (by decide +kernel)
  obtain ⟨g2, g2a, _, g2b⟩ := gapNear ua x2 (D := 1 / 100000000000000) E1 (by decide +kernel) w002_ap (by decide +kernel)
  obtain ⟨g3, g3a, _, g3b⟩ := gapNear uc z2 (D := 0) (by rw [E4, show Hrow + Hcol - Hall - (Hrow + Hcol - Hall) = 0 by grind]; decide +kernel) (by decide +kernel) w002_ap (by decide +kernel)
  refine ⟨⟨⟨vc, vs, va⟩, vx, vy, vl⟩, not_lt uc n001_ap (by grind), ⟨g1, g1a, g1b⟩, ⟨x1, g2, g2a, g2b⟩, ⟨y1, z1, g3, g3a, g3b⟩, ⟨q1, not_gt ul q2 (by grind)⟩, not_lt ul n001_ap (by grind)⟩

end Go.Proofs.Ytmocfnpbofeiiaa

/- What the law FnTables asks of given rows and of tables of rows that are alone (plain, and the absolute differences). -/
namespace Go.Proofs.Ytmocfnpbofeiiaa
set_option linter.unusedSimpArgs false
set_option linter.unusedVariables false
open Go.RowKit
open Ieee
theorem given_facts {cs : List Nat} {a m i : Nat} (h : Cn cs (a * m)) (a1 : 1 ≤ a) (a2 : a ≤ 4) (m1 : 1 ≤ m) (m2 : m ≤ 4) (hi : i < a) :
    ((partsOf (rowK cs) m a)[i]?.getD 0 = 0 ∧ out_GivenRow (a : Int) (m : Int) (rowK cs) (i : Int) = ([], false)) ∨
    (FloatKind.f32.format.order ((partsOf (rowK cs) m a)[i]?.getD 0) 0 = some .gt ∧ out_GivenRow (a : Int) (m : Int) (rowK cs) (i : Int) = (givenOf (rowK cs) m i, true) ∧ (givenOf (rowK cs) m i).length = m ∧ ∀ k, k < m →
      (floatToFloatBits .f32 ((givenOf (rowK cs) m i)[k]?.getD 0) .f64).isSome = true ∧ (floatToFloatBits .f32 ((partsOf (rowK cs) m a)[i]?.getD 0) .f64).isSome = true ∧ (floatToFloatBits .f32 ((rowK cs)[i * m + k]?.getD 0) .f64).isSome = true ∧
      (floatBits .mul .f64 (up64 ((givenOf (rowK cs) m i)[k]?.getD 0)) (up64 ((partsOf (rowK cs) m a)[i]?.getD 0))).isSome = true ∧
      ∃ g, (FloatKind.f64.format.order g w001 == some .gt) = false ∧ ∀ w, Calls Try.prog 14 #[.float .f64 (fA .mul .f64 (up64 ((givenOf (rowK cs) m i)[k]?.getD 0)) (up64 ((partsOf (rowK cs) m a)[i]?.getD 0))), .float .f64 (up64 ((rowK cs)[i * m + k]?.getD 0))] w fun e w' => e = .returned (.float .f64 g) ∧ w = w') := by
  have n16 : a * m ≤ 16 := Nat.mul_le_mul a2 m2
  obtain ⟨p, T⟩ : ∃ p, Tb (1 / 8000000) (rowK cs) a m p := ⟨_, (h.rw1 (Nat.mul_pos a1 m1) n16).table (a := a) (m := m) a1 (by omega) m1 (by omega)⟩
  have d0 : (0 : Rat) ≤ 1 / 8000000 := by decide +kernel
  have dd : (1 : Rat) / 8000000 ≤ 1 / 2000000 := by decide +kernel
  have P := (T.part d0 (by decide +kernel) hi).1
  have ha : (partsOf (rowK cs) m a)[i]?.getD 0 = fsum (rowOf (rowK cs) m i) := by simp [partsOf, List.getElem?_map, List.getElem?_range hi]
  have hV := T.valid d0 (by decide +kernel)
  have hB : inB (i : Int) 0 ((a : Int) - 1) = true := by unfold inB; simp; omega
  rw [ha]
  by_cases hr : smN (p i) m = 0
  · left
    have h0 := (T.partZ d0 dd hi).2 hr
    refine ⟨h0, outGiv_no ?_⟩
    unfold givOk
    rw [Int.toNat_natCast, Int.toNat_natCast, h0]
    simp
  · right
    obtain ⟨G, _⟩ := T.given d0 dd hi hr
    have hpos := (P.pos (by decide +kernel) hr).1
    have hrow := G.row (by decide +kernel) (by decide +kernel) (by omega)
    refine ⟨order_x0 hpos P.1, ?_, G.len, fun k hk => ?_⟩
    · have e := outGiv_yes (i := (a : Int)) (j := (m : Int)) (xs := rowK cs) (k := (i : Int)) (by
        unfold givOk
        rw [Int.toNat_natCast, Int.toNat_natCast, hV, hB, hrow, decide_eq_true hpos]
        rfl)
      rw [e, Int.toNat_natCast, Int.toNat_natCast]
    · have Q := G.el k hk
      have R := T.el i hi k hk
      have l1 := G.le1 hk
      have l2 := T.part0 hi
      have l3 := T.flat.le1 (i := i * m + k) (by have := row_le (m := m) hi; rw [Nat.add_mul, Nat.one_mul] at this; omega)
      have hgr : p i k / smN (p i) m * smN (p i) m = p i k := Rat.div_mul_cancel hr
      obtain ⟨vg, ug⟩ := up_ok (Q.ap (e := 1 / 300000) (by grind))
      obtain ⟨vp, uq⟩ := up_ok (P.ap (e := 1 / 800000) (by grind))
      obtain ⟨vr, ur⟩ := up_ok (R.ap (e := 1 / 4000000) (by have := R.2.2.2.1; grind))
      obtain ⟨x1, x2⟩ := ap_mul (k := .f64) (E := 1 / 100000) ug uq (A := 1) (B := 1) (by rw [av_of_nonneg l1.1]; exact l1.2) (by rw [av_of_nonneg l2.1]; exact l2.2) (by decide +kernel) (by decide +kernel)
      obtain ⟨g, g1, _, g2⟩ := gapNear x2 ur (D := 0) (by rw [hgr, show p i k - p i k = 0 by grind]; decide +kernel) (by decide +kernel) w001_ap (by decide +kernel)
      exact ⟨vg, vp, vr, x1, g, g1, g2⟩
theorem Ix_alone {p q : Nat → Rat} {a m : Nat} (hp : ∀ i, i < a → 0 ≤ p i) (hq : ∀ k, k < m → 0 ≤ q k) (sp : smN p a = 1) (sq : smN q m = 1) : av (Ix (fun i k => p i * q k) a m) ≤ 1 / 1000000000000000 := by
  have e1 : ∀ i, smN (fun k => p i * q k) m = p i := fun i => by rw [smN_mul, sq, Rat.mul_one]
  have e2 : ∀ k, smN (fun i => p i * q k) a = q k := fun k => by
    rw [show smN (fun i => p i * q k) a = smN (fun i => q k * p i) a from smN_eq a fun i _ => Rat.mul_comm _ _, smN_mul, sp, Rat.mul_one]
  have term : ∀ i, i < a → ∀ k, k < m → av (p i * q k * Cx (fun i k => p i * q k) a m i k) ≤ p i * q k * (1 / 1000000000000000) := by
    intro i hi k hk
    unfold Cx
    rw [e1, e2]
    have hn := Rat.mul_nonneg (hp i hi) (hq k hk)
    by_cases h0 : p i * q k = 0
    · rw [h0, Rat.zero_mul, Rat.zero_mul]; decide +kernel
    · have p0 : p i ≠ 0 := by rintro e; rw [e] at h0; exact h0 (Rat.zero_mul _)
      have q0 : q k ≠ 0 := by rintro e; rw [e] at h0; exact h0 (Rat.mul_zero _)
      have := hp i hi
      have := hq k hk
      exact av_mul_le (by rw [av_of_nonneg hn]; exact Rat.le_refl) (Lb_mul (show 0 < p i by grind) (show 0 < q k by grind))
  have rows : ∀ i, i < a → ∀ t, t ≤ m → av (smN (fun k => p i * q k * Cx (fun i k => p i * q k) a m i k) t) ≤ 1 / 1000000000000000 * smN (fun k => p i * q k) t := by
    intro i hi t
    induction t with
    | zero => intro _; simp only [smN]; decide +kernel
    | succ t ih =>
      intro ht
      simp only [smN]
      refine Rat.le_trans (av_add_le (ih (by omega)) (term i hi t (by omega))) (by grind)
  have all : ∀ t, t ≤ a → av (smN (fun i => smN (fun k => p i * q k * Cx (fun i k => p i * q k) a m i k) m) t) ≤ 1 / 1000000000000000 * smN p t := by
    intro t
    induction t with
    | zero => intro _; simp only [smN]; decide +kernel
    | succ t ih =>
      intro ht
      have r := rows t (by omega) m (Nat.le_refl _)
      rw [e1] at r
      simp only [smN]
      refine Rat.le_trans (av_add_le (ih (by omega)) r) (by grind)
  have A := all a (Nat.le_refl _)
  rw [sp, Rat.mul_one] at A
  exact A
theorem alone_facts {cs ds : List Nat} {a m : Nat} (h : Cn cs a) (k : Cn ds m) (a1 : 1 ≤ a) (a2 : a ≤ 6) (m1 : 1 ≤ m) (m2 : m ≤ 6) :
    (floatToFloatBits .f32 (cmS (kOf (rowK cs) (rowK ds) m a) a m (a * m)) .f64).isSome = true ∧ ∃ g, FloatKind.f64.format.order g w002 = some .lt ∧ ∀ w, Calls Try.prog 14 #[.float .f64 (up64 (cmS (kOf (rowK cs) (rowK ds) m a) a m (a * m))), .float .f64 0] w fun e w' => e = .returned (.float .f64 g) ∧ w = w' := by
  have T := h.join k a1 (by omega) m1 (by omega)
  have hp : ∀ i, i < a → 0 ≤ psC cs i := fun i hi => ((h.rw1 a1 (by omega)).le1 hi).1
  have hq : ∀ i, i < m → 0 ≤ psC ds i := fun i hi => ((k.rw1 m1 (by omega)).le1 hi).1
  have I := Ix_alone hp hq (h.ps_one a1) (k.ps_one m1)
  have nr := nat_rat (show a * m ≤ 36 from Nat.mul_le_mul a2 m2)
  rw [show ((36 : Nat) : Rat) = 36 from rfl] at nr
  obtain ⟨C, _⟩ := T.cAp (by decide +kernel) (by decide +kernel) (E := 1 / 3600) (by grind)
  obtain ⟨vc, uc⟩ := up_ok C
  have z : Ap .f64 0 0 0 := Ap.ex (k := .f64) (x := 0) (show Fnt double 0 by unfold Fnt; decide) (show sv double 0 = 0 by decide +kernel)
  obtain ⟨g, _, g1, g2⟩ := gapNear uc z (D := 1 / 1000000000000000) (by rw [show ∀ v : Rat, v - 0 = v from fun v => by grind]; exact I) (by decide +kernel) w002_ap (by decide +kernel)
  exact ⟨vc, g, g1, g2⟩

end Go.Proofs.Ytmocfnpbofeiiaa
