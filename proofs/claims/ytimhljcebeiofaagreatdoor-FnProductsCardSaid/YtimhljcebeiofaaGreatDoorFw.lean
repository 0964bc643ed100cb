/- Floats by their words: which operations give a number, and how its word stands to those of the operands. Plain: no program. -/
import Derived.Test.YtimhljcebeiofaaGreatDoorFp
namespace Go.Proofs.YtimhljcebeiofaaGreatDoor
set_option linter.unusedSimpArgs false
set_option linter.unusedVariables false
open Ieee

/-- What an operation on floats gives where it gives a number. -/
def fA (op : BinOp) (k : FloatKind) (x y : Nat) : Nat := (floatBits op k x y).getD 0
theorem fA_of {op : BinOp} {k : FloatKind} {x y r : Nat} (h : floatBits op k x y = some r) : (floatBits op k x y).isSome = true ∧ fA op k x y = r := by
  unfold fA; rw [h]; exact ⟨rfl, rfl⟩
theorem fA_some {op : BinOp} {k : FloatKind} {x y : Nat} (h : (floatBits op k x y).isSome = true) : floatBits op k x y = some (fA op k x y) := by
  obtain ⟨r, hr⟩ := Option.isSome_iff_exists.1 h
  rw [hr, (fA_of hr).2]
theorem fA_wf {op : BinOp} {k : FloatKind} {x y : Nat} (h : (floatBits op k x y).isSome = true) : (Lit.float k (fA op k x y)).wf = true := floatBits_wf (fA_some h)

section
variable {P : Program} (w : World)
theorem run_fA (op : BinOp) (t : TypeId) (k : FloatKind) (x y : Nat) (h : (floatBits op k x y).isSome = true) : (binOp op t (.float k x) (.float k y)).run P w = .ok (.float k (fA op k x y)) w :=
  run_float_arith w op t k x y _ (fA_some h)
end
theorem unary_neg_float (k : FloatKind) (b : Nat) : Op.unary .neg (.float k b) = pure (.float k (Op.negFloat k b)) := rfl
attribute [go_sem] run_fA unary_neg_float

theorem s_inf : single.infRung = 2139095040 := by decide
theorem s_sw : single.signWeight = 2147483648 := by decide
theorem s_hf : 1 ≤ single.fractionBits := by decide
theorem s_he : 1 ≤ single.exponentBits := by decide
theorem d_inf : double.infRung = 9218868437227405312 := by decide
theorem d_sw : double.signWeight = 9223372036854775808 := by decide
theorem d_hf : 1 ≤ double.fractionBits := by decide
theorem d_he : 1 ≤ double.exponentBits := by decide

/-- A word that is no NaN, at least zero, either zero; and a finite one. -/
def Pn (x : Nat) : Prop := x ≤ 2139095040 ∨ x = 2147483648
def Ch (x : Nat) : Prop := x < 2139095040 ∨ x = 2147483648
theorem Ch.pn {x : Nat} (h : Ch x) : Pn x := by rcases h with h | h; exact .inl (by omega); exact .inr h
theorem rgs (x : Nat) : rg single x = x % 2147483648 := rfl
theorem Ch.fnt {x : Nat} (h : Ch x) : Fnt single x := by unfold Fnt; rw [s_inf, rgs]; unfold Ch at h; omega
theorem Ch.sv {x : Nat} (h : Ch x) : sv single x = rv single (x % 2147483648) := by
  rcases h with h | h
  · rw [sv_of_le single (by rw [s_inf]; omega)]; congr 1; omega
  · subst h
    have : rg single 2147483648 = 0 := by decide
    unfold Proofs.YtimhljcebeiofaaGreatDoor.sv; rw [this, rv_zero]; simp [rv_zero]
theorem Ch.nonneg {x : Nat} (h : Ch x) : 0 ≤ Proofs.YtimhljcebeiofaaGreatDoor.sv single x := by rw [h.sv]; exact rv_nonneg _ _
theorem Ch.sgz {x : Nat} (h : Ch x) : x % 2147483648 = 0 ∨ sg single x = false := by
  rcases h with h | h
  · exact .inr (sg_of_le single (by rw [s_inf]; omega))
  · exact .inl (by omega)
theorem Pn.cases {x : Nat} (h : Pn x) : Ch x ∨ x = 2139095040 := by
  unfold Pn at h; unfold Ch; omega
theorem read_s_inf : single.read 2139095040 = .infinity false := by decide
theorem write_s_inf : single.write (.infinity false) = 2139095040 := by decide
theorem Ch.read {x : Nat} (h : Ch x) : ∃ s m p, single.read x = .number s m p := by
  obtain ⟨m, p, h1, _⟩ := read_fin single x h.fnt
  exact ⟨_, m, p, h1⟩

/-- A chance is added to a sum. -/
theorem add_pn {s x : Nat} (hs : s ≤ 2139095040) (hx : Pn x) : (floatBits .add .f32 s x).isSome = true ∧ fA .add .f32 s x ≤ 2139095040 ∧ s ≤ fA .add .f32 s x ∧ x % 2147483648 ≤ fA .add .f32 s x := by
  by_cases h : s = 2139095040
  · subst h
    have : floatBits .add .f32 2139095040 x = some 2139095040 := by
      show single.add 2139095040 x = _
      unfold Format.add
      rw [read_s_inf]
      rcases hx.cases with hc | hc
      · obtain ⟨t, m, p, hr⟩ := hc.read
        rw [hr]; simp only [Datum.sum, Option.map_some, write_s_inf]
      · subst hc; rw [read_s_inf]; simp only [Datum.sum, if_true, Option.map_some, write_s_inf]
    obtain ⟨h1, h2⟩ := fA_of this
    unfold Pn at hx
    rw [h2]; exact ⟨h1, by omega, by omega, by omega⟩
  · have hcs : Ch s := .inl (by omega)
    rcases hx.cases with hc | hc
    · obtain ⟨w, h1, h2, h3⟩ := add_spec s_hf hcs.fnt hc.fnt
      have n1 := hcs.nonneg
      have n2 := hc.nonneg
      obtain ⟨k1, k2⟩ := fA_of (op := .add) (k := .f32) h1
      rw [k2]
      refine ⟨k1, ?_⟩
      have e1 := hcs.sv
      rw [Nat.mod_eq_of_lt (by omega)] at e1
      have e2 := hc.sv
      by_cases h0 : sv single s + sv single x = 0
      · rw [h3 h0, sg_of_le single (by rw [s_inf]; omega), Bool.false_and]
        have a1 : rv single s = rv single 0 := by rw [rv_zero, ← e1]; grind
        have a2 : rv single (x % 2147483648) = rv single 0 := by rw [rv_zero, ← e2]; grind
        have b1 := rv_inj _ a1
        have b2 := rv_inj _ a2
        show 0 ≤ 2139095040 ∧ s ≤ 0 ∧ _ ≤ 0
        omega
      · have hp : 0 < sv single s + sv single x := by grind
        have hw := h2.pos hp
        rw [s_inf] at hw
        have hr : rg single w = w := rg_of_le single (by rw [s_inf]; exact hw)
        have ha := av_of_nonneg (Rat.le_of_lt hp)
        have g1 := h2.ge (K := s) (by rw [s_inf]; omega) (by rw [ha, ← e1]; grind)
        have g2 := h2.ge (K := x % 2147483648) (by rw [s_inf]; unfold Pn at hx; omega) (by rw [ha, ← e2]; grind)
        rw [hr] at g1 g2
        exact ⟨hw, g1, g2⟩
    · subst hc
      have : floatBits .add .f32 s 2139095040 = some 2139095040 := by
        show single.add s 2139095040 = _
        unfold Format.add
        obtain ⟨t, m, p, hr⟩ := hcs.read
        rw [read_s_inf, hr]; simp only [Datum.sum, Option.map_some, write_s_inf]
      obtain ⟨h1, h2⟩ := fA_of this
      rw [h2]; exact ⟨h1, by omega, by omega, by omega⟩

theorem xor_zero_word {x y q : Nat} (hx : Ch x) (hy : Ch y) (hq : Near single (rv single (rg single x) * rv single (rg single y)) q) : Pn (single.word (sg single x ^^ sg single y) (min q single.infRung)) := by
  have hz : ∀ a b : Nat, a % 2147483648 = 0 ∨ b % 2147483648 = 0 → Near single (rv single (rg single a) * rv single (rg single b)) q → q = 0 := by
    intro a b h hn
    have : rv single (rg single a) * rv single (rg single b) = rv single 0 := by
      rw [rv_zero, rgs, rgs]
      rcases h with h | h
      · rw [h, rv_zero, Rat.zero_mul]
      · rw [h, rv_zero, Rat.mul_zero]
    rw [this] at hn
    exact hn.uniq (Near.exact _ _)
  have word_true0 : single.word true 0 = 2147483648 := by decide
  have pnz : ∀ s, Pn (single.word s (min 0 single.infRung)) := by
    intro s; cases s
    · exact .inl (by decide)
    · exact .inr (by decide)
  rcases hx.sgz with h | h
  · rw [hz x y (.inl h) hq]; exact pnz _
  · rcases hy.sgz with h' | h'
    · rw [hz x y (.inr h') hq]; exact pnz _
    · rw [h, h']; exact .inl (by rw [s_inf]; exact Nat.min_le_right ..)

/-- The product of two chances. -/
theorem mul_ch {x y : Nat} (hx : Ch x) (hy : Ch y) : (floatBits .mul .f32 x y).isSome = true ∧ Pn (fA .mul .f32 x y) := by
  obtain ⟨q, h1, h2⟩ := mul_spec s_hf hx.fnt hy.fnt
  obtain ⟨k1, k2⟩ := fA_of (op := .mul) (k := .f32) h1
  rw [k2]
  exact ⟨k1, xor_zero_word hx hy h2⟩

/-- A chance divided by a sum that is above zero. -/
theorem div_ch {x y : Nat} (hx : Ch x) (hy : y ≤ 2139095040) (h0 : 0 < y) : (floatBits .quo .f32 x y).isSome = true ∧ Pn (fA .quo .f32 x y) := by
  by_cases h : y = 2139095040
  · subst h
    obtain ⟨s, m, p, hr⟩ := hx.read
    have : floatBits .quo .f32 x 2139095040 = some (single.word (s ^^ false) 0) := by
      show single.div x 2139095040 = _
      unfold Format.div
      rw [read_s_inf, hr]; simp [Datum.quotient, Format.write, Format.nearest]
    obtain ⟨k1, k2⟩ := fA_of this
    rw [k2]
    refine ⟨k1, ?_⟩
    cases s
    · exact .inl (by decide)
    · exact .inr (by decide)
  · have hy' : Ch y := .inl (by omega)
    have hry : rg single y = y := rg_of_le single (by rw [s_inf]; omega)
    obtain ⟨q, h1, h2⟩ := div_spec s_hf hx.fnt hy'.fnt (by rw [hry]; omega)
    obtain ⟨k1, k2⟩ := fA_of (op := .quo) (k := .f32) h1
    rw [k2]
    refine ⟨k1, ?_⟩
    have hsy : sg single y = false := sg_of_le single (by rw [s_inf]; omega)
    rw [hsy, Bool.xor_false]
    rcases hx.sgz with h | h
    · have e : q = 0 := by
        have : rv single (rg single x) / rv single (rg single y) = rv single 0 := by
          rw [rv_zero, rgs, h, rv_zero, Rat.div_def, Rat.zero_mul]
        rw [this] at h2
        exact h2.uniq (Near.exact _ _)
      subst e
      cases sg single x
      · exact .inl (by decide)
      · exact .inr (by decide)
    · rw [h]; exact .inl (by rw [s_inf]; exact Nat.min_le_right ..)

/-- How words that are no NaN stand to each other. -/
theorem order_pp {x y : Nat} (hx : x ≤ 2139095040) (hy : y ≤ 2139095040) : single.order x y = some (compare x y) := by
  have key : ∀ a, a ≤ 2139095040 → a = 2139095040 ∨ Ch a := fun a h => by unfold Ch; omega
  have ci : ∀ {a : Nat}, Ch a → single.order a 2139095040 = some .lt ∧ single.order 2139095040 a = some .gt := by
    intro a ha
    obtain ⟨s, m, p, hr⟩ := ha.read
    unfold Format.order
    rw [read_s_inf, hr]
    exact ⟨rfl, rfl⟩
  rcases key x hx with h | h
  · rcases key y hy with h' | h'
    · subst h; subst h'; decide
    · subst h
      rw [(ci h').2]
      unfold Ch at h'
      rw [Nat.compare_eq_gt.2 (by omega)]
  · rcases key y hy with h' | h'
    · subst h'
      rw [(ci h).1]
      unfold Ch at h
      rw [Nat.compare_eq_lt.2 (by omega)]
    · obtain ⟨o1, o2, o3⟩ := order_fin h.fnt h'.fnt
      have e1 := h.sv
      have e2 := h'.sv
      unfold Ch at h h'
      rw [Nat.mod_eq_of_lt (by omega)] at e1 e2
      rw [e1, e2] at o1 o2 o3
      by_cases hlt : x < y
      · rw [Nat.compare_eq_lt.2 hlt]; exact o1.2 (rv_lt _ hlt)
      · by_cases heq : x = y
        · rw [Nat.compare_eq_eq.2 heq]; exact o2.2 (by rw [heq])
        · rw [Nat.compare_eq_gt.2 (by omega)]; exact o3.2 (rv_lt _ (by omega))
theorem order_np {q y : Nat} (hq : q ≤ 2139095040) (hy : y ≤ 2139095040) (h0 : 0 < y) : single.order (2147483648 + q) y = some .lt := by
  by_cases h : q = 2139095040
  · subst h
    have hr : single.read (2147483648 + 2139095040) = .infinity true := by decide
    unfold Format.order
    rw [hr]
    by_cases h' : y = 2139095040
    · subst h'; decide
    · obtain ⟨s, m, p, hr'⟩ := (show Ch y from .inl (by omega)).read
      rw [hr']; rfl
  · have hrg : rg single (2147483648 + q) = q := by rw [rgs]; omega
    have hsg : sg single (2147483648 + q) = true := by
      unfold sg; rw [s_sw]; have : (2147483648 + q) / 2147483648 = 1 := by omega
      rw [this]; rfl
    have hf : Fnt single (2147483648 + q) := by unfold Fnt; rw [hrg, s_inf]; omega
    have hs : sv single (2147483648 + q) = -rv single q := by unfold sv; rw [hsg, hrg]; rfl
    have hn := rv_nonneg single q
    have hy0 := rv_lt single h0
    rw [rv_zero] at hy0
    by_cases h' : y = 2139095040
    · subst h'
      obtain ⟨m, p, hr, _⟩ := read_fin single _ hf
      unfold Format.order
      rw [hr, read_s_inf]; rfl
    · have hy' : Ch y := .inl (by omega)
      have e := hy'.sv
      rw [Nat.mod_eq_of_lt (by omega)] at e
      exact (order_fin hf hy'.fnt).1.2 (by rw [hs, e]; grind)
theorem order_nz {q : Nat} (hq : q ≤ 2139095040) : single.order (2147483648 + q) 0 = some (if q = 0 then .eq else .lt) := by
  by_cases h0 : q = 0
  · subst h0; decide
  · rw [if_neg h0]
    by_cases h : q = 2139095040
    · subst h; decide
    · have hrg : rg single (2147483648 + q) = q := by rw [rgs]; omega
      have hsg : sg single (2147483648 + q) = true := by
        unfold sg; rw [s_sw]; have : (2147483648 + q) / 2147483648 = 1 := by omega
        rw [this]; rfl
      have hf : Fnt single (2147483648 + q) := by unfold Fnt; rw [hrg, s_inf]; omega
      have hs : sv single (2147483648 + q) = -rv single q := by unfold sv; rw [hsg, hrg]; rfl
      have hc : Ch 0 := .inl (by omega)
      have e : sv single 0 = 0 := by have := hc.sv; rw [show 0 % 2147483648 = 0 from rfl, rv_zero] at this; exact this
      have hq0 := rv_lt single (show 0 < q by omega)
      rw [rv_zero] at hq0
      exact (order_fin hf hc.fnt).1.2 (by rw [hs, e]; grind)
theorem order_p0 {x : Nat} (h : Pn x) : single.order x 0 = some (if x % 2147483648 = 0 then .eq else .gt) := by
  rcases h with h | h
  · rw [order_pp h (by omega)]
    by_cases h0 : x = 0
    · subst h0; decide
    · rw [if_neg (by omega), Nat.compare_eq_gt.2 (by omega)]
  · subst h; decide
/-- NaN or not. -/
def nanB (x : Nat) : Bool := decide (2139095040 < x % 2147483648)
def finB (x : Nat) : Bool := decide (x % 2147483648 < 2139095040)
theorem order_nan {x : Nat} (h : nanB x = true) (y : Nat) : single.order x y = none := by
  have h := of_decide_eq_true h
  have : ∃ s t, single.read x = .nan s t := by
    unfold Format.read
    dsimp only
    have hb : single.binade = 8388608 := by decide
    rw [s_sw, s_inf, hb, if_neg (by omega), if_neg (by omega), if_neg (by omega)]
    exact ⟨_, _, rfl⟩
  obtain ⟨s, t, hr⟩ := this
  unfold Format.order
  rw [hr]; rfl
theorem order_nan' {x : Nat} (h : nanB x = true) (y : Nat) : single.order y x = none := by
  have h := of_decide_eq_true h
  have : ∃ s t, single.read x = .nan s t := by
    unfold Format.read
    dsimp only
    have hb : single.binade = 8388608 := by decide
    rw [s_sw, s_inf, hb, if_neg (by omega), if_neg (by omega), if_neg (by omega)]
    exact ⟨_, _, rfl⟩
  obtain ⟨s, t, hr⟩ := this
  unfold Format.order
  rw [hr]; cases single.read y <;> rfl
theorem order_self (x : Nat) : (single.order x x == some .eq) = !nanB x := by
  by_cases h : nanB x = true
  · rw [order_nan h, h]; rfl
  · rw [Bool.not_eq_true] at h
    rw [h]
    have h := of_decide_eq_false h
    by_cases hf : Fnt single x
    · rw [(order_fin hf hf).2.1.2 rfl]; rfl
    · unfold Fnt at hf
      rw [rgs, s_inf] at hf
      have hr := read_inf single s_he x (by rw [rgs, s_inf]; omega)
      unfold Format.order
      rw [hr]; cases sg single x <;> rfl

/-- A number less itself: zero if it is finite; else no number. -/
theorem sub_self_fin {x : Nat} (h : finB x = true) : floatBits .sub .f32 x x = some 0 := by
  have hf : Fnt single x := by unfold Fnt; rw [rgs, s_inf]; exact of_decide_eq_true h
  obtain ⟨w, h1, _, h3⟩ := sub_spec s_hf hf hf
  rw [h3 (by grind)] at h1
  show single.sub x x = _
  rw [h1]; cases sg single x <;> rfl
theorem sub_self_inf {x : Nat} (h : finB x = false) : floatBits .sub .f32 x x = none := by
  have h := of_decide_eq_false h
  show single.sub x x = none
  unfold Format.sub
  by_cases hn : nanB x = true
  · have h2 := order_nan hn x
    unfold Format.order at h2
    cases hr : single.read x with
    | nan s t => rfl
    | infinity s => rw [hr] at h2; simp [Datum.order] at h2
    | number s m p => rw [hr] at h2; simp [Datum.order] at h2
  · rw [Bool.not_eq_true] at hn
    have hn := of_decide_eq_false hn
    have hr := read_inf single s_he x (by rw [rgs, s_inf]; omega)
    rw [hr]; cases sg single x <;> rfl

/-- A sum less 1, and 1 less a sum: the same but for the sign. -/
theorem sub_one {s : Nat} (hs : s ≤ 2139095040) : (floatBits .sub .f32 s 1065353216).isSome = true ∧ (floatBits .sub .f32 1065353216 s).isSome = true ∧ ∃ q, q ≤ 2139095040 ∧
    ((fA .sub .f32 s 1065353216 = q ∧ fA .sub .f32 1065353216 s = 2147483648 + q ∧ 1065353216 ≤ s) ∨ (fA .sub .f32 s 1065353216 = 2147483648 + q ∧ fA .sub .f32 1065353216 s = q ∧ s ≤ 1065353216) ∨ (fA .sub .f32 s 1065353216 = q ∧ fA .sub .f32 1065353216 s = q ∧ q = 0 ∧ s = 1065353216)) := by
  by_cases h : s = 2139095040
  · subst h
    have e1 : floatBits .sub .f32 2139095040 1065353216 = some 2139095040 := by decide +kernel
    have e2 : floatBits .sub .f32 1065353216 2139095040 = some (2147483648 + 2139095040) := by decide +kernel
    obtain ⟨a1, a2⟩ := fA_of e1
    obtain ⟨b1, b2⟩ := fA_of e2
    exact ⟨a1, b1, 2139095040, by omega, .inl ⟨a2, b2, by omega⟩⟩
  · have hc : Ch s := .inl (by omega)
    have h1 : Ch 1065353216 := .inl (by omega)
    obtain ⟨w, u1, u2, u3⟩ := sub_spec s_hf hc.fnt h1.fnt
    obtain ⟨w', v1, v2, v3⟩ := sub_spec s_hf h1.fnt hc.fnt
    obtain ⟨a1, a2⟩ := fA_of (op := .sub) (k := .f32) u1
    obtain ⟨b1, b2⟩ := fA_of (op := .sub) (k := .f32) v1
    have e1 := hc.sv
    have e2 := h1.sv
    rw [Nat.mod_eq_of_lt (by omega)] at e1 e2
    rw [a2, b2]
    refine ⟨a1, b1, ?_⟩
    obtain ⟨s1, q1, x1, n1, p1, m1⟩ := u2
    obtain ⟨s2, q2, x2, n2, p2, m2⟩ := v2
    have hq : q1 = q2 := by
      refine n1.uniq ?_
      have : av (sv single s - sv single 1065353216) = av (sv single 1065353216 - sv single s) := by
        rw [← av_neg]; congr 1; grind
      rw [this]; exact n2
    subst hq
    have hle : ∀ b, single.word b (min q1 single.infRung) = (if b then 2147483648 + min q1 2139095040 else min q1 2139095040) := fun b => by cases b <;> rfl
    refine ⟨min q1 2139095040, Nat.min_le_right .., ?_⟩
    by_cases c0 : sv single s - sv single 1065353216 = 0
    · right; right
      have w0 := u3 c0
      have w0' := v3 (by grind)
      have hs1 : sg single s = false := sg_of_le single (by rw [s_inf]; exact hs)
      have hs2 : sg single 1065353216 = false := sg_of_le single (by rw [s_inf]; omega)
      rw [hs1, hs2] at w0 w0'
      have q0 : q1 = 0 := by
        have : av (sv single s - sv single 1065353216) = rv single 0 := by rw [c0, rv_zero]; rfl
        rw [this] at n1
        exact n1.uniq (Near.exact _ _)
      subst q0
      have : s = 1065353216 := rv_inj single (by rw [← e1, ← e2]; grind)
      exact ⟨w0, w0', rfl, this⟩
    · by_cases c1 : 0 < sv single s - sv single 1065353216
      · left
        rw [x1, x2, p1 c1, m2 (by grind), hle, hle]
        refine ⟨rfl, rfl, ?_⟩
        have := (rv_lt_iff single (r := 1065353216) (s := s)).1 (by rw [← e1, ← e2]; grind)
        omega
      · right; left
        rw [x1, x2, m1 (by grind), p2 (by grind), hle, hle]
        refine ⟨rfl, rfl, ?_⟩
        have := (rv_lt_iff single (r := s) (s := 1065353216)).1 (by rw [← e1, ← e2]; grind)
        omega

theorem rv_s_inf : rv single 2139095040 = pv 1 128 := by
  have h := rv_at single 254 (single.binade) (.inr ⟨Nat.le_refl _, by have := binade_pos single; omega⟩)
  have e : 254 * single.binade + single.binade = 2139095040 := by decide
  rw [e] at h
  rw [h, show single.binade = 1 * 2 ^ 23 by decide, pv_shift, show single.leastPlace = -149 by decide]; rfl
theorem rv_d_128 : rv double 5183643171103440896 = pv 1 128 := by
  have h := rv_at double 1150 (double.binade) (.inr ⟨Nat.le_refl _, by have := binade_pos double; omega⟩)
  have e : 1150 * double.binade + double.binade = 5183643171103440896 := by decide
  rw [e] at h
  rw [h, show double.binade = 1 * 2 ^ 52 by decide, pv_shift, show double.leastPlace = -1074 by decide]; rfl
/-- Each finite rung of single precision is one of double precision. -/
theorem rung_up (r : Nat) (h : r < 2139095040) : ∃ R, rv double R = rv single r ∧ R < 5183643171103440896 := by
  have hx := fin_of_lt single (x := r) (by rw [s_inf]; exact h)
  have hlt : rv single r < rv double 5183643171103440896 := by rw [rv_d_128, ← rv_s_inf]; exact rv_lt _ h
  suffices hR : ∃ R, rv double R = rv single r by
    obtain ⟨R, hR⟩ := hR
    exact ⟨R, hR, (rv_lt_iff double).1 (by rw [hR]; exact hlt)⟩
  by_cases hb : r < single.binade
  · have e : rv single r = pv r single.leastPlace := by unfold rv; rw [if_pos hb]
    obtain ⟨R, h1, _⟩ := exact_rung double (m := r) (p := single.leastPlace) (by rw [show double.binade = 4503599627370496 by decide]; omega) (by decide)
    exact ⟨R, by rw [h1, e]⟩
  · have e : rv single r = pv (single.binade + r % single.binade) (single.leastPlace + (r / single.binade - 1 : Nat)) := by unfold rv; rw [if_neg hb]
    have hm := Nat.mod_lt r (binade_pos single)
    have hB : single.binade = 8388608 := by decide
    rw [hB] at hm
    obtain ⟨R, h1, _⟩ := exact_rung double (m := single.binade + r % single.binade) (p := single.leastPlace + (r / single.binade - 1 : Nat)) (by rw [show double.binade = 4503599627370496 by decide, hB]; omega) (by rw [show single.leastPlace = -149 by decide, show double.leastPlace = -1074 by decide, show double.fractionBits = 52 from rfl]; omega)
    exact ⟨R, by rw [h1, e]⟩
theorem read_word_fin (f : Format) (s : Bool) {r : Nat} (h : r < f.infRung) : Fnt f (f.word s r) := by
  unfold Fnt; rw [rg_word f s (by omega)]; exact h
/-- Single to double precision. -/
theorem conv_up {z : Nat} (h : Fnt single z) : ∃ r, floatToFloatBits .f32 z .f64 = some r ∧ Fnt double r ∧ sg double r = sg single z ∧ rv double (rg double r) = rv single (rg single z) := by
  obtain ⟨m, p, e1, e2⟩ := read_fin single z h
  have hz : rg single z < 2139095040 := by unfold Fnt at h; rw [s_inf] at h; exact h
  obtain ⟨R, hR, hRl⟩ := rung_up _ hz
  obtain ⟨q, n1, n2⟩ := nearest_spec double d_hf (sg single z) m p
  rw [e2, ← hR] at n2
  have hq : q = R := n2.uniq (Near.exact _ _)
  subst hq
  have hm : min q double.infRung = q := Nat.min_eq_left (by rw [d_inf]; omega)
  rw [hm] at n1
  have hlt : q < double.infRung := by rw [d_inf]; omega
  refine ⟨double.word (sg single z) q, ?_, read_word_fin _ _ hlt, sg_word _ _ (by omega), by rw [rg_word _ _ (by omega)]; exact hR⟩
  have hd : FloatKind.decode .f32 z = .number (sg single z) m p := e1
  have he : FloatKind.encode .f64 (.number (sg single z) m p) = double.word (sg single z) q := n1
  unfold floatToFloatBits
  rw [if_neg (by decide), hd]
  simp only [he]
  obtain ⟨m', p', k1, _⟩ := read_fin double _ (read_word_fin double (sg single z) hlt)
  have hdd : FloatKind.decode .f64 (double.word (sg single z) q) = .number (sg double (double.word (sg single z) q)) m' p' := k1
  rw [hdd]
  simp [Datum.isInfinity]
theorem conv_up_inf {z : Nat} (h : rg single z = 2139095040) : floatToFloatBits .f32 z .f64 = some (double.word (sg single z) double.infRung) := by
  have e1 := read_inf single s_he z (by rw [s_inf]; exact h)
  have hd : FloatKind.decode .f32 z = .infinity (sg single z) := e1
  unfold floatToFloatBits
  rw [if_neg (by decide), hd]; rfl
theorem conv_up_some {z : Nat} (h : nanB z = false) : ∃ r, floatToFloatBits .f32 z .f64 = some r ∧ sg double r = sg single z := by
  have h := of_decide_eq_false h
  by_cases hf : Fnt single z
  · obtain ⟨r, h1, _, h3, _⟩ := conv_up hf
    exact ⟨r, h1, h3⟩
  · unfold Fnt at hf
    rw [rgs, s_inf] at hf
    exact ⟨_, conv_up_inf (by rw [rgs]; omega), sg_word _ _ (Nat.le_refl _)⟩
theorem nan_read {z : Nat} (h : nanB z = true) : ∃ s t, single.read z = .nan s t := by
  have h2 := order_nan h z
  unfold Format.order at h2
  cases hr : single.read z with
  | nan s t => exact ⟨s, t, rfl⟩
  | infinity s => rw [hr] at h2; simp [Datum.order] at h2
  | number s m p => rw [hr] at h2; simp [Datum.order] at h2
theorem floatOfInt_nan (n : Int) : nanB (floatOfInt .f32 n) = false := by
  have h : ∃ s q, floatOfInt .f32 n = single.word s (min q single.infRung) := by
    obtain ⟨q, h1, _⟩ := nearest_spec single s_hf (n < 0) n.natAbs 0
    exact ⟨_, q, h1⟩
  obtain ⟨s, q, h⟩ := h
  have h2 := rg_word single s (Nat.min_le_right q single.infRung)
  rw [← h, rgs, s_inf] at h2
  unfold nanB
  exact decide_eq_false (by omega)

end Go.Proofs.YtimhljcebeiofaaGreatDoor
