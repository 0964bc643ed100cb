/- The mixture of two rows, and their spread. -/
import Derived.Test.YtjobgobeiiakgaaTbe
import Derived.Test.YtjobgobeiiakgaaStb
namespace Go.Proofs.Ytjobgobeiiakgaa
set_option linter.unusedSimpArgs false
set_option linter.unusedVariables false
open Go.RowKit

theorem row_half : Ch 1056964608 := .inl (by omega)
theorem sv_half : av (sv Ieee.single 1056964608) = 1 / 2 := by
  rw [av_sv, show rg Ieee.single 1056964608 = 1056964608 by decide]
  have e := rv_at Ieee.single 125 8388608 (.inr ⟨by decide, by decide⟩)
  rw [show 125 * Ieee.single.binade + 8388608 = 1056964608 by decide] at e
  rw [e]
  decide +kernel
theorem half_en {x : Nat} (h : En x) : (floatBits .mul .f32 1056964608 x).isSome = true ∧ En (fA .mul .f32 1056964608 x) ∧ Bd .f32 0 (fA .mul .f32 1056964608 x) := by
  obtain ⟨a, b⟩ := mul_ch row_half h.1
  obtain ⟨_, _, c⟩ := bd_mul (Bd.of (by decide) : Bd .f32 0 1056964608) h.2 (by decide) (by decide)
  have hb : Bd .f32 0 (fA .mul .f32 1056964608 x) := bd_rnd c (by
    rw [av_mul, show FloatKind.f32.format = Ieee.single from rfl, sv_half]
    have h2 := h.2
    unfold Bd at h2
    rw [show FloatKind.f32.format = Ieee.single from rfl, p2_dbl] at h2
    grind)
  refine ⟨a, ⟨?_, hb.mono (by omega)⟩, hb⟩
  rcases b.cases with h1 | h1
  · exact h1
  · exfalso
    have := hb.fnt (by decide)
    rw [h1] at this
    exact absurd this (by show ¬ rg Ieee.single 2139095040 < Ieee.single.infRung; decide)
/-- The mixture of halves of two chances. -/
def mxT (x y : Nat) : Nat := fA .add .f32 (fA .mul .f32 1056964608 x) (fA .mul .f32 1056964608 y)
theorem mxT_en {x y : Nat} (hx : En x) (hy : En y) : (floatBits .add .f32 (fA .mul .f32 1056964608 x) (fA .mul .f32 1056964608 y)).isSome = true ∧ En (mxT x y) := by
  obtain ⟨_, ax, bx⟩ := half_en hx
  obtain ⟨_, ay, by'⟩ := half_en hy
  obtain ⟨a, b, c⟩ := bd_add bx by' (by decide)
  refine ⟨a, ?_, b⟩
  have hp : Pn (mxT x y) := by
    have h0 : 0 ≤ sv FloatKind.f32.format (fA .mul .f32 1056964608 x) + sv FloatKind.f32.format (fA .mul .f32 1056964608 y) := by
      have := ax.1.nonneg
      have := ay.1.nonneg
      show 0 ≤ sv Ieee.single _ + sv Ieee.single _
      grind
    by_cases hz : sv FloatKind.f32.format (fA .mul .f32 1056964608 x) + sv FloatKind.f32.format (fA .mul .f32 1056964608 y) = 0
    · obtain ⟨w, h2, h3, h4⟩ := add_spec s_hf ax.1.fnt ay.1.fnt
      obtain ⟨a1, a2⟩ := fA_of (op := .add) (k := .f32) h2
      have := h4 hz
      unfold mxT
      rw [a2, this]
      unfold Pn
      cases (sg Ieee.single (fA .mul .f32 1056964608 x) && sg Ieee.single (fA .mul .f32 1056964608 y))
      · exact .inl (by decide)
      · exact .inr (by decide)
    · exact .inl (c.pos (by grind))
  rcases hp.cases with h1 | h1
  · exact h1
  · exfalso
    have := b.fnt (by decide)
    unfold mxT at h1
    rw [h1] at this
    exact absurd this (by show ¬ rg Ieee.single 2139095040 < Ieee.single.infRung; decide)
def mxL (xs ys : List Nat) (k : Nat) : List Nat := (List.range k).map fun i => mxT (xs[i]?.getD 0) (ys[i]?.getD 0)
theorem mxL_succ (xs ys : List Nat) (k : Nat) : mxL xs ys (k + 1) = mxL xs ys k ++ [mxT (xs[k]?.getD 0) (ys[k]?.getD 0)] := by simp [mxL, List.range_succ]
theorem mxL_length (xs ys : List Nat) (k : Nat) : (mxL xs ys k).length = k := by simp [mxL]
theorem mxL_en {xs ys : List Nat} (hx : ∀ x ∈ xs, En x) (hy : ∀ x ∈ ys, En x) (he : ys.length = xs.length) : ∀ x ∈ mxL xs ys xs.length, En x := by
  intro x h
  obtain ⟨i, hi, rfl⟩ := List.mem_map.1 h
  have hi' := List.mem_range.1 hi
  exact (mxT_en (get_pn hx hi') (get_pn hy (by omega))).2
theorem one_half : (floatBits .sub .f32 1065353216 1056964608).isSome = true ∧ fA .sub .f32 1065353216 1056964608 = 1056964608 := by decide
def twB (xs ys : List Nat) : Bool := rowB xs && rowB ys && decide (xs.length = ys.length)
theorem twB_split {xs ys : List Nat} (h : twB xs ys = true) : rowB xs = true ∧ rowB ys = true ∧ ys.length = xs.length := by
  unfold twB at h; simp only [Bool.and_eq_true, decide_eq_true_eq] at h; exact ⟨h.1.1, h.1.2, h.2.symm⟩
theorem row_en {xs : List Nat} (h : rowB xs = true) : (∀ x ∈ xs, En x) ∧ xs.length ≤ 64 := by
  obtain ⟨_, h2, h3⟩ := rowB_one h
  exact ⟨one_en h3, by omega⟩

set_option maxHeartbeats 1000000 in
theorem areRows_any (v u : Value) (xs ys : List Nat) (w : World) (hv : SlR w v (xs.map (Value.float .f32))) (hu : SlR w u (ys.map (Value.float .f32))) (hx : ∀ x ∈ xs, x < 4294967296) (hy : ∀ x ∈ ys, x < 4294967296) :
    Calls Try.prog 49 #[v, u] w fun e w' => e = .returned (.bool (twB xs ys)) ∧ Qu w w' := by
  have ht : twB xs ys = (rowB xs && rowB ys && decide (xs.length = ys.length)) := rfl
  rw [ht]
  clear ht
  have HX := Lib.hid hx
  have HY := Lib.hid hy
  obtain ⟨a, n, c, he1, hnl, hnc, hcm, -⟩ := SlR.opened 0 hv
  obtain ⟨a', n', c', he2, hnl', hnc', hcm', -⟩ := SlR.opened 0 hu
  unfold maxLen at hcm hcm'
  have HN := Lib.hid hnl
  have HM := Lib.hid hnl'
  have hud := Lib.hid (fun (W : World) (hq : Qu w W) => hu.below hq.keep)
  have HV := Lib.hid hv
  clear hx hy hv hu
  subst he1 he2
  generalize h1 : rowB xs = b1
  generalize h2 : rowB ys = b2
  have H1 := Lib.hid h1
  have H2 := Lib.hid h2
  clear h1 h2
  cases b1
  · go_enter Try.func49, Try.ntmps49
    go_wp2_with (go_at_call 73; refine (isRow_any _ xs _ HV.out HX.out).mono ?_; rw [H1.out]; rintro e w1 ⟨rfl, hq1⟩; have hu1 := hud.out _ hq1)
    go_ret
    exact ⟨rfl, hq1⟩
  · cases b2
    · go_enter Try.func49, Try.ntmps49
      go_wp2_with (first | (go_at_call 73; refine (isRow_any _ ys _ hu1 HY.out).mono ?_; rw [H2.out]; rintro e w2 ⟨rfl, hq2⟩; have hq3 := hq1.trans hq2) | (go_at_call 73; refine (isRow_any _ xs _ HV.out HX.out).mono ?_; rw [H1.out]; rintro e w1 ⟨rfl, hq1⟩; have hu1 := hud.out _ hq1))
      go_ret
      exact ⟨rfl, hq3⟩
    · by_cases hl : n = n'
      · have hd : Hid (decide (xs.length = ys.length) = true) := decide_eq_true (by omega)
        have ht := ieq_true (show (n : Int) = (n' : Int) by omega)
        clear hnl hnl' hl
        go_enter Try.func49, Try.ntmps49
        go_wp2_with (first | (go_at_call 73; refine (isRow_any _ ys _ hu1 HY.out).mono ?_; rw [H2.out]; rintro e w2 ⟨rfl, hq2⟩; have hq3 := hq1.trans hq2) | (go_at_call 73; refine (isRow_any _ xs _ HV.out HX.out).mono ?_; rw [H1.out]; rintro e w1 ⟨rfl, hq1⟩; have hu1 := hud.out _ hq1))
        go_ret
        exact ⟨ret_bool (by rw [hd.out]; rfl), hq3⟩
      · have hd : Hid (decide (xs.length = ys.length) = false) := decide_eq_false (by omega)
        have ht := ieq_false (show ¬ (n : Int) = (n' : Int) by omega)
        clear hnl hnl' hl
        go_enter Try.func49, Try.ntmps49
        go_wp2_with (first | (go_at_call 73; refine (isRow_any _ ys _ hu1 HY.out).mono ?_; rw [H2.out]; rintro e w2 ⟨rfl, hq2⟩; have hq3 := hq1.trans hq2) | (go_at_call 73; refine (isRow_any _ xs _ HV.out HX.out).mono ?_; rw [H1.out]; rintro e w1 ⟨rfl, hq1⟩; have hu1 := hud.out _ hq1))
        go_ret
        exact ⟨ret_bool (by rw [hd.out]; rfl), hq3⟩

set_option maxHeartbeats 1000000 in
theorem l02Two_any (v u : Value) (xs ys : List Nat) (w : World) (hv : SlR w v (xs.map (Value.float .f32))) (hu : SlR w u (ys.map (Value.float .f32))) (hx : ∀ x ∈ xs, x < 4294967296) (hy : ∀ x ∈ ys, x < 4294967296) :
    Calls Try.prog 47 #[v, u] w fun e w' => e = .returned (.bool (twB xs ys)) ∧ Qu w w' := by
  have ht : twB xs ys = (rowB xs && rowB ys && decide (xs.length = ys.length)) := rfl
  rw [ht]
  clear ht
  have HX := Lib.hid hx
  have HY := Lib.hid hy
  obtain ⟨a, n, c, he1, hnl, hnc, hcm, -⟩ := SlR.opened 0 hv
  obtain ⟨a', n', c', he2, hnl', hnc', hcm', -⟩ := SlR.opened 0 hu
  unfold maxLen at hcm hcm'
  have HN := Lib.hid hnl
  have HM := Lib.hid hnl'
  have hud := Lib.hid (fun (W : World) (hq : Qu w W) => hu.below hq.keep)
  have HV := Lib.hid hv
  clear hx hy hv hu
  subst he1 he2
  generalize h1 : rowB xs = b1
  generalize h2 : rowB ys = b2
  have H1 := Lib.hid h1
  have H2 := Lib.hid h2
  clear h1 h2
  cases b1
  · go_enter Try.func47, Try.ntmps47
    go_wp2_with (go_at_call 84; refine (l02Row_any _ xs _ HV.out HX.out).mono ?_; rw [H1.out]; rintro e w1 ⟨rfl, hq1⟩; have hu1 := hud.out _ hq1)
    go_ret
    exact ⟨rfl, hq1⟩
  · cases b2
    · go_enter Try.func47, Try.ntmps47
      go_wp2_with (first | (go_at_call 84; refine (l02Row_any _ ys _ hu1 HY.out).mono ?_; rw [H2.out]; rintro e w2 ⟨rfl, hq2⟩; have hq3 := hq1.trans hq2) | (go_at_call 84; refine (l02Row_any _ xs _ HV.out HX.out).mono ?_; rw [H1.out]; rintro e w1 ⟨rfl, hq1⟩; have hu1 := hud.out _ hq1))
      go_ret
      exact ⟨rfl, hq3⟩
    · by_cases hl : n = n'
      · have hd : Hid (decide (xs.length = ys.length) = true) := decide_eq_true (by omega)
        have ht := ieq_true (show (n : Int) = (n' : Int) by omega)
        clear hnl hnl' hl
        go_enter Try.func47, Try.ntmps47
        go_wp2_with (first | (go_at_call 84; refine (l02Row_any _ ys _ hu1 HY.out).mono ?_; rw [H2.out]; rintro e w2 ⟨rfl, hq2⟩; have hq3 := hq1.trans hq2) | (go_at_call 84; refine (l02Row_any _ xs _ HV.out HX.out).mono ?_; rw [H1.out]; rintro e w1 ⟨rfl, hq1⟩; have hu1 := hud.out _ hq1))
        go_ret
        exact ⟨ret_bool (by rw [hd.out]; rfl), hq3⟩
      · have hd : Hid (decide (xs.length = ys.length) = false) := decide_eq_false (by omega)
        have ht := ieq_false (show ¬ (n : Int) = (n' : Int) by omega)
        clear hnl hnl' hl
        go_enter Try.func47, Try.ntmps47
        go_wp2_with (first | (go_at_call 84; refine (l02Row_any _ ys _ hu1 HY.out).mono ?_; rw [H2.out]; rintro e w2 ⟨rfl, hq2⟩; have hq3 := hq1.trans hq2) | (go_at_call 84; refine (l02Row_any _ xs _ HV.out HX.out).mono ?_; rw [H1.out]; rintro e w1 ⟨rfl, hq1⟩; have hu1 := hud.out _ hq1))
        go_ret
        exact ⟨ret_bool (by rw [hd.out]; rfl), hq3⟩

end Go.Proofs.Ytjobgobeiiakgaa
