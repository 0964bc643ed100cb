/- Absolute differences by max (r8Gap). -/
import Derived.Test.YtmocfnpbofeiiaaMGpP
import Derived.Test.YtmocfnpbofeiiaaMHar
import Derived.Test.YtmocfnpbofeiiaaMTyL
import Derived.Test.YtmocfnpbofeiiaaMRcC
namespace Go.Proofs.Ytmocfnpbofeiiaa
set_option linter.unusedSimpArgs false
set_option linter.unusedVariables false
open Go.RowKit
open Ieee
theorem run_max {x y : Nat} (hx : Fnt double x) (hy : Fnt double y) : ∃ r, (r = x ∨ r = y) ∧ sv double x ≤ sv double r ∧ sv double y ≤ sv double r ∧ ∀ (ats : Array TypeId) (t : TypeId) (W : World), (Builtin.max_ ats t #[.float .f64 x, .float .f64 y]).run Try.prog W = .ok (.float .f64 r) W := by
  obtain ⟨o1, o2, o3⟩ := order_fin hx hy
  by_cases h1 : sv double x < sv double y
  · have ho : FloatKind.f64.format.order x y = some .lt := o1.2 h1
    exact ⟨y, .inr rfl, Rat.le_of_lt h1, Rat.le_refl, fun ats t W => by simp [Builtin.max_, Builtin.max2, ho]⟩
  · by_cases h2 : sv double x = sv double y
    · have ho : FloatKind.f64.format.order x y = some .eq := o2.2 h2
      cases hn : (FloatKind.f64.decode x).neg
      · exact ⟨x, .inl rfl, Rat.le_refl, by rw [h2]; exact Rat.le_refl, fun ats t W => by simp [Builtin.max_, Builtin.max2, ho, hn]⟩
      · exact ⟨y, .inr rfl, by rw [h2]; exact Rat.le_refl, Rat.le_refl, fun ats t W => by simp [Builtin.max_, Builtin.max2, ho, hn]⟩
    · have ho : FloatKind.f64.format.order x y = some .gt := o3.2 (by grind)
      exact ⟨x, .inl rfl, Rat.le_refl, by grind, fun ats t W => by simp [Builtin.max_, Builtin.max2, ho]⟩

set_option maxHeartbeats 1000000 in
theorem r8Gap_any {x y : Nat} (hx : Fnt double x) (hy : Fnt double y) (h : av (sv double x - sv double y) ≤ 100) : ∃ r, Fnt double r ∧ av (sv double r - av (sv double x - sv double y)) ≤ 1 / 10000000000000 ∧ ∀ w, Calls Try.prog 14 #[.float .f64 x, .float .f64 y] w fun e w' => e = .returned (.float .f64 r) ∧ w = w' := by
  have ax : Ap .f64 x (sv double x) 0 := Ap.self (k := .f64) hx
  have ay : Ap .f64 y (sv double y) 0 := Ap.self (k := .f64) hy
  have h' : av (sv double y - sv double x) ≤ 100 := by rw [show sv double y - sv double x = -(sv double x - sv double y) by grind, av_neg]; exact h
  obtain ⟨a1, a2⟩ := ap_sub (k := .f64) (E := 1 / 10000000000000) ax ay (A := 100) h (by decide +kernel) (by decide +kernel)
  obtain ⟨b1, b2⟩ := ap_sub (k := .f64) (E := 1 / 10000000000000) ay ax (A := 100) h' (by decide +kernel) (by decide +kernel)
  obtain ⟨r, r1, r2, r3, r4⟩ := run_max a2.1 b2.1
  refine ⟨r, ?_, ?_, fun w => ?_⟩
  · rcases r1 with rfl | rfl
    · exact a2.1
    · exact b2.1
  · have p1 := Rat.le_trans (le_av _) a2.2
    have p2 := Rat.le_trans (neg_le_av _) a2.2
    have q1 := Rat.le_trans (le_av _) b2.2
    have q2 := Rat.le_trans (neg_le_av _) b2.2
    rw [show FloatKind.f64.format = double from rfl] at p1 p2 q1 q2
    have hr : sv double r ≤ sv double (fA .sub .f64 x y) ∨ sv double r ≤ sv double (fA .sub .f64 y x) := by
      rcases r1 with rfl | rfl
      · exact .inl Rat.le_refl
      · exact .inr Rat.le_refl
    have e : (av (sv double x - sv double y) = sv double x - sv double y ∧ sv double y ≤ sv double x) ∨ (av (sv double x - sv double y) = sv double y - sv double x ∧ sv double x ≤ sv double y) := by
      by_cases hc : sv double y ≤ sv double x
      · exact .inl ⟨av_of_nonneg (by grind), hc⟩
      · right
        refine ⟨?_, by grind⟩
        rw [show sv double x - sv double y = -(sv double y - sv double x) by grind, av_neg, av_of_nonneg (by grind)]
    clear a2 b2 ax ay h h' r1 r4 a1 b1
    generalize sv double (fA .sub .f64 x y) = s at *
    generalize sv double (fA .sub .f64 y x) = t at *
    generalize sv double r = u at *
    generalize sv double x = a at *
    generalize sv double y = b at *
    rcases e with ⟨e, e'⟩ | ⟨e, e'⟩
    · rw [e]; exact av_le (by grind) (by grind)
    · rw [e]; exact av_le (by grind) (by grind)
  · clear a2 b2 ax ay h h' r1 r2 r3 hx hy
    go_enter Try.func14, Try.ntmps14
    go_wp2
    go_ret
    exact ⟨rfl, rfl⟩

end Go.Proofs.Ytmocfnpbofeiiaa

/- Types counted: what the law FnTypes asks, and the first half of its walk. -/
namespace Go.Proofs.Ytmocfnpbofeiiaa
set_option linter.unusedSimpArgs false
set_option linter.unusedVariables false
open Go.RowKit
open Ieee
theorem Cn.rw3 {cs : List Nat} (h : Cn cs 3) : Rw (rowK cs) (psC cs) 3 := ⟨by rw [rowK_len, h.len], .inr rfl, fun _ hj => h.rr (by omega) (by omega) hj, h.ps_one (by omega)⟩
theorem tp_step {cs : List Nat} {n i k : Nat} (h : Cn cs 3) (hn : n ≤ 6) (hi : i ≤ n) (hk : k ≤ n - i) : [i, k, n - i - k] ∈ tysL n 3 ∧ (floatBits .add .f64 (tpS (rowK cs) (tpP n i k)) (up64 (chF (rowK cs) [i, k, n - i - k] 3))).isSome = true ∧ (tpP n i k).length ≤ 28 ∧ tpW (tpP n i k) ≤ 60000 ∧ 1 ≤ wsP [i, k, n - i - k] 3 ∧ wsP [i, k, n - i - k] 3 < 2000 ∧ (floatToFloatBits .f32 (chF (rowK cs) [i, k, n - i - k] 3) .f64).isSome = true ∧ (FloatKind.f32.format.order (chF (rowK cs) [i, k, n - i - k] 3) 0 == some .lt) = false := by
  have p0 := tpP_pre (n := n) (i := i) (k := k) hi (by omega)
  have p1 := tpP_pre (n := n) (i := i) (k := k + 1) hi (by omega)
  have hs := tpP_succ (n := n) (i := i) (k := k) hk
  have hm : [i, k, n - i - k] ∈ tysL n 3 := p1.subset (by rw [hs]; simp)
  obtain ⟨l1, l2, _⟩ := tpW_le hn p0
  obtain ⟨w1, w2⟩ := ws_in (by omega) (.inr rfl) hm
  obtain ⟨f, _, nn, _⟩ := ch_near h.rw3 (by omega) hm
  have hlen : (tpP n i k).length < (tysL n 3).length := by
    have := p1.length_le
    rw [hs, List.length_append, List.length_singleton] at this
    omega
  have e0 : tpP n i k = (tysL n 3).take (tpP n i k).length := List.prefix_iff_eq_take.1 p0
  have e1 : (tysL n 3)[(tpP n i k).length]?.getD [] = [i, k, n - i - k] := by
    obtain ⟨t, ht⟩ := p1
    rw [hs] at ht
    rw [← ht, List.append_assoc, List.getElem?_append_right (Nat.le_refl _), Nat.sub_self]
    rfl
  have S := (tpS_ap h.rw3 hn (tpP n i k).length (by omega)).2.2.2 hlen
  rw [← e0, e1] at S
  refine ⟨hm, S, l1, l2, w1, w2, (by rw [(up_sv f).1]; rfl), ord_lt_no f (by unfold Fnt; decide) ?_⟩
  show sv single 0 ≤ _
  rw [show sv single 0 = 0 by decide +kernel]
  exact nn
/-- At the end: the sum is near one. -/
theorem tp_total {cs : List Nat} {n : Nat} (h : Cn cs 3) (hn : n ≤ 6) : Fnt double (tpS (rowK cs) (tysL n 3)) ∧ av (sv double (tpS (rowK cs) (tysL n 3)) - 1) ≤ 1 / 1000 := by
  obtain ⟨a, _, _, _⟩ := tpS_ap h.rw3 hn (tysL n 3).length (Nat.le_refl _)
  rw [List.take_length] at a
  have T := ch_sum h.rw3 (n := n) (by omega)
  have mem : ∀ i, i < (tysL n 3).length → (tysL n 3)[i]?.getD [] ∈ tysL n 3 := fun i hi => by rw [List.getElem?_eq_getElem hi]; exact List.getElem_mem _
  have near : ∀ k, k ≤ (tysL n 3).length → av (smN (fun i => sv single (chF (rowK cs) ((tysL n 3)[i]?.getD []) 3)) k - smN (fun i => prX (psC cs) ((tysL n 3)[i]?.getD []) 3 3) k) ≤ 1 / 500000 * smN (fun i => prX (psC cs) ((tysL n 3)[i]?.getD []) 3 3) k := by
    intro k
    induction k with
    | zero => intro _; simp only [smN]; decide +kernel
    | succ k ih =>
      intro hk
      have h1 := ih (by omega)
      obtain ⟨_, _, _, h2⟩ := ch_near h.rw3 (by omega) (mem k hk)
      have h3 := av_add_le h1 h2
      simp only [smN]
      rw [show ∀ a b c d : Rat, a + c - (b + d) = a - b + (c - d) from fun a b c d => by grind]
      refine Rat.le_trans h3 ?_
      grind
  have N := near _ (Nat.le_refl _)
  rw [T] at N
  have hl := (types_of hn).2.2
  have hmr : (((tysL n 3).length : Nat) : Rat) ≤ 28 := by
    have : (((tysL n 3).length : Nat) : Rat) ≤ ((28 : Nat) : Rat) := by exact_mod_cast hl
    exact this
  have A := a.2
  rw [show FloatKind.f64.format = double from rfl] at A
  have F := av_add_le A N
  refine ⟨a.1, ?_⟩
  generalize sv double (tpS (rowK cs) (tysL n 3)) = s at *
  generalize smN (fun i => sv single (chF (rowK cs) ((tysL n 3)[i]?.getD []) 3)) (tysL n 3).length = t at *
  rw [show s - t + (t - 1) = s - 1 by grind] at F
  refine Rat.le_trans F ?_
  generalize (((tysL n 3).length : Nat) : Rat) = m at *
  clear F A N near a T
  grind
theorem tp_gap {cs : List Nat} {n : Nat} (h : Cn cs 3) (hn : n ≤ 6) : ∃ r, (FloatKind.f64.format.order r 4576918229304087675 == some .gt) = false ∧ ∀ w, Calls Try.prog 14 #[.float .f64 (tpS (rowK cs) (tysL n 3)), .float .f64 4607182418800017408] w fun e w' => e = .returned (.float .f64 r) ∧ w = w' := by
  obtain ⟨f, hb⟩ := tp_total h hn
  have one : Fnt double 4607182418800017408 := one_ap.1
  obtain ⟨r, r1, r2, r3⟩ := r8Gap_any f one (by rw [sv_one]; exact Rat.le_trans hb (by decide +kernel))
  rw [sv_one] at r2
  have g4 := Rat.le_trans (le_av _) r2
  have c : rg double 4576918229304087675 < double.infRung ∧ 1 / 200 ≤ sv double 4576918229304087675 := by decide +kernel
  refine ⟨r, ord_gt_no r1 c.1 ?_, r3⟩
  show sv double r ≤ sv double 4576918229304087675
  refine Rat.le_trans ?_ c.2
  generalize sv double r = g at *
  generalize av (sv double (tpS (rowK cs) (tysL n 3)) - 1) = e at *
  clear r2 r3
  grind
theorem tys_mem3 {n : Nat} {cs : List Nat} (h : cs ∈ tysL n 3) (hn : n ≤ 12) : Ty n 3 cs := (ty_of hn (.inr rfl)).2 cs h

set_option maxHeartbeats 1000000 in
theorem countTypes_any (n : Nat) (w : World) (hn : n ≤ 6) : Calls Try.prog 11 #[.int .i64 (n : Int), .int .i64 3] w fun e w' => e = .returned (.tuple #[.int .i64 ((chs (n + 2) 2 2 : Nat) : Int), .bool true]) ∧ w = w' := by
  have HW1 : Hid (∀ W, Calls Try.prog 60 #[.int .i64 (n : Int), .int .i64 0, .int .i64 30] W fun e w' => e = .returned (.bool true) ∧ W = w') := Lib.hid fun W => by
    have := within_any (n : Int) 0 30 W
    rwa [show inB (n : Int) 0 30 = true by unfold inB; exact decide_eq_true (by omega)] at this
  have HW2 : Hid (∀ W, Calls Try.prog 60 #[.int .i64 3, .int .i64 1, .int .i64 8] W fun e w' => e = .returned (.bool true) ∧ W = w') := Lib.hid fun W => by
    have := within_any 3 1 8 W
    rwa [show inB 3 1 8 = true by unfold inB; decide] at this
  have HC := Lib.hid (choose_any (n + 2) 2 w (by omega) (by omega))
  have e2 : ((n + 2 : Nat) : Int) = (n : Int) + 2 := by omega
  rw [e2] at HC
  clear e2
  generalize chs (n + 2) 2 2 = r at *
  go_enter Try.func11, Try.ntmps11
  go_upto_region 3 with (go_at_call 60; first
    | (with_reducible refine (HW2.out _).mono ?_; rintro e w' ⟨rfl, rfl⟩)
    | (with_reducible refine (HW1.out _).mono ?_; rintro e w' ⟨rfl, rfl⟩))
  have h3 : (n : Int) + 3 - 1 = (n : Int) + 2 := by omega
  go_wp2_with (go_at_call 61; refine HC.out.mono ?_; rintro e w' ⟨rfl, rfl⟩)
  go_ret2
  exact ⟨rfl, rfl⟩

end Go.Proofs.Ytmocfnpbofeiiaa
