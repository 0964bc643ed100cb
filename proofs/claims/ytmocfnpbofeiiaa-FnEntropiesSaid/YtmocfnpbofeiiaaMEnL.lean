/- What the law FnEntropies asks of its own rows (plain, and the absolute differences). -/
import Derived.Test.YtmocfnpbofeiiaaMEnJ
import Derived.Test.YtmocfnpbofeiiaaMEnT
import Derived.Test.YtmocfnpbofeiiaaMEsh
import Derived.Test.YtmocfnpbofeiiaaMMev
import Derived.Test.YtmocfnpbofeiiaaMSpo
namespace Go.Proofs.Ytmocfnpbofeiiaa
set_option linter.unusedSimpArgs false
set_option linter.unusedVariables false
open Go.RowKit
open Ieee
theorem Cn.rows {cs : List Nat} {n : Nat} (h : Cn cs n) (n1 : 1 ≤ n) (n8 : n ≤ 8) : (∀ i, i < n → 0 ≤ psC cs i) ∧ smN (psC cs) n = 1 ∧ Ap .f32 (entF (rowK cs)) (Hx (psC cs) n) (1 / 15000) ∧ -(1 / 1000000000) ≤ Hx (psC cs) n ∧ Hx (psC cs) n ≤ 31 / 10 := by
  have r := h.rw1 n1 (by omega)
  have k := nat_rat n8
  rw [show ((8 : Nat) : Rat) = 8 from rfl] at k
  have e := (r.ent (E := 1 / 15000) (by decide +kernel) (by decide +kernel) (by grind)).2.1
  have lo := Hx_nonneg (fun i hi => r.le1 hi) r.one
  have hi := (h.ro n1 n8).top8
  exact ⟨fun i hi => (r.le1 hi).1, r.one, e, by grind, by grind⟩
theorem eo_row {d : Rat} {xs : List Nat} {n : Nat} {p : Nat → Rat} (h : Rw1 d xs n p) (d0 : 0 ≤ d) (hd : d ≤ 1 / 500000) (n8 : n ≤ 8) : eo xs = (entF xs, true) ∧ Fnt single (entF xs) := by
  have k := nat_rat n8
  rw [show ((8 : Nat) : Rat) = 8 from rfl] at k
  have e := (h.ent (E := 1 / 1000) d0 (by grind) (by grind)).2.1.1
  obtain ⟨f1, f2⟩ := fin_ok e
  exact ⟨by rw [eo_yes (h.row d0 (by grind) (by omega)), f1, f2], e⟩
theorem tw_rows {d e : Rat} {xs ys : List Nat} {n : Nat} {p q : Nat → Rat} (h : Rw1 d xs n p) (g : Rw1 e ys n q) (d0 : 0 ≤ d) (hd : d ≤ 1 / 500000) (e0 : 0 ≤ e) (he : e ≤ 1 / 500000) (n8 : n ≤ 8) : twB xs ys = true := by
  unfold twB
  rw [h.row d0 (by grind) (by omega), g.row e0 (by grind) (by omega), h.len, g.len]
  simp
theorem sp_rows {cs ds : List Nat} {n : Nat} (h : Cn cs n) (g : Cn ds n) (n1 : 1 ≤ n) (n8 : n ≤ 8) : out_SpreadOf (rowK cs) (rowK ds) = (spV (rowK cs) (rowK ds), true) ∧
    Ap .f32 (spV (rowK cs) (rowK ds)) (Hx (fun i => 1 / 2 * psC cs i + 1 / 2 * psC ds i) n - 1 / 2 * (Hx (psC cs) n + Hx (psC ds) n)) (1 / 7000) := by
  obtain ⟨a1, a2, a3, a4, a5⟩ := h.rows n1 n8
  obtain ⟨b1, b2, b3, b4, b5⟩ := g.rows n1 n8
  have k := nat_rat n8
  rw [show ((8 : Nat) : Rat) = 8 from rfl] at k
  have M := mx_row h g n1 n8 (k := 8) (by omega)
  have m3 := (M.ent (E := 1 / 15000) (by decide +kernel) (by decide +kernel) (by grind)).2.1
  rw [mxX_8] at m3
  have C := mx_conc (p := psC cs) (q := psC ds) (n := n) (s := 1 / 2) (t := 1 / 2) (by decide +kernel) (by decide +kernel) (by decide +kernel) a1 b1 a2 b2
  have D := hx_spread a1 b1 a2 b2
  have hl : (rowK cs).length = n := by rw [rowK_len, h.len]
  have half : Ap .f32 1056964608 (1 / 2) 0 := Ap.ex (k := .f32) (by unfold Fnt; decide +kernel) (by decide +kernel)
  have T := tw_rows (h.rw1 n1 (by omega)) (g.rw1 n1 (by omega)) (by decide +kernel) (by decide +kernel) (by decide +kernel) (by decide +kernel) n8
  generalize Hx (psC cs) n = X at *
  generalize Hx (psC ds) n = Y at *
  generalize Hx (fun i => 1 / 2 * psC cs i + 1 / 2 * psC ds i) n = Z at *
  obtain ⟨_, s2⟩ := ap_add (k := .f32) (E := 2 / 15000 + 1 / 1000000) a3 b3 (A := 7) (av_le (by grind) (by grind)) (by decide +kernel) (by decide +kernel)
  obtain ⟨_, t2⟩ := ap_mul (k := .f32) (E := 1 / 15000 + 2 / 1000000) half s2 (A := 1 / 2) (B := 7) (by decide +kernel) (av_le (by grind) (by grind)) (by decide +kernel) (by decide +kernel)
  obtain ⟨_, u2⟩ := ap_sub (k := .f32) (E := 1 / 7000) m3 t2 (A := 7) (av_le (by grind) (by grind)) (by decide +kernel) (by decide +kernel)
  have e : fA .sub .f32 (entF (mxS 8 (rowK cs) (rowK ds) n)) (fA .mul .f32 1056964608 (fA .add .f32 (entF (rowK cs)) (entF (rowK ds)))) = spV (rowK cs) (rowK ds) := by
    unfold spV spH
    rw [hl, mxL_8]
  rw [e] at u2
  obtain ⟨f1, f2⟩ := fin_ok u2.1
  exact ⟨by rw [sp_yes T, f1, f2], u2⟩
theorem sp_self {cs : List Nat} {n : Nat} (h : Cn cs n) (n1 : 1 ≤ n) (n8 : n ≤ 8) : Ap .f32 (spV (rowK cs) (rowK cs)) 0 (1 / 7000) := by
  have s := (sp_rows h h n1 n8).2
  rw [show (fun i => 1 / 2 * psC cs i + 1 / 2 * psC cs i) = psC cs from funext fun i => by grind] at s
  rwa [show Hx (psC cs) n - 1 / 2 * (Hx (psC cs) n + Hx (psC cs) n) = 0 by grind] at s
theorem fa_zero {cs : List Nat} {n : Nat} (h : Cn cs n) (n1 : 1 ≤ n) (n8 : n ≤ 8) : faW (rowK cs) (rowK cs) n = 0 := by
  unfold faW
  rw [fa_self (h.rw1 n1 (by omega)) n (Nat.le_refl _)]
  decide +kernel
theorem factA {cs ds : List Nat} {n k : Nat} (h : Cn cs n) (g : Cn ds n) (n1 : 1 ≤ n) (n8 : n ≤ 8) (hk : k < 17) : CondA (entF (rowK cs)) (entF (rowK ds)) (entF (mxS k (rowK cs) (rowK ds) n)) (entF (evS n)) (spV (rowK cs) (rowK ds)) (faW (rowK cs) (rowK ds) n) (rooW (rowK cs) (rowK ds) n) (shW k) := by
  obtain ⟨a1, a2, a3, a4, a5⟩ := h.rows n1 n8
  obtain ⟨b1, b2, b3, b4, b5⟩ := g.rows n1 n8
  have kr := nat_rat n8
  rw [show ((8 : Nat) : Rat) = 8 from rfl] at kr
  have k0 := nat_rat0 k
  have k1 := nat_rat (show k ≤ 16 by omega)
  rw [show ((16 : Nat) : Rat) = 16 from rfl] at k1
  have M := mx_row h g n1 n8 hk
  have m3 := (M.ent (E := 1 / 15000) (by decide +kernel) (by decide +kernel) (by grind)).2.1
  have E := ev_row n1 n8
  have e3 := (E.ent (E := 1 / 15000) (by decide +kernel) (by decide +kernel) (by grind)).2.1
  rw [ev_hx n1] at e3
  have top := (h.ro n1 n8).top
  have C := mx_conc (p := psC cs) (q := psC ds) (n := n) (s := 1 - (k : Rat) / 16) (t := (k : Rat) / 16) (by grind) (by grind) (by grind) a1 b1 a2 b2
  have D := hx_spread a1 b1 a2 b2
  have D0 := mx_conc (p := psC cs) (q := psC ds) (n := n) (s := 1 / 2) (t := 1 / 2) (by decide +kernel) (by decide +kernel) (by decide +kernel) a1 b1 a2 b2
  have S := (sp_rows h g n1 n8).2
  have Q := h.tq g n1 n8
  obtain ⟨f1, f2, f3⟩ := Q.t.farN
  have f0 := Q.t.far.2.2
  obtain ⟨_, _, r1, r2, _⟩ := Q.root
  obtain ⟨q1, q2⟩ := Q.two
  have sh := sh_all k hk
  have rr : Ap .f32 (rooW (rowK cs) (rowK ds) n) (sv single (rooW (rowK cs) (rowK ds) n)) 0 := Ap.self (k := .f32) (fin_of_lt single (by rw [s_inf]; omega))
  have rh : Ap .f32 (shW k) ((k : Rat) / 16) 0 := Ap.ex (k := .f32) (fin_of_lt single (by rw [s_inf]; exact sh.2.1)) sh.2.2.2.1
  have lb := Lb_in (p := 1 / (n : Rat)) (by
    have n1r := nat_rat n1
    rw [show ((1 : Nat) : Rat) = 1 from rfl] at n1r
    have e : 1 / (n : Rat) * (n : Rat) = 1 := Rat.div_mul_cancel (by grind)
    by_cases hc : 1 / 10000 ≤ 1 / (n : Rat)
    · exact hc
    · have := Rat.mul_lt_mul_of_pos_right (show 1 / (n : Rat) < 1 / 10000 by grind) (show 0 < (n : Rat) by grind)
      grind) (by
    have n1r := nat_rat n1
    rw [show ((1 : Nat) : Rat) = 1 from rfl] at n1r
    have e : 1 / (n : Rat) * (n : Rat) = 1 := Rat.div_mul_cancel (by grind)
    by_cases hc : 1 / (n : Rat) ≤ 2
    · exact hc
    · have := Rat.mul_lt_mul_of_pos_right (show 2 < 1 / (n : Rat) by grind) (show 0 < (n : Rat) by grind)
      grind)
  have lb1 := neg_le_av (Lb (1 / (n : Rat)))
  have e : mxX k (psC cs) (psC ds) = fun i => (1 - (k : Rat) / 16) * psC cs i + (k : Rat) / 16 * psC ds i := rfl
  rw [e] at m3
  generalize Hx (fun i => (1 - (k : Rat) / 16) * psC cs i + (k : Rat) / 16 * psC ds i) n = Z at *
  generalize Hx (fun i => 1 / 2 * psC cs i + 1 / 2 * psC ds i) n = V at *
  generalize hX : Hx (psC cs) n = X at *
  generalize hY : Hx (psC ds) n = Y at *
  generalize Lb (1 / (n : Rat)) = lb0 at *
  generalize FxE (psC cs) (psC ds) n = FF at *
  exact condA a3 b3 m3 e3 S f1 rr rh f0 a4 a5 (by grind) b4 b5 (by grind) (by grind) (by grind) (by grind) (by grind) (by grind) (by grind) (by grind) r2 (by grind) (by grind)
/-- How many of the first words are not nothing. -/
def hcN (xs : List Nat) : Nat → Nat
  | 0 => 0
  | t + 1 => if xs[t]?.getD 0 = 0 then hcN xs t else hcN xs t + 1
theorem hc_le (xs : List Nat) : ∀ t, hcN xs t ≤ t
  | 0 => Nat.le_refl _
  | t + 1 => by
    have := hc_le xs t
    simp only [hcN]
    split <;> omega
theorem Ro.cnt {xs : List Nat} {n : Nat} {p : Nat → Rat} (h : Ro xs n p) : ∀ t, t ≤ n → smN (fun i => if p i = 0 then 0 else 1) t = (hcN xs t : Rat) := by
  intro t
  induction t with
  | zero => intro _; rfl
  | succ t ih =>
    intro ht
    have I := ih (by omega)
    have z := (h.r.el t (by omega)).nil (by decide +kernel)
    simp only [smN, hcN]
    rw [I]
    by_cases h0 : p t = 0
    · rw [if_pos h0, if_pos (z.2 h0)]; grind
    · rw [if_neg h0, if_neg (fun e => h0 (z.1 e)), nat_rat1]
theorem Cn.held {cs : List Nat} {n : Nat} (h : Cn cs n) (n1 : 1 ≤ n) (n8 : n ≤ 8) : 1 ≤ hcN (rowK cs) n ∧ hcN (rowK cs) n ≤ 8 ∧ smN (oeU 0 (rowK cs)) n = (hcN (rowK cs) n : Rat) := by
  have r := h.ro n1 n8
  have e : smN (oeU 0 (rowK cs)) n = (hcN (rowK cs) n : Rat) := by rw [r.zero, r.cnt n (Nat.le_refl _)]
  have u := r.upos od_zero
  have l := hc_le (rowK cs) n
  refine ⟨?_, by omega, e⟩
  rcases Nat.eq_zero_or_pos (hcN (rowK cs) n) with h0 | h0
  · rw [e, h0] at u
    exact absurd u (by decide +kernel)
  · exact h0
theorem part_of {s : Nat} (s1 : 1 ≤ s) (s8 : s ≤ 8) : Rq (1 / 8000000) (qwC 1 s) (1 / (s : Rat)) ∧ qwC 1 s ≤ 1065353216 ∧ 1 / (s : Rat) ≠ 0 ∧ 0 < 1 / (s : Rat) ∧ (s : Rat) * (1 / (s : Rat)) = 1 := by
  have q := (rq_cntW (k := 1) (s := s) (by omega) s1 (by omega) s1).2
  rw [show ((1 : Nat) : Rat) = 1 from rfl] at q
  have q2 := (qwc_all (s := s) (k := 1) (by omega) (by omega) s1 s1).2.1
  have k := nat_rat s1
  rw [show ((1 : Nat) : Rat) = 1 from rfl] at k
  have e : 1 / (s : Rat) * (s : Rat) = 1 := Rat.div_mul_cancel (by grind)
  refine ⟨q, q2, ?_, ?_, by rw [Rat.mul_comm]; exact e⟩
  · intro hc; rw [hc, Rat.zero_mul] at e; exact absurd e (by decide +kernel)
  · by_cases hp : 0 < 1 / (s : Rat)
    · exact hp
    · have := Rat.mul_le_mul_of_nonneg_right (show 1 / (s : Rat) ≤ 0 by grind) (show 0 ≤ (s : Rat) by grind)
      rw [e, Rat.zero_mul] at this
      exact absurd this (by decide +kernel)
theorem sur_ap {s : Nat} (s1 : 1 ≤ s) (s8 : s ≤ 8) : Ap .f32 (fA .sub .f32 0 (enB (qwC 1 s))) (0 - Lb (1 / (s : Rat))) (1 / 80000) := by
  obtain ⟨h, h1, h0, _, _⟩ := part_of s1 s8
  have B := rq_bits h h0 (by decide +kernel)
  have b := Lb_in (h.2.2.1 h0) h.2.2.2.1
  have b' : av (0 - Lb (1 / (s : Rat))) ≤ 14 := by rw [show ∀ z : Rat, 0 - z = -z from fun z => by grind, av_neg]; exact b
  exact (ap_sub (k := .f32) (E := 1 / 80000) zero_ap B b' (by decide +kernel) (by decide +kernel)).2
theorem lb_inv {s : Nat} (s1 : 1 ≤ s) (s8 : s ≤ 8) : av (Lb (s : Rat) - (0 - Lb (1 / (s : Rat)))) ≤ 1 / 1000000 := by
  obtain ⟨_, _, _, h0, e⟩ := part_of s1 s8
  have k := nat_rat s1
  rw [show ((1 : Nat) : Rat) = 1 from rfl] at k
  have m := Lb_mul (x := (s : Rat)) (y := 1 / (s : Rat)) (by grind) h0
  rw [e, Lb_one] at m
  rw [show Lb (s : Rat) - (0 - Lb (1 / (s : Rat))) = -(0 - Lb (s : Rat) - Lb (1 / (s : Rat))) by grind, av_neg]
  exact Rat.le_trans m (by decide +kernel)
theorem factB {cs : List Nat} {n : Nat} (h : Cn cs n) (n1 : 1 ≤ n) (n8 : n ≤ 8) : CondB (entF (rowK cs)) (orW 1056964608 (rowK cs) n) (orW 1073741824 (rowK cs) n) (orW 0 (rowK cs) n) (fA .sub .f32 0 (enB (qwC 1 (hcN (rowK cs) n)))) := by
  obtain ⟨a1, a2, a3, a4, a5⟩ := h.rows n1 n8
  have r := h.ro n1 n8
  obtain ⟨h1, h8, he⟩ := h.held n1 n8
  have o1 := (r.ord od_half).2
  have o2 := (r.ord od_two).2
  have o3 := (r.ord od_zero).2
  have j1 := r.jen od_half
  have j2 := r.jen od_two
  have z := lb_inv h1 h8
  have u := sur_ap h1 h8
  rw [← he] at z u
  rw [show (1 : Rat) - 1 / 2 = 1 / 2 by decide +kernel] at o1 j1
  rw [show (1 : Rat) - 2 = -1 by decide +kernel] at o2 j2
  rw [show (1 : Rat) - 0 = 1 by decide +kernel] at o3
  rw [Rat.div_def, show ((1 : Rat) / 2)⁻¹ = 2 by decide +kernel] at o1
  rw [Rat.div_def, show (-1 : Rat)⁻¹ = -1 by decide +kernel] at o2
  rw [Rat.div_def, show (1 : Rat)⁻¹ = 1 by decide +kernel, Rat.mul_one] at o3
  exact condB a3 o1 o2 o3 u (av_le (by grind) (by grind)) (by grind) (by grind) z
theorem factD {cs ds es : List Nat} {n k : Nat} (h : Cn cs n) (g : Cn ds n) (f : Cn es n) (n1 : 1 ≤ n) (n8 : n ≤ 8) (hk : k < 17) :
    CondD (entF (rowK cs)) (mbS (rowK cs) (rowK (plus 1 es)) n) (fA .sub .f32 0 (ceS (rowK cs) (rowK (plus 1 es)) n)) (mbS (rowK cs) (rowK cs) n) (entF (mxS k (rowK cs) (rowK ds) n)) (mevB (falF (mxS k (rowK cs) (rowK ds) n)) (falF (rowK cs)) n) := by
  obtain ⟨a1, a2, a3, a4, a5⟩ := h.rows n1 n8
  have kr := nat_rat n8
  rw [show ((8 : Nat) : Rat) = 8 from rfl] at kr
  have M := mx_row h g n1 n8 hk
  have m3 := (M.ent (E := 1 / 15000) (by decide +kernel) (by decide +kernel) (by grind)).2.1
  have C := h.cov f n1 n8
  have S : Cov (rowK cs) (rowK cs) n (psC cs) (psC cs) := ⟨C.r, C.r, n8, fun _ _ e => e⟩
  obtain ⟨b1, b2⟩ := C.mbAp
  obtain ⟨_, c1, c2⟩ := C.ceAp
  obtain ⟨d1, d2⟩ := S.mbAp
  have D := dx_nonneg a1 (fun i hi => (C.s.le1 hi).1) a2 C.s.one C.cov
  have B := le_av (DxE (psC cs) (psC (plus 1 es)) n)
  exact condD a3 b1 c1 d1 m3 a4 a5 (by grind) (by grind) cx_eq dx_self _ (fun e => more_even M C.r n8 e)

end Go.Proofs.Ytmocfnpbofeiiaa

/- The calls of the law FnEntropies on its own rows. -/
namespace Go.Proofs.Ytmocfnpbofeiiaa
set_option linter.unusedSimpArgs false
set_option linter.unusedVariables false
open Go.RowKit
open Ieee
theorem entR_any {d : Rat} {xs : List Nat} {n : Nat} {p : Nat → Rat} (h : Rw1 d xs n p) (d0 : 0 ≤ d) (hd : d ≤ 1 / 500000) (n8 : n ≤ 8) (W : World) (u : Value) (hu : SlR W u (xs.map (Value.float .f32))) :
    Calls Try.prog 33 #[u] W fun e w' => e = .returned (.tuple #[.float .f32 (entF xs), .bool true]) ∧ Below W.heap.size W w' := by
  have := implEntropyOf_any u xs W hu h.lt32
  rw [(eo_row h d0 hd n8).1] at this
  exact this.mono fun e w' hq => ⟨hq.1, hq.2.keep⟩
theorem isR_any {d : Rat} {xs : List Nat} {n : Nat} {p : Nat → Rat} (h : Rw1 d xs n p) (d0 : 0 ≤ d) (hd : d ≤ 1 / 500000) (n8 : n ≤ 8) (W : World) (u : Value) (hu : SlR W u (xs.map (Value.float .f32))) :
    Calls Try.prog 50 #[u] W fun e w' => e = .returned (.bool true) ∧ Below W.heap.size W w' := by
  have := isRow_any u xs W hu h.lt32
  rw [h.row d0 (by grind) (by omega)] at this
  exact this.mono fun e w' hq => ⟨hq.1, hq.2.keep⟩
theorem spR_any {cs ds : List Nat} {n : Nat} (h : Cn cs n) (g : Cn ds n) (n1 : 1 ≤ n) (n8 : n ≤ 8) (W : World) (u v : Value) (hu : SlR W u ((rowK cs).map (Value.float .f32))) (hv : SlR W v ((rowK ds).map (Value.float .f32))) :
    Calls Try.prog 47 #[u, v] W fun e w' => e = .returned (.tuple #[.float .f32 (spV (rowK cs) (rowK ds)), .bool true]) ∧ Below W.heap.size W w' := by
  have := impl_SpreadOf W u (rowK cs) hu (h.lt n1 n8) (by rw [rowK_len, h.len]; omega) v (rowK ds) hv (g.lt n1 n8) (by rw [rowK_len, g.len]; omega)
  rw [(sp_rows h g n1 n8).1] at this
  exact this
theorem ffR_any {cs : List Nat} {n : Nat} (h : Cn cs n) (n1 : 1 ≤ n) (n8 : n ≤ 8) (W : World) (u : Value) (hu : SlR W u ((rowK cs).map (Value.float .f32))) :
    Calls Try.prog 48 #[u, u] W fun e w' => e = .returned (.tuple #[.float .f32 0, .bool true]) ∧ Below W.heap.size W w' := by
  have r := h.rw1 n1 (by omega)
  have := FarOfRows_any (Two.mk r r n8) W u u hu hu
  rw [fa_zero h n1 n8] at this
  exact this.mono fun e w' hq => ⟨hq.1, hq.2.keep⟩
theorem meR_any {d f : Rat} {xs ys : List Nat} {n : Nat} {p q : Nat → Rat} (h : Rw1 d xs n p) (g : Rw1 f ys n q) (d0 : 0 ≤ d) (hd : d ≤ 1 / 500000) (f0 : 0 ≤ f) (hf : f ≤ 1 / 500000) (n8 : n ≤ 8) (W : World) (u v : Value) (hu : SlR W u (xs.map (Value.float .f32))) (hv : SlR W v (ys.map (Value.float .f32))) :
    Calls Try.prog 56 #[u, v] W fun e w' => e = .returned (.tuple #[.bool (mevB (falF xs) (falF ys) n), .bool true]) ∧ Below W.heap.size W w' := by
  have := impl_IsMoreEven W u xs hu h.lt32 (by rw [h.len]; omega) v ys hv g.lt32 (by rw [g.len]; omega)
  unfold out_IsMoreEven at this
  rw [if_pos (tw_rows h g d0 hd f0 hf n8), h.len] at this
  exact this
theorem esR_any {cs ds : List Nat} {n : Nat} (h : Cn cs n) (g : Cn ds n) (n1 : 1 ≤ n) (n8 : n ≤ 8) (W : World) (u : Value) (k : Nat) (hk : k < 8) (hu : MxR W (Value.float .f32) u [rowK cs, rowK ds]) :
    Calls Try.prog 57 #[u, .int .i64 (((1 + k : Nat) : Int))] W (RetSl W 32 2 ([entF (rowK cs), entF (rowK ds)].map (Value.float .f32)) (fun v => .tuple #[v, .bool true])) := by
  have x := eo_row (h.rw1 n1 (by omega)) (by decide +kernel) (by decide +kernel) n8
  have y := eo_row (g.rw1 n1 (by omega)) (by decide +kernel) (by decide +kernel) n8
  have lx : (rowK cs).length = n := by rw [rowK_len, h.len]
  have ly : (rowK ds).length = n := by rw [rowK_len, g.len]
  have hI : inB ((1 + k : Nat) : Int) 1 8 = true := by unfold inB; exact decide_eq_true (by omega)
  have := impl_EntropiesShared W u [rowK cs, rowK ds] hu (fun ls hls => by
    rcases List.mem_cons.1 hls with e | hls
    · rw [e]; exact h.lt n1 n8
    · rw [List.mem_singleton.1 hls]; exact g.lt n1 n8) (by simp only [tot, List.map, List.sum_cons, List.sum_nil, List.length]; omega) ((1 + k : Nat) : Int) (by unfold I64; omega)
  have e : out_EntropiesShared [rowK cs, rowK ds] ((1 + k : Nat) : Int) = ([entF (rowK cs), entF (rowK ds)], true) := by
    rw [outES_yes (by unfold esOk; rw [hI]; simp [x.1, y.1])]
    simp [esT, x.1, y.1]
  rw [e] at this
  exact this
theorem mx2 {W : World} {B : Nat} {a b : Value} {xs ys : List Nat} (hu : SlR W (.slice (some ⟨B, 0, none⟩) 2 2) [a, b]) (ha : SlR W a (xs.map (Value.float .f32))) (hb : SlR W b (ys.map (Value.float .f32))) : MxR W (Value.float .f32) (.slice (some ⟨B, 0, none⟩) 2 2) [xs, ys] :=
  ⟨[a, b], hu, rfl, fun k zs hz => by
    match k, hz with
    | 0, hz => simp at hz; subst hz; exact ⟨a, rfl, ha⟩
    | 1, hz => simp at hz; subst hz; exact ⟨b, rfl, hb⟩⟩

end Go.Proofs.Ytmocfnpbofeiiaa
