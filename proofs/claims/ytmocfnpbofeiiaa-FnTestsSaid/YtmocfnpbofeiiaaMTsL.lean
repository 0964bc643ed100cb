/- Rows of chances drawn from bytes: what they are near. -/
import Derived.Test.YtmocfnpbofeiiaaMBcC
import Derived.Test.YtmocfnpbofeiiaaMTeR
import Derived.Test.YtmocfnpbofeiiaaMFtP4
import Derived.Test.YtmocfnpbofeiiaaMAbo
import Derived.Test.YtmocfnpbofeiiaaMGpP
import Derived.Test.YtmocfnpbofeiiaaMFbi
import Derived.Test.YtmocfnpbofeiiaaMB10
namespace Go.Proofs.Ytmocfnpbofeiiaa
set_option linter.unusedSimpArgs false
set_option linter.unusedVariables false
open Go.RowKit
open Ieee
/-- A row drawn: 2 or 3 numbers from 1 to 6. -/
structure Dr (ks : List Nat) (L : Nat) : Prop where
  len : ks.length = L
  two : L = 2 ∨ L = 3
  one : ∀ k ∈ ks, 1 ≤ k ∧ k ≤ 6
/-- A quotient's word. -/
def qw (k s : Nat) : Nat := fA .quo .f32 (fw k) (fw s)
def qwOk (s k : Nat) : Bool := !(decide (1 ≤ k) && decide (k < s)) || ((decide (rg single (qw k s) < single.infRung) && decide (0 < qw k s) && decide (qw k s ≤ 1065353216)) && decide ((1 : Rat) / 19 ≤ sv single (qw k s)) && decide ((1 : Rat) / 100 ≤ (k : Rat) / (s : Rat)) && decide ((k : Rat) / (s : Rat) ≤ 1) && decide (av (sv single (qw k s) - (k : Rat) / (s : Rat)) ≤ (k : Rat) / (s : Rat) * (1 / 8000000)))
theorem qwOk_all : ∀ s : Nat, s < 19 → ∀ k : Nat, k < 7 → qwOk s k = true := by decide +kernel
theorem qw_all (s : Nat) (hs : s < 19) (k : Nat) (hk : k < 7) (h1 : 1 ≤ k) (h2 : k < s) : (rg single (qw k s) < single.infRung ∧ 0 < qw k s ∧ qw k s ≤ 1065353216) ∧ 1 / 19 ≤ sv single (qw k s) ∧ (1 / 100 ≤ (k : Rat) / (s : Rat) ∧ (k : Rat) / (s : Rat) ≤ 1) ∧ av (sv single (qw k s) - (k : Rat) / (s : Rat)) ≤ (k : Rat) / (s : Rat) * (1 / 8000000) := by
  have h := qwOk_all s hs k hk
  unfold qwOk at h
  rw [decide_eq_true h1, decide_eq_true h2] at h
  simp only [Bool.and_self, Bool.not_true, Bool.false_or, Bool.and_eq_true, decide_eq_true_eq] at h
  obtain ⟨⟨⟨⟨⟨⟨a, b⟩, c⟩, d⟩, e⟩, f⟩, g⟩ := h
  exact ⟨⟨a, b, c⟩, d, ⟨e, f⟩, g⟩
theorem Dr.sum {ks : List Nat} {L : Nat} (h : Dr ks L) : ks.sum < 19 ∧ ∀ k ∈ ks, k < ks.sum := by
  obtain ⟨hl, hL, h1⟩ := h
  match ks, hl, h1 with
  | [], hl, _ => simp at hl; omega
  | [a], hl, _ => simp at hl; omega
  | [a, b], _, h1 =>
    have ha := h1 a (by simp)
    have hb := h1 b (by simp)
    refine ⟨by simp; omega, fun k hk => ?_⟩
    simp at hk ⊢
    omega
  | [a, b, c], _, h1 =>
    have ha := h1 a (by simp)
    have hb := h1 b (by simp)
    have hc := h1 c (by simp)
    refine ⟨by simp; omega, fun k hk => ?_⟩
    simp at hk ⊢
    omega
  | a :: b :: c :: d :: r, hl, _ => simp at hl; omega
theorem Dr.at {ks : List Nat} {L : Nat} (h : Dr ks L) {j : Nat} (hj : j < L) : 1 ≤ ks[j]?.getD 0 ∧ ks[j]?.getD 0 < 7 ∧ ks[j]?.getD 0 < ks.sum ∧ (rowK ks)[j]?.getD 0 = qw (ks[j]?.getD 0) ks.sum := by
  have hjl : j < ks.length := by rw [h.len]; exact hj
  have hm : ks[j]?.getD 0 ∈ ks := by rw [List.getElem?_eq_getElem hjl]; exact List.getElem_mem _
  refine ⟨(h.one _ hm).1, by have := (h.one _ hm).2; omega, h.sum.2 _ hm, ?_⟩
  simp only [rowK, List.getElem?_map]
  rw [List.getElem?_eq_getElem hjl]
  rfl
theorem rowK_length (ks : List Nat) : (rowK ks).length = ks.length := by simp [rowK]
def psK (ks : List Nat) (j : Nat) : Rat := ((ks[j]?.getD 0 : Nat) : Rat) / ((ks.sum : Nat) : Rat)
theorem Dr.rr {ks : List Nat} {L : Nat} (h : Dr ks L) {j : Nat} (hj : j < L) : Rr ((rowK ks)[j]?.getD 0) (psK ks j) := by
  obtain ⟨a1, a2, a3, a4⟩ := h.at hj
  obtain ⟨⟨q1, _, _⟩, _, ⟨q4, q5⟩, q6⟩ := qw_all ks.sum h.sum.1 (ks[j]?.getD 0) a2 a1 a3
  rw [a4]
  exact ⟨q1, .inr q4, q5, q6⟩
theorem Dr.ps_one {ks : List Nat} {L : Nat} (h : Dr ks L) : smN (psK ks) L = 1 := by
  have hs : ((ks.sum : Nat) : Rat) ≠ 0 := by
    have : 1 ≤ ks.sum := by
      rcases h.two with e | e
      · have := h.at (j := 0) (by omega); omega
      · have := h.at (j := 0) (by omega); omega
    have : (1 : Rat) ≤ ((ks.sum : Nat) : Rat) := by exact_mod_cast this
    grind
  obtain ⟨hl, hL, h1⟩ := h
  match ks, hl with
  | [], hl => simp at hl; omega
  | [a], hl => simp at hl; omega
  | [a, b], hl =>
    obtain rfl : L = 2 := by simpa using hl.symm
    have e : (([a, b].sum : Nat) : Rat) = (a : Rat) + (b : Rat) := by simp [Rat.natCast_add]
    simp only [smN, psK]
    rw [e] at hs ⊢
    simp only [List.getElem?_cons_zero, List.getElem?_cons_succ, Option.getD_some]
    grind
  | [a, b, c], hl =>
    obtain rfl : L = 3 := by simpa using hl.symm
    have e : (([a, b, c].sum : Nat) : Rat) = (a : Rat) + ((b : Rat) + (c : Rat)) := by simp [Rat.natCast_add]
    simp only [smN, psK]
    rw [e] at hs ⊢
    simp only [List.getElem?_cons_zero, List.getElem?_cons_succ, Option.getD_some]
    grind
  | a :: b :: c :: d :: r, hl => simp at hl; omega
theorem Dr.rw {ks : List Nat} {L : Nat} (h : Dr ks L) : Rw (rowK ks) (psK ks) L := ⟨by rw [rowK_length, h.len], h.two, fun _ hj => h.rr hj, h.ps_one⟩
theorem Ln_19 : -3 + 10 * eta ≤ Ln (1 / 19) := by
  have e := Ln_at (m := 16 / 19) (by decide +kernel) (by decide +kernel) (-4)
  rw [show (16 / 19 : Rat) * 2 ^ (-4 : Int) = 1 / 19 by decide +kernel] at e
  rw [e]
  decide +kernel
theorem Dr.crw {ks : List Nat} {L : Nat} (h : Dr ks L) : Crw (rowK ks) := by
  intro x hx
  obtain ⟨j, hj, rfl⟩ := List.getElem_of_mem hx
  have hjL : j < L := by rw [rowK_length, h.len] at hj; exact hj
  obtain ⟨a1, a2, a3, a4⟩ := h.at hjL
  obtain ⟨⟨_, q1, q2⟩, q3, _, _⟩ := qw_all ks.sum h.sum.1 (ks[j]?.getD 0) a2 a1 a3
  rw [List.getElem?_eq_getElem hj, Option.getD_some] at a4
  rw [a4]
  refine ⟨q1, q2, ?_⟩
  have := Ln_mono (x := 1 / 19) (by decide +kernel) q3
  have := Ln_19
  generalize Ln (sv single (qw (ks[j]?.getD 0) ks.sum)) = l at *
  generalize Ln (1 / 19) = m at *
  clear q3
  grind
theorem Dr.rsum {ks : List Nat} {L : Nat} (h : Dr ks L) : av (rsum (rowK ks) - 1) ≤ 1 / 100000 := by
  have key : ∀ m, m ≤ L → av (smN (fun i => sv single ((rowK ks)[i]?.getD 0)) m - smN (psK ks) m) ≤ smN (psK ks) m * (1 / 8000000) := by
    intro m
    induction m with
    | zero => intro _; simp only [smN]; decide +kernel
    | succ m ih =>
      intro hm
      have h1 := ih (by omega)
      have h2 := (h.rr (j := m) (by omega)).2.2.2
      simp only [smN]
      have h3 := av_add_le h1 h2
      rw [show ∀ a b c d : Rat, a - b + (c - d) = a + c - (b + d) from fun a b c d => by grind] at h3
      refine Rat.le_trans h3 ?_
      generalize smN (psK ks) m = p at *
      generalize psK ks m = q at *
      grind
  have k := key L (Nat.le_refl _)
  rw [h.ps_one] at k
  unfold Proofs.Ytmocfnpbofeiiaa.rsum
  rw [rowK_length, h.len]
  refine Rat.le_trans k ?_
  decide +kernel
theorem row2 : ∀ a : Nat, a < 6 → ∀ b : Nat, b < 6 → rowB (rowK [a + 1, b + 1]) = true := by decide +kernel
theorem row3 : ∀ a : Nat, a < 6 → ∀ b : Nat, b < 6 → ∀ c : Nat, c < 6 → rowB (rowK [a + 1, b + 1, c + 1]) = true := by decide +kernel
theorem Dr.rowB {ks : List Nat} {L : Nat} (h : Dr ks L) : rowB (rowK ks) = true := by
  obtain ⟨hl, hL, h1⟩ := h
  match ks, hl, h1 with
  | [], hl, _ => simp at hl; omega
  | [a], hl, _ => simp at hl; omega
  | [a, b], _, h1 =>
    have ha := h1 a (by simp)
    have hb := h1 b (by simp)
    have := row2 (a - 1) (by omega) (b - 1) (by omega)
    rwa [show a - 1 + 1 = a by omega, show b - 1 + 1 = b by omega] at this
  | [a, b, c], _, h1 =>
    have ha := h1 a (by simp)
    have hb := h1 b (by simp)
    have hc := h1 c (by simp)
    have := row3 (a - 1) (by omega) (b - 1) (by omega) (c - 1) (by omega)
    rwa [show a - 1 + 1 = a by omega, show b - 1 + 1 = b by omega, show c - 1 + 1 = c by omega] at this
  | a :: b :: c :: d :: r, hl, _ => simp at hl; omega
theorem Dr.abv {ks js : List Nat} {L : Nat} (h : Dr ks L) (g : Dr js L) : abvB (rowK ks) (rowK js) = true := by
  have z : ∀ {ks : List Nat}, Dr ks L → ∀ x ∈ rowK ks, zB x = false := by
    intro ks h x hx
    obtain ⟨p, q, _⟩ := h.crw x hx
    unfold zB
    exact decide_eq_false (by omega)
  unfold abvB twB
  rw [h.rowB, g.rowB, rowK_length, rowK_length, h.len, g.len]
  have : (rowK ks ++ rowK js).any zB = false := by
    rw [List.any_eq_false]
    intro x hx
    rcases List.mem_append.1 hx with hx | hx
    · rw [z h x hx]; simp
    · rw [z g x hx]; simp
  rw [this]
  simp
theorem Dr.both {ks js : List Nat} {L : Nat} (h : Dr ks L) (g : Dr js L) : Two (rowK ks) (rowK js) :=
  ⟨h.crw, g.crw, by rw [rowK_length, rowK_length, h.len, g.len], by rw [rowK_length, h.len]; rcases h.two with e | e <;> omega, by rw [rowK_length, h.len]; rcases h.two with e | e <;> omega, h.rsum, g.rsum⟩
theorem Dr.lt {ks : List Nat} {L : Nat} (h : Dr ks L) : ∀ x ∈ rowK ks, x < 4294967296 := fun x hx => by obtain ⟨_, q, _⟩ := h.crw x hx; omega

end Go.Proofs.Ytmocfnpbofeiiaa

/- What the law FnTests asks of rows drawn. -/
namespace Go.Proofs.Ytmocfnpbofeiiaa
set_option linter.unusedSimpArgs false
set_option linter.unusedVariables false
open Go.RowKit
open Ieee
/-- A finite single word, widened. -/
theorem up_all {x : Nat} (h : Fnt single x) : (floatToFloatBits .f32 x .f64).isSome = true ∧ Fnt double (up64 x) ∧ sv double (up64 x) = sv single x := by
  obtain ⟨a, b, c⟩ := up_sv h
  exact ⟨by rw [a]; rfl, b, c⟩
theorem fnt_finB {x : Nat} (h : Fnt single x) : finB x = true ∧ fz x = x := by
  have hb : finB x = true := by
    have h2 : rg single x < 2139095040 := by unfold Fnt at h; rw [s_inf] at h; exact h
    rw [rgs] at h2
    exact decide_eq_true h2
  exact ⟨hb, by unfold fz; rw [hb]; rfl⟩
theorem len_pos {ks : List Nat} {L : Nat} (h : Dr ks L) : 2 ≤ L ∧ L ≤ 3 := by rcases h.two with e | e <;> omega
theorem tys_mem {ks cs : List Nat} {L n : Nat} (K : Dr ks L) (hn : n ≤ 7) (h : cs ∈ tysL n L) : Ty n L cs := (ty_of (n := n) (by omega) K.two).2 cs h
theorem abv_both {ks js : List Nat} {L : Nat} (K : Dr ks L) (J : Dr js L) : Abv (rowK ks) ∧ Abv (rowK js) := by
  obtain ⟨_, a, b, _⟩ := abvB_abv (K.abv J)
  exact ⟨a, b⟩
theorem enB_bd3 {xs : List Nat} (h : Crw xs) {j : Nat} (hj : j < xs.length) : Bd .f32 3 (enB (xs[j]?.getD 0)) := by
  obtain ⟨h0, h1, h2⟩ := h.at hj
  obtain ⟨_, _, h3⟩ := cw_val h0 h1
  have he : eta ≤ 1 / 1000000 := by decide +kernel
  have hB : av (Ln (sv single (xs[j]?.getD 0))) ≤ 3 := by
    clear h0 h1
    generalize Ln (sv single (xs[j]?.getD 0)) = l at *
    exact av_le (by grind) (by grind)
  have k1 := lnF_ap (B := 3) (E := 1 / 2600000) h0 (by omega) hB (by decide +kernel) (by decide +kernel)
  have k2 := enB_ap (B := 3) (E := 1 / 100) k1 hB (by decide +kernel) (by decide +kernel)
  have hq : av (Ln (sv single (xs[j]?.getD 0)) / lnC) ≤ 5 := by
    rw [Rat.div_def]
    exact Rat.le_trans (av_mul_le' hB (show av lnC⁻¹ ≤ 3 / 2 by decide +kernel)) (by decide +kernel)
  have := k2.val hq
  exact Rat.le_trans this (by decide +kernel)
theorem foi_bd3 : ∀ c : Nat, c < 8 → rg single (floatOfInt .f32 (c : Int)) ≤ WK .f32 3 := by decide +kernel
theorem sv_m1000 : Fnt single 3296329728 ∧ sv single 3296329728 = -1000 := by
  refine ⟨by unfold Fnt; decide, by decide +kernel⟩
section
variable {ks js : List Nat} {L n : Nat} (K : Dr ks L) (J : Dr js L) (hn : n ≤ 7)
include K J hn
/-- The errors by a bar. -/
theorem te_out {b : Nat} (hb : Fnt single b) : out_TestErrors (rowK ks) (rowK js) (n : Int) b = ((teF (rowK ks) (rowK js) L b (tysL n L)).1, (teF (rowK ks) (rowK js) L b (tysL n L)).2, true) := by
  have hok : teOk (rowK ks) (rowK js) (n : Int) b = true := by
    unfold teOk
    rw [K.abv J, rowK_length, K.len, (fnt_finB hb).1]
    have := len_pos K
    rw [decide_eq_true (show 2 ≤ L by omega), decide_eq_true (show L ≤ 3 by omega)]
    have : inB (n : Int) 0 12 = true := by unfold inB; exact decide_eq_true (by omega)
    rw [this]; rfl
  unfold out_TestErrors
  rw [hok, Int.toNat_natCast, rowK_length, K.len]
  rfl
theorem te_fin {b : Nat} : Fnt single (teF (rowK ks) (rowK js) L b (tysL n L)).1 ∧ Fnt single (teF (rowK ks) (rowK js) L b (tysL n L)).2 := by
  obtain ⟨hx, hy⟩ := abv_both K J
  obtain ⟨h91, hT⟩ := ty_of (n := n) (by omega) K.two
  obtain ⟨a, b⟩ := teF_bd (bar := b) (by omega) hx hy (by rw [rowK_length, K.len]) (by rw [rowK_length, J.len]) _ hT h91
  exact ⟨a.fnt (by show _ ≤ 127; omega), b.fnt (by show _ ≤ 127; omega)⟩
theorem te_bars {b c : Nat} (hb : Fnt single b) (hc : Fnt single c) (hbc : sv single b ≤ sv single c) :
    0 ≤ sv single (teF (rowK ks) (rowK js) L b (tysL n L)).1 ∧ 0 ≤ sv single (teF (rowK ks) (rowK js) L c (tysL n L)).2 ∧ sv single (teF (rowK ks) (rowK js) L b (tysL n L)).1 ≤ sv single (teF (rowK ks) (rowK js) L c (tysL n L)).1 ∧ sv single (teF (rowK ks) (rowK js) L c (tysL n L)).2 ≤ sv single (teF (rowK ks) (rowK js) L b (tysL n L)).2 := by
  obtain ⟨hx, hy⟩ := abv_both K J
  obtain ⟨h91, hT⟩ := ty_of (n := n) (by omega) K.two
  have := te_mono (by omega) hx hy (by rw [rowK_length, K.len]) (by rw [rowK_length, J.len]) (len_pos K).2 hb hc hbc hT h91 (fun cs h => (ch_near K.rw hn h).2.2.1) (fun cs h => (ch_near J.rw hn h).2.2.1) _ (Nat.le_refl _)
  rw [List.take_length] at this
  exact ⟨this.1.1, this.1.2, this.2.1, this.2.2⟩
theorem te_le {b : Nat} : sv single (teF (rowK ks) (rowK js) L b (tysL n L)).1 ≤ 10001 / 10000 := by
  obtain ⟨hx, hy⟩ := abv_both K J
  obtain ⟨h91, hT⟩ := ty_of (n := n) (by omega) K.two
  have := (te_all (b := b) (by omega) hx hy (by rw [rowK_length, K.len]) (by rw [rowK_length, J.len]) hT h91 (fun cs h => (ch_near K.rw hn h).2.2.1) _ (Nat.le_refl _)).2.1
  rw [List.take_length] at this
  have h2 := Rat.le_trans (le_av _) (ch_all K.rw hn).2
  generalize sv single (flS (fun i => chF (rowK ks) ((tysL n L)[i]?.getD []) L) (tysL n L).length) = f at *
  generalize sv single (teF (rowK ks) (rowK js) L b (tysL n L)).1 = g at *
  grind
/-- A type's score is far above -1000. -/
theorem sf_bd9 {cs : List Nat} (hc : cs ∈ tysL n L) : ∀ j, j ≤ L → Bd .f32 (6 + j) (sfP (rowK ks) (rowK js) cs j) := by
  have hT := tys_mem K hn hc
  have hL := len_pos K
  have tm : ∀ j, j < L → Bd .f32 7 (trm ((rowK ks)[j]?.getD 0) ((rowK js)[j]?.getD 0) (cs[j]?.getD 0)) := by
    intro j hj
    have e1 := enB_bd3 K.crw (j := j) (by rw [rowK_length, K.len]; omega)
    have e2 := enB_bd3 J.crw (j := j) (by rw [rowK_length, J.len]; omega)
    have d := (bd_sub e1 e2 (by decide)).2.1
    obtain ⟨a, b⟩ := hT.at (j := j) hj
    have c3 : Bd .f32 3 (floatOfInt .f32 ((cs[j]?.getD 0 : Nat) : Int)) := Bd.of (foi_bd3 _ (by omega))
    exact (bd_mul c3 d (by decide) (by decide)).2.1
  intro j
  induction j with
  | zero => intro _; exact bd_zero _
  | succ j ih =>
    intro hj
    have i1 := ih (by omega)
    have m := tm j (by omega)
    by_cases h0 : j = 0
    · subst h0
      obtain ⟨_, _, r⟩ := bd_add (bd_zero 7) m (by decide)
      have e : sv FloatKind.f32.format 0 = 0 := by decide +kernel
      rw [e, Rat.zero_add] at r
      exact bd_rnd r m
    · exact (bd_add i1 (m.mono (show 7 ≤ 6 + j by omega)) (by show 6 + j + 1 ≤ 127; omega)).2.1
/-- Below all scores: nothing is missed, and all is taken. -/
theorem te_low : (teF (rowK ks) (rowK js) L 3296329728 (tysL n L)).1 = 0 ∧ av (sv single (teF (rowK ks) (rowK js) L 3296329728 (tysL n L)).2 - 1) ≤ 1 / 10000 := by
  obtain ⟨f0, f1⟩ := sv_m1000
  have hg : ∀ cs ∈ tysL n L, geF (sfP (rowK ks) (rowK js) cs L) 3296329728 = true := by
    intro cs hc
    have hb := sf_bd9 K J hn hc L (Nat.le_refl _)
    have hL := len_pos K
    have hf := hb.fnt (by show 6 + L ≤ 127; omega)
    unfold Bd at hb
    have h2 := Rat.le_trans (neg_le_av _) hb
    have h3 : pv 1 ((6 + L : Nat) : Int) ≤ 512 := Rat.le_trans (p2_le (show 6 + L ≤ 9 by omega)) (by decide +kernel)
    unfold geF
    rw [show (FloatKind.f32.format.order (sfP (rowK ks) (rowK js) cs L) 3296329728 == some .lt) = false from ord_lt_no hf f0 (by
      rw [show FloatKind.f32.format = single from rfl, f1]
      rw [show FloatKind.f32.format = single from rfl] at h2
      generalize sv single (sfP (rowK ks) (rowK js) cs L) = s at *
      clear hb
      grind)]
    rfl
  have h := te_taken (b := 3296329728) hg _ (Nat.le_refl _)
  rw [List.take_length] at h
  rw [h]
  exact ⟨rfl, (ch_all J.rw hn).2⟩
end

end Go.Proofs.Ytmocfnpbofeiiaa

/- What the law FnTests asks of how far rows are apart. -/
namespace Go.Proofs.Ytmocfnpbofeiiaa
set_option linter.unusedSimpArgs false
set_option linter.unusedVariables false
open Go.RowKit
open Ieee
theorem fPh_eq {xs ys : List Nat} {s : Nat} {p : Nat → Rat} {c : Rat} (T : Two xs ys) (hs : Sh s) (hp : ∀ i, i < xs.length → 0 < p i ∧ av (Ln (fE xs ys s i) - Ln (p i)) ≤ c) : av (fPh xs ys s - Ln (smN p xs.length)) ≤ c + 40 * eta := by
  have a := lse1 (p := fE xs ys s) (q := p) (n := xs.length) (c := c) T.h1 (fun i hi => (fE_ln hs T.hx T.hy T.hl hi).1) (fun i hi => (hp i hi).1) (fun i hi => by
    have := Rat.le_trans (le_av _) (hp i hi).2
    grind)
  have b := lse1 (p := p) (q := fE xs ys s) (n := xs.length) (c := c) T.h1 (fun i hi => (hp i hi).1) (fun i hi => (fE_ln hs T.hx T.hy T.hl hi).1) (fun i hi => by
    have := Rat.le_trans (neg_le_av _) (hp i hi).2
    grind)
  unfold fPh
  generalize Ln (smN (fE xs ys s) xs.length) = u at *
  generalize Ln (smN p xs.length) = v at *
  clear hp
  exact av_le (by grind) (by grind)
theorem rsum_ln {xs : List Nat} (h : av (rsum xs - 1) ≤ 1 / 100000) : av (Ln (rsum xs)) ≤ 1 / 90000 := by
  have k := (Ln_nearer (x := rsum xs) (y := 1) (d := 1 / 100000) (by decide +kernel) (by decide +kernel) (by rw [Rat.mul_one]; exact h)).2
  rw [Ln_one, show Ln (rsum xs) - 0 = Ln (rsum xs) by grind] at k
  exact Rat.le_trans k (by decide +kernel)
theorem sh_zero : Sh 0 := ⟨by unfold Fnt; decide, by decide +kernel, by decide +kernel⟩
theorem sh_quarter : Sh 1048576000 := ⟨by unfold Fnt; decide, by decide +kernel, by decide +kernel⟩
theorem sv_zero0 : sv single 0 = 0 := by decide +kernel
theorem e40 : 1 / 600000 + 40 * eta ≤ 1 / 590000 := by decide +kernel
/-- At the share zero: the second row alone. -/
theorem Two.zero {xs ys : List Nat} (T : Two xs ys) : av (fPh xs ys 0) ≤ 1 / 70000 := by
  have h := fPh_eq (p := fun i => sv single (ys[i]?.getD 0)) (c := 1 / 600000) T sh_zero (fun i hi => ⟨cw_two (T.hy.at (by rw [T.hl]; exact hi)), by
    have := (fE_ln sh_zero T.hx T.hy T.hl hi).2
    rw [sv_zero0] at this
    rw [show (0 : Rat) * Ln (sv single (xs[i]?.getD 0)) + (1 - 0) * Ln (sv single (ys[i]?.getD 0)) = Ln (sv single (ys[i]?.getD 0)) by grind] at this
    exact this⟩)
  have k := rsum_ln T.sy
  unfold rsum at k
  rw [T.hl] at k
  have m := av_add_le (Rat.le_trans h e40) k
  rw [show ∀ a b : Rat, a - b + b = a from fun a b => by grind] at m
  exact Rat.le_trans m (by decide +kernel)
/-- A row beside itself. -/
theorem Two.own {xs : List Nat} (T : Two xs xs) {s : Nat} (hs : Sh s) : av (fPh xs xs s) ≤ 1 / 70000 := by
  have h := fPh_eq (p := fun i => sv single (xs[i]?.getD 0)) (c := 1 / 600000) T hs (fun i hi => ⟨cw_two (T.hx.at hi), by
    have := (fE_ln hs T.hx T.hy T.hl hi).2
    rw [show sv single s * Ln (sv single (xs[i]?.getD 0)) + (1 - sv single s) * Ln (sv single (xs[i]?.getD 0)) = Ln (sv single (xs[i]?.getD 0)) by grind] at this
    exact this⟩)
  have k := rsum_ln T.sx
  unfold rsum at k
  have m := av_add_le (Rat.le_trans h e40) k
  rw [show ∀ a b : Rat, a - b + b = a from fun a b => by grind] at m
  exact Rat.le_trans m (by decide +kernel)
/-- By halves, both ways round. -/
theorem Two.back {xs ys : List Nat} (T : Two xs ys) (U : Two ys xs) : av (fPh ys xs 1056964608 - fPh xs ys 1056964608) ≤ 1 / 200000 := by
  have h := fPh_eq (p := fE xs ys 1056964608) (c := 2 / 600000) U sh_half (fun i hi => by
    have hi' : i < xs.length := by rw [← T.hl]; exact hi
    have a := fE_ln sh_half T.hx T.hy T.hl hi'
    have b := fE_ln sh_half U.hx U.hy U.hl hi
    refine ⟨a.1, ?_⟩
    have c := av_sub_le b.2 a.2
    rw [ss_half2] at c
    have e : ∀ p q x y : Rat, p - (1 / 2 * y + (1 - 1 / 2) * x) - (q - (1 / 2 * x + (1 - 1 / 2) * y)) = p - q := fun p q x y => by grind
    rw [e] at c
    exact Rat.le_trans c (by decide +kernel))
  have e : Ln (smN (fE xs ys 1056964608) ys.length) = fPh xs ys 1056964608 := by unfold fPh; rw [T.hl]
  rw [e] at h
  exact Rat.le_trans h (by decide +kernel)
/-- A float from its logarithm. -/
theorem far_of {f g c b B : Rat} (c1 : 6931471 / 10000000 ≤ c) (h1 : -(1 / 500000) - g ≤ f * c) (h2 : f * c ≤ 1 / 500000 - g) (hg : av g ≤ b) (hB : 1 / 500000 + b ≤ B * (6931471 / 10000000)) (hB0 : 0 ≤ B) : av f ≤ B := by
  have g1 := Rat.le_trans (le_av _) hg
  have g2 := Rat.le_trans (neg_le_av _) hg
  have k := Rat.mul_le_mul_of_nonneg_left c1 hB0
  refine av_le ?_ ?_
  · by_cases h : f ≤ B
    · exact h
    · have := Rat.mul_lt_mul_of_pos_right (show B < f by grind) (show 0 < c by grind)
      grind
  · by_cases h : -B ≤ f
    · exact h
    · have := Rat.mul_lt_mul_of_pos_right (show f < -B by grind) (show 0 < c by grind)
      grind
theorem far_small {xs ys : List Nat} (T : Two xs ys) {s : Nat} (hs : Sh s) {b B : Rat} (hg : av (fPh xs ys s) ≤ b) (hB : 1 / 500000 + b ≤ B * (6931471 / 10000000)) (hB0 : 0 ≤ B) : Fnt single (farF xs ys s) ∧ av (sv single (farF xs ys s)) ≤ B := by
  obtain ⟨a, h1, h2⟩ := T.far hs
  exact ⟨a, far_of lnC_b.1 h1 h2 hg hB hB0⟩
theorem far_ten {xs ys : List Nat} (T : Two xs ys) {s : Nat} (hs : Sh s) : Fnt single (farF xs ys s) ∧ av (sv single (farF xs ys s)) ≤ 5 := by
  obtain ⟨p1, p2, _, _⟩ := fPh_in hs T.hx T.hy T.hl T.h1 T.sx T.sy
  exact far_small T hs (b := 31 / 10) (av_le (by generalize fPh xs ys s = g at *; grind) (by generalize fPh xs ys s = g at *; grind)) (by decide +kernel) (by decide +kernel)
theorem far_up {xs ys : List Nat} (T : Two xs ys) : -(1 / 10000) ≤ sv single (farF xs ys 1056964608) := by
  obtain ⟨p1, _, _, _⟩ := fPh_in sh_half T.hx T.hy T.hl T.h1 T.sx T.sy
  obtain ⟨a, h1, h2⟩ := T.far sh_half
  have c := lnC_b.1
  generalize sv single (farF xs ys 1056964608) = f at *
  generalize fPh xs ys 1056964608 = g at *
  generalize lnC = l at *
  by_cases h : -(1 / 10000) ≤ f
  · exact h
  · have := Rat.mul_lt_mul_of_pos_right (show f < -(1 / 10000) by grind) (show 0 < l by grind)
    grind
theorem far_back {xs ys : List Nat} (T : Two xs ys) (U : Two ys xs) : av (sv single (farF ys xs 1056964608) - sv single (farF xs ys 1056964608)) ≤ 1 / 10000 := by
  obtain ⟨_, a1, a2⟩ := T.far sh_half
  obtain ⟨_, b1, b2⟩ := U.far sh_half
  have k := T.back U
  have k1 := Rat.le_trans (le_av _) k
  have k2 := Rat.le_trans (neg_le_av _) k
  have c := lnC_b.1
  generalize sv single (farF xs ys 1056964608) = f at *
  generalize sv single (farF ys xs 1056964608) = h at *
  generalize fPh xs ys 1056964608 = g at *
  generalize fPh ys xs 1056964608 = g' at *
  generalize lnC = l at *
  clear k
  refine av_le ?_ ?_
  · by_cases q : h - f ≤ 1 / 10000
    · exact q
    · have := Rat.mul_lt_mul_of_pos_right (show 1 / 10000 < h - f by grind) (show 0 < l by grind)
      grind
  · by_cases q : -(1 / 10000) ≤ h - f
    · exact q
    · have := Rat.mul_lt_mul_of_pos_right (show h - f < -(1 / 10000) by grind) (show 0 < l by grind)
      grind
theorem out_far {xs ys : List Nat} (T : Two xs ys) (ha : abvB xs ys = true) {s : Nat} (hs : Sh s) (hb : shB s = true) : out_FarBits xs ys s = (farF xs ys s, true) := by
  unfold out_FarBits
  obtain ⟨a, b⟩ := fnt_finB (T.far hs).1
  rw [ha, hb, a, b]; rfl
theorem out_fth {xs ys : List Nat} (T : Two xs ys) (ha : abvB xs ys = true) : out_FarthestBits xs ys = (fbR xs ys, farF xs ys (fbR xs ys), true) := by
  unfold out_FarthestBits
  obtain ⟨a, _⟩ := fnt_finB (T.far T.found.1).1
  rw [ha, a]; rfl

end Go.Proofs.Ytmocfnpbofeiiaa

/- The comparisons of the law FnTests, as words. -/
namespace Go.Proofs.Ytmocfnpbofeiiaa
set_option linter.unusedSimpArgs false
set_option linter.unusedVariables false
open Go.RowKit
open Ieee
theorem c1_ap : Ap .f64 4547007122018943789 (1 / 10000) (1 / 10000000000000) := by
  have h : rg double 4547007122018943789 < double.infRung ∧ av (sv double 4547007122018943789 - 1 / 10000) ≤ 1 / 10000000000000 := by decide +kernel
  exact h
theorem c2_ap : Ap .f64 4562254508917369340 (1 / 1000) (1 / 10000000000000) := by
  have h : rg double 4562254508917369340 < double.infRung ∧ av (sv double 4562254508917369340 - 1 / 1000) ≤ 1 / 10000000000000 := by decide +kernel
  exact h
theorem c3_ap : Ap .f64 4607186922399644778 (1001 / 1000) (1 / 10000000000000) := by
  have h : rg double 4607186922399644778 < double.infRung ∧ av (sv double 4607186922399644778 - 1001 / 1000) ≤ 1 / 10000000000000 := by decide +kernel
  exact h
theorem cm_ap : Ap .f64 13785626545772145148 (-(1 / 1000)) (1 / 10000000000000) := by
  have h : rg double 13785626545772145148 < double.infRung ∧ av (sv double 13785626545772145148 - -(1 / 1000)) ≤ 1 / 10000000000000 := by decide +kernel
  exact h
theorem Ap.two {x : Nat} {v e : Rat} (h : Ap .f64 x v e) : Fnt double x ∧ v - e ≤ sv double x ∧ sv double x ≤ v + e := by
  have a := Rat.le_trans (le_av _) h.2
  have b := Rat.le_trans (neg_le_av _) h.2
  rw [show FloatKind.f64.format = double from rfl] at a b
  refine ⟨h.1, ?_, ?_⟩
  · generalize sv double x = s at *
    grind
  · generalize sv double x = s at *
    grind
/-- A bar's word. -/
def bw (v : Nat) : Nat := fA .quo .f32 (floatOfInt .f32 ((v : Int) - 8)) 1082130432
def bwOk (v : Nat) : Bool := (floatBits .quo .f32 (floatOfInt .f32 ((v : Int) - 8)) 1082130432).isSome && (floatBits .add .f32 (bw v) 1056964608).isSome && decide (rg single (bw v) < single.infRung) && decide (rg single (fA .add .f32 (bw v) 1056964608) < single.infRung) && decide (sv single (bw v) ≤ sv single (fA .add .f32 (bw v) 1056964608)) && decide (bw v < 4294967296) && decide (fA .add .f32 (bw v) 1056964608 < 4294967296)
theorem bw_all : ∀ v : Nat, v < 17 → bwOk v = true := by decide +kernel
theorem bw_of {v : Nat} (h : v < 17) : (floatBits .quo .f32 (floatOfInt .f32 ((v : Int) - 8)) 1082130432).isSome = true ∧ (floatBits .add .f32 (bw v) 1056964608).isSome = true ∧ Fnt single (bw v) ∧ Fnt single (fA .add .f32 (bw v) 1056964608) ∧ sv single (bw v) ≤ sv single (fA .add .f32 (bw v) 1056964608) ∧ bw v < 4294967296 ∧ fA .add .f32 (bw v) 1056964608 < 4294967296 := by
  have := bw_all v h
  unfold bwOk at this
  simp only [Bool.and_eq_true, decide_eq_true_eq] at this
  obtain ⟨⟨⟨⟨⟨⟨a, b⟩, c⟩, d⟩, e⟩, f⟩, g⟩ := this
  exact ⟨a, b, c, d, e, f, g⟩
/-- What the first test asks of the errors x y (at a bar), u v (at a higher one) and q (at a bar below all). -/
def TsA (x y u v q : Nat) : Prop := ((FloatKind.f32.format.order x 0 == some .lt) = false ∧ (FloatKind.f32.format.order y 0 == some .lt) = false) ∧
  ((floatToFloatBits .f32 x .f64).isSome = true ∧ (floatToFloatBits .f32 y .f64).isSome = true ∧ (floatToFloatBits .f32 u .f64).isSome = true ∧ (floatToFloatBits .f32 v .f64).isSome = true ∧ (floatToFloatBits .f32 q .f64).isSome = true) ∧
  ((floatBits .sub .f64 (up64 x) 4547007122018943789).isSome = true ∧ (FloatKind.f64.format.order (up64 u) (fA .sub .f64 (up64 x) 4547007122018943789) == some .lt) = false) ∧
  ((floatBits .add .f64 (up64 y) 4547007122018943789).isSome = true ∧ (FloatKind.f64.format.order (up64 v) (fA .add .f64 (up64 y) 4547007122018943789) == some .gt) = false) ∧
  (gpOk (up64 q) 4607182418800017408 = true ∧ (FloatKind.f64.format.order (gpW (up64 q) 4607182418800017408) 4562254508917369340 == some .gt) = false) ∧
  (FloatKind.f64.format.order (up64 x) 4607186922399644778 == some .gt) = false
theorem ts_a {x y u v q : Nat} (fx : Fnt single x) (fy : Fnt single y) (fu : Fnt single u) (fv : Fnt single v) (fq : Fnt single q) (x0 : 0 ≤ sv single x) (y0 : 0 ≤ sv single y) (x1 : sv single x ≤ 10001 / 10000) (y1 : sv single y ≤ 10) (ux : sv single x ≤ sv single u) (vy : sv single v ≤ sv single y) (hq : av (sv single q - 1) ≤ 1 / 10000) : TsA x y u v q := by
  obtain ⟨cx, dx, sx⟩ := up_all fx
  obtain ⟨cy, dy, sy⟩ := up_all fy
  obtain ⟨cu, du, su⟩ := up_all fu
  obtain ⟨cv, dv, sv'⟩ := up_all fv
  obtain ⟨cq, dq, sq⟩ := up_all fq
  have f0 : Fnt single 0 := sh_zero.1
  have ax : Ap .f64 (up64 x) (sv single x) 0 := Ap.ex (k := .f64) dx sx
  have ay : Ap .f64 (up64 y) (sv single y) 0 := Ap.ex (k := .f64) dy sy
  have g := gp_near dq (show Fnt double 4607182418800017408 from one_ap.1) (by rw [sq, sv_one]; exact Rat.le_trans hq (by decide +kernel))
  rw [sq, sv_one] at g
  obtain ⟨g1, g2, g3⟩ := g
  have g4 := Rat.le_trans (le_av _) g3
  obtain ⟨k1, k2, k3⟩ := c2_ap.two
  obtain ⟨m1, m2, m3⟩ := c3_ap.two
  obtain ⟨s1, s2⟩ := ap_sub (E := 1 / 1000000000000) ax c1_ap (A := 2) (by generalize sv single x = a at *; exact av_le (by grind) (by grind)) (by decide +kernel) (by decide +kernel)
  obtain ⟨p1, p2⟩ := ap_add (E := 1 / 1000000000000) ay c1_ap (A := 11) (by generalize sv single y = a at *; exact av_le (by grind) (by grind)) (by decide +kernel) (by decide +kernel)
  obtain ⟨s3, s4, s5⟩ := s2.two
  obtain ⟨p3, p4, p5⟩ := p2.two
  refine ⟨⟨ord_lt_no fx f0 ?_, ord_lt_no fy f0 ?_⟩, ⟨cx, cy, cu, cv, cq⟩, ⟨s1, ord_lt_no du s3 ?_⟩, ⟨p1, ord_gt_no dv p3 ?_⟩, ⟨g1, ord_gt_no g2 k1 ?_⟩, ord_gt_no dx m1 ?_⟩
  · show sv single 0 ≤ sv single x
    rw [sv_zero0]; exact x0
  · show sv single 0 ≤ sv single y
    rw [sv_zero0]; exact y0
  · show sv double _ ≤ sv double (up64 u)
    rw [su]
    refine Rat.le_trans s5 ?_
    generalize sv single x = a at *
    generalize sv single u = b at *
    clear g1 g2 g3 g4 k2 k3 m2 m3 s2 s4 s5 p2 p4 p5 hq
    grind
  · show sv double (up64 v) ≤ sv double _
    rw [sv']
    refine Rat.le_trans ?_ p4
    generalize sv single y = a at *
    generalize sv single v = b at *
    clear g1 g2 g3 g4 k2 k3 m2 m3 s2 s4 s5 p2 p4 p5 hq
    grind
  · show sv double (gpW _ _) ≤ sv double 4562254508917369340
    refine Rat.le_trans ?_ k2
    generalize sv double (gpW (up64 q) 4607182418800017408) = a at *
    generalize av (sv single q - 1) = b at *
    clear g1 g2 g3 k3 m2 m3 s2 s4 s5 p2 p4 p5
    grind
  · show sv double (up64 x) ≤ sv double 4607186922399644778
    rw [sx]
    refine Rat.le_trans ?_ m2
    generalize sv single x = a at *
    clear g1 g2 g3 g4 k2 k3 m2 m3 s2 s4 s5 p2 p4 p5 hq
    grind
/-- What the last line asks: a share s, how far rows are apart there, by halves, at zero, of a row from itself, and back. -/
def TsB (s far half none same back : Nat) : Prop := ((FloatKind.f32.format.order s 0 = some .gt ∨ FloatKind.f32.format.order s 0 = some .eq) ∧ (FloatKind.f32.format.order s 1065353216 = some .lt ∨ FloatKind.f32.format.order s 1065353216 = some .eq)) ∧
  ((floatToFloatBits .f32 far .f64).isSome = true ∧ (floatToFloatBits .f32 half .f64).isSome = true ∧ (floatToFloatBits .f32 none .f64).isSome = true ∧ (floatToFloatBits .f32 same .f64).isSome = true ∧ (floatToFloatBits .f32 back .f64).isSome = true) ∧
  ((floatBits .sub .f64 (up64 half) 4562254508917369340).isSome = true ∧ FloatKind.f64.format.order (up64 far) (fA .sub .f64 (up64 half) 4562254508917369340) = some .gt) ∧
  (gpOk (up64 none) 0 = true ∧ FloatKind.f64.format.order (gpW (up64 none) 0) 4562254508917369340 = some .lt) ∧
  (gpOk (up64 same) 0 = true ∧ FloatKind.f64.format.order (gpW (up64 same) 0) 4562254508917369340 = some .lt) ∧
  (gpOk (up64 back) (up64 half) = true ∧ FloatKind.f64.format.order (gpW (up64 back) (up64 half)) 4562254508917369340 = some .lt) ∧
  FloatKind.f64.format.order (up64 half) 13785626545772145148 = some .gt
theorem zero_d : Fnt double 0 ∧ sv double 0 = 0 := ⟨by unfold Fnt; decide, by decide +kernel⟩
theorem gp_lt {x y : Nat} (fx : Fnt double x) (fy : Fnt double y) (h : av (sv double x - sv double y) ≤ 1 / 2000) : gpOk x y = true ∧ FloatKind.f64.format.order (gpW x y) 4562254508917369340 = some .lt := by
  obtain ⟨a, b, c⟩ := gp_near fx fy (Rat.le_trans h (by decide +kernel))
  have d := Rat.le_trans (le_av _) c
  obtain ⟨k1, k2, k3⟩ := c2_ap.two
  refine ⟨a, ord_lt_yes b k1 ?_⟩
  show sv double (gpW x y) < sv double 4562254508917369340
  generalize sv double (gpW x y) = g at *
  generalize av (sv double x - sv double y) = e at *
  generalize sv double 4562254508917369340 = f at *
  clear c
  grind
theorem ts_b {ks js : List Nat} {L : Nat} (K : Dr ks L) (J : Dr js L) : TsB (fbR (rowK ks) (rowK js)) (farF (rowK ks) (rowK js) (fbR (rowK ks) (rowK js))) (farF (rowK ks) (rowK js) 1056964608) (farF (rowK ks) (rowK js) 0) (farF (rowK ks) (rowK ks) 1048576000) (farF (rowK js) (rowK ks) 1056964608) := by
  have T := K.both J
  have U := J.both K
  have S := K.both K
  obtain ⟨rs, r0, r1⟩ := T.found.1
  obtain ⟨ff, fb⟩ := far_ten T T.found.1
  obtain ⟨hf, hb⟩ := far_ten T sh_half
  obtain ⟨nf, nb⟩ := far_small T sh_zero (B := 1 / 10000) T.zero (by decide +kernel) (by decide +kernel)
  obtain ⟨sf, sb⟩ := far_small S sh_quarter (B := 1 / 10000) (S.own sh_quarter) (by decide +kernel) (by decide +kernel)
  obtain ⟨bf, bb⟩ := far_ten U sh_half
  have F := T.farthest
  have up := far_up T
  have bk := far_back T U
  generalize fbR (rowK ks) (rowK js) = s at *
  generalize farF (rowK ks) (rowK js) s = far at *
  generalize farF (rowK ks) (rowK js) 1056964608 = half at *
  generalize farF (rowK ks) (rowK js) 0 = none at *
  generalize farF (rowK ks) (rowK ks) 1048576000 = same at *
  generalize farF (rowK js) (rowK ks) 1056964608 = back at *
  obtain ⟨c1, d1, e1⟩ := up_all ff
  obtain ⟨c2, d2, e2⟩ := up_all hf
  obtain ⟨c3, d3, e3⟩ := up_all nf
  obtain ⟨c4, d4, e4⟩ := up_all sf
  obtain ⟨c5, d5, e5⟩ := up_all bf
  have ah : Ap .f64 (up64 half) (sv single half) 0 := Ap.ex (k := .f64) d2 e2
  obtain ⟨s1, s2⟩ := ap_sub (E := 1 / 1000000000000) ah c2_ap (A := 6) (by
    have a := Rat.le_trans (le_av _) hb
    have b := Rat.le_trans (neg_le_av _) hb
    generalize sv single half = h at *
    clear hb fb bb bk nb sb ah
    exact av_le (by grind) (by grind)) (by decide +kernel) (by decide +kernel)
  obtain ⟨s3, s4, s5⟩ := s2.two
  obtain ⟨m1, m2, m3⟩ := cm_ap.two
  refine ⟨⟨ord_ge_or rs sh_zero.1 ?_, ord_le_or rs (show Fnt single 1065353216 from fin_of_lt single (by rw [s_inf]; omega)) ?_⟩, ⟨c1, c2, c3, c4, c5⟩, ⟨s1, ord_gt_yes d1 s3 ?_⟩, gp_lt d3 zero_d.1 ?_, gp_lt d4 zero_d.1 ?_, gp_lt d5 d2 ?_, ord_gt_yes d2 m1 ?_⟩
  · show sv single 0 ≤ sv single s
    rw [sv_zero0]; exact r0
  · show sv single s ≤ sv single 1065353216
    rw [ss_1]; exact r1
  · show sv double _ < sv double (up64 far)
    rw [e1]
    generalize sv double (fA .sub .f64 (up64 half) 4562254508917369340) = g at *
    generalize sv single half = h at *
    generalize sv single far = f at *
    clear s2 ah nb sb bk hb fb bb
    grind
  · rw [e3, zero_d.2, show ∀ a : Rat, a - 0 = a from fun a => by grind]
    exact Rat.le_trans nb (by decide +kernel)
  · rw [e4, zero_d.2, show ∀ a : Rat, a - 0 = a from fun a => by grind]
    exact Rat.le_trans sb (by decide +kernel)
  · rw [e5, e2]
    exact Rat.le_trans bk (by decide +kernel)
  · show sv double 13785626545772145148 < sv double (up64 half)
    rw [e2]
    generalize sv double 13785626545772145148 = g at *
    generalize sv single half = h at *
    clear s2 ah nb sb bk hb fb bb s4 s5
    grind

end Go.Proofs.Ytmocfnpbofeiiaa
