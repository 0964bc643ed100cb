/- Chances of types by rows that may have zeros. -/
import Derived.Test.YtmocfnpbofeiiaaMTe2
import Derived.Test.YtmocfnpbofeiiaaMR8C
import Derived.Test.YtmocfnpbofeiiaaMTeR
namespace Go.Proofs.Ytmocfnpbofeiiaa
set_option linter.unusedSimpArgs false
set_option linter.unusedVariables false
open Go.RowKit
open Ieee
/-- A list of words from zero to one. -/
def Ab1 (xs : List Nat) : Prop := ∀ x ∈ xs, x ≤ 1065353216
theorem row_bd1 {row : List Nat} (h : Ab1 row) {j : Nat} (hj : j < row.length) : Bd .f32 1 (row[j]?.getD 0) := by
  have h2 := h (row[j]?.getD 0) (by rw [List.getElem?_eq_getElem hj]; exact List.getElem_mem _)
  refine Bd.of (k := .f32) ?_
  show rg single (row[j]?.getD 0) ≤ WK .f32 1
  rw [rgs, show WK .f32 1 = 1073741824 from by decide]
  omega
theorem prP_bd1 {n L : Nat} {row cs : List Nat} (hT : Ty n L cs) (hn : n ≤ 12) (hr : Ab1 row) (hl : row.length = L) : ∀ j, j ≤ L → Bd .f32 (16 + sumP cs j) (prP row cs L j)
  | 0, _ => Bd.of (k := .f32) hT.fl
  | j + 1, h => by
    have ih := prP_bd1 hT hn hr hl j (by omega)
    obtain ⟨h1, h2⟩ := hT.at (j := j) (by omega)
    have := (mulN_bd ih (row_bd1 hr (j := j) (by omega)) (cs[j]?.getD 0) (by omega)).1
    rw [h1, ← Nat.add_assoc]
    exact this
theorem chF_bd1 {n L : Nat} {row cs : List Nat} (hT : Ty n L cs) (hn : n ≤ 12) (hr : Ab1 row) (hl : row.length = L) : Bd .f32 28 (chF row cs L) := by
  have h := prP_bd1 hT hn hr hl L (Nat.le_refl _)
  have := sumP_le cs L
  rw [hT.sum] at this
  exact h.mono (by omega)
theorem pr_step1 {n L : Nat} {row cs : List Nat} (hT : Ty n L cs) (hn : n ≤ 12) (hr : Ab1 row) (hl : row.length = L) {j : Nat} (hj : j < L) {p : Nat} (hp : p ≤ cs[j]?.getD 0) : (floatBits .mul .f32 (mulN (prP row cs L j) (row[j]?.getD 0) p) (row[j]?.getD 0)).isSome = true := by
  have hb := prP_bd1 hT hn hr hl j (by omega)
  obtain ⟨a, b⟩ := hT.at hj
  exact (mulN_bd hb (row_bd1 hr (j := j) (by omega)) p (by omega)).2

set_option maxRecDepth 4000 in
set_option maxHeartbeats 4000000 in
theorem implChance1_any (n L : Nat) (row cs : List Nat) (v u : Value) (w : World) (hT : Ty n L cs) (hn : n ≤ 12) (hL : L = 2 ∨ L = 3) (hr : Ab1 row) (hl : row.length = L) (hrow : rowB row = true) (hv : SlR w v (row.map (Value.float .f32))) (hu : SlR w u (cs.map nvI)) :
    Calls Try.prog 13 #[v, u] w fun e w' => e = .returned (.tuple #[.float .f32 (chF row cs L), .bool true]) ∧ Qu w w' := by
  have HWO := Lib.hid (implWords_any n L cs u w hT hn hL hu)
  have hw32 : ∀ x ∈ row, x < 4294967296 := fun x hx => by have := hr x hx; omega
  have hIR := isRow_any v row w hv hw32
  rw [hrow] at hIR
  have HIR := Lib.hid hIR
  obtain ⟨f1, f2⟩ := fz_fin (chF_bd1 hT hn hr hl) (by omega)
  have HAN : Hid (∀ W, Calls Try.prog 63 #[.float .f32 (chF row cs L)] W fun e w' => e = .returned (.tuple #[.float .f32 (chF row cs L), .bool true]) ∧ Qu W w') := Lib.hid fun W => by
    have := asNumber_any (chF row cs L) W
    rw [f1, f2] at this
    exact this
  have HPS : Hid (∀ j, j < L → ∀ p, p ≤ cs[j]?.getD 0 → (floatBits .mul .f32 (mulN (prP row cs L j) (row[j]?.getD 0) p) (row[j]?.getD 0)).isSome = true) := Lib.hid fun j hj p hp => pr_step1 hT hn hr hl hj hp
  have HPJ : Hid (∀ j, prP row cs L (j + 1) = mulN (prP row cs L j) (row[j]?.getD 0) (cs[j]?.getD 0)) := Lib.hid fun j => rfl
  have HP0 : Hid (floatOfInt .f32 ((wsP cs L : Nat) : Int) = prP row cs L 0) := rfl
  have HCB : Hid (∀ j, j < L → cs[j]?.getD 0 ≤ 12) := Lib.hid fun j hj => by obtain ⟨a, b⟩ := hT.at hj; omega
  have HPE : Hid (chF row cs L = prP row cs L L) := rfl
  obtain ⟨b1, o1, k1, rfl, n1, m1, cell1⟩ := sl_cells hv hl (by omega)
  obtain ⟨b2, o2, k2, rfl, n2, m2, cell2⟩ := sl_nats hu hT.len (by omega)
  have HC1 := Lib.hid cell1
  have HC2 := Lib.hid cell2
  unfold maxLen at m1 m2
  have hL3 : L ≤ 3 := by omega
  clear cell1 cell2 hv hu hT hr hl hrow hIR hw32 f1 f2 hL
  generalize chF row cs L = res at *
  generalize wsP cs L = ws at *
  go_enter Try.func13, Try.ntmps13
  go_wp2_with (first
    | (go_at_call 50; refine HIR.out.mono ?_; rintro e w2 ⟨rfl, hq2⟩)
    | (go_at_call 12; refine HWO.out.mono ?_; rintro e w' ⟨rfl, rfl⟩))
  rw [HP0.out]
  go_loopw [8, 34] (fun o i W => ∃ j : Nat, j ≤ L ∧ i = .int .i64 (j : Int) ∧ o = .float .f32 (prP row cs L j) ∧ Qu w W) (fun _ i _ => L - (intOf i).toNat)
  case atStart => exact ⟨0, Nat.zero_le _, rfl, rfl, hq2⟩
  case round =>
    clear hq2
    obtain ⟨j, hj, rfl, rfl, hq⟩ := hrel
    by_cases hlt : j < L
    · have d1 := HC1.out wr hq.keep j hlt
      have d2 := HC2.out wr hq.keep j hlt
      have HP := Lib.hid (HPS.out j hlt)
      have HJ := Lib.hid (HPJ.out j)
      have hc12 := HCB.out j hlt
      generalize row[j]?.getD 0 = r at *
      generalize cs[j]?.getD 0 = x at *
      obtain ⟨X, hX⟩ : ∃ X, X = prP row cs L j := ⟨_, rfl⟩
      rw [← hX] at HP HJ ⊢
      clear hX
      go_wp2_with fail
      have HM0 : Hid (X = mulN X r 0) := rfl
      go_loopw [8, 40] (fun o i W => ∃ p : Nat, p ≤ x ∧ i = .int .i64 (p : Int) ∧ o = .float .f32 (mulN X r p) ∧ wr = W) (fun _ i _ => x - (intOf i).toNat)
      case atStart => exact ⟨0, Nat.zero_le _, rfl, by rw [← HM0.out], rfl⟩
      case round =>
        obtain ⟨p, hp, rfl, rfl, rfl⟩ := hrel
        by_cases hlt2 : p < x
        · have hs := HP.out p hp
          have HMS : Hid (fA .mul .f32 (mulN X r p) r = mulN X r (p + 1)) := rfl
          generalize mulN X r p = Y at *
          go_wp2
          go_roundw
          case rel => exact ⟨p + 1, by omega, by go_num, by rw [← HMS.out], by first | rfl | trivial⟩
          case measure => simp [intOf]; omega
        · obtain rfl : p = x := by omega
          rw [← HJ.out]
          go_wp2
          go_roundw
          case rel => exact ⟨j + 1, by omega, by go_num, rfl, hq⟩
          case measure => simp [intOf]; omega
    · obtain rfl : j = L := by omega
      rw [← HPE.out]
      go_wp2_with (go_at_call 63; refine (HAN.out _).mono ?_; rintro e w3 ⟨rfl, hq3⟩)
      go_ret2
      exact ⟨rfl, hq.trans hq3⟩

end Go.Proofs.Ytmocfnpbofeiiaa

/- Rows of counts drawn: what they are near. -/
namespace Go.Proofs.Ytmocfnpbofeiiaa
set_option linter.unusedSimpArgs false
set_option linter.unusedVariables false
open Go.RowKit
open Ieee
def qwC (k s : Nat) : Nat := fA .quo .f32 (fw k) (fw s)
def qwcOk (s k : Nat) : Bool := !(decide (1 ≤ s) && decide (k ≤ s)) || (decide (rg single (qwC k s) < single.infRung) && decide (qwC k s ≤ 1065353216) && (if k = 0 then decide (qwC k s = 0) else decide (0 < qwC k s) && decide ((1 : Rat) / 65 ≤ sv single (qwC k s)) && decide ((1 : Rat) / 100 ≤ (k : Rat) / (s : Rat))) && decide ((k : Rat) / (s : Rat) ≤ 1) && decide (av (sv single (qwC k s) - (k : Rat) / (s : Rat)) ≤ (k : Rat) / (s : Rat) * (1 / 8000000)))
theorem qwcOk_all : ∀ s : Nat, s < 65 → ∀ k : Nat, k < 9 → qwcOk s k = true := by decide +kernel
theorem qwc_all {s k : Nat} (hs : s < 65) (hk : k < 9) (h1 : 1 ≤ s) (h2 : k ≤ s) : Fnt single (qwC k s) ∧ qwC k s ≤ 1065353216 ∧ (k = 0 → qwC k s = 0) ∧ (1 ≤ k → 0 < qwC k s ∧ 1 / 65 ≤ sv single (qwC k s) ∧ 1 / 100 ≤ (k : Rat) / (s : Rat)) ∧ (k : Rat) / (s : Rat) ≤ 1 ∧ av (sv single (qwC k s) - (k : Rat) / (s : Rat)) ≤ (k : Rat) / (s : Rat) * (1 / 8000000) := by
  have h := qwcOk_all s hs k hk
  unfold qwcOk at h
  rw [decide_eq_true h1, decide_eq_true h2] at h
  simp only [Bool.and_self, Bool.not_true, Bool.false_or, Bool.and_eq_true, decide_eq_true_eq] at h
  obtain ⟨⟨⟨⟨a, b⟩, c⟩, d⟩, e⟩ := h
  refine ⟨a, b, fun h0 => ?_, fun h0 => ?_, d, e⟩
  · rw [if_pos h0] at c; exact of_decide_eq_true c
  · rw [if_neg (by omega)] at c
    simp only [Bool.and_eq_true, decide_eq_true_eq] at c
    exact ⟨c.1.1, c.1.2, c.2⟩
theorem rowK_len (ks : List Nat) : (rowK ks).length = ks.length := by simp [rowK]
def psC (ks : List Nat) (j : Nat) : Rat := ((ks[j]?.getD 0 : Nat) : Rat) / ((ks.sum : Nat) : Rat)
theorem fsum_fl (xs : List Nat) : ∀ k, k ≤ xs.length → fsum (xs.take k) = flS (fun k => xs[k]?.getD 0) k
  | 0, _ => by rw [List.take_zero]; rfl
  | k + 1, hk => by rw [fsum_take_succ xs k hk, fsum_fl xs k (by omega)]; rfl
theorem rv_001 : 1 / 2000 ≤ rv single 981668463 := by decide +kernel
/-- A sum that is near one is nearly one. -/
theorem near_of {s : Nat} {v e : Rat} (h : Ap .f32 s v e) (hv : av (v - 1) ≤ 1 / 4000) (he : e ≤ 1 / 10000) : nearB s = true := by
  have a1 : Ap .f32 1065353216 1 0 := Ap.ex (k := .f32) (fin_of_lt single (by rw [s_inf]; omega)) ss_1
  have he0 := h.ge0
  obtain ⟨_, b⟩ := ap_sub (k := .f32) (E := 1 / 5000) (h.mono he) a1 (A := 1 / 4000) hv (by decide +kernel) (by decide +kernel)
  have c := b.val hv
  rw [show FloatKind.f32.format = single from rfl, av_sv] at c
  have d := Rat.le_trans c (show (1 : Rat) / 4000 + 1 / 5000 ≤ 1 / 2000 by decide +kernel)
  have e := (rv_le_iff single).1 (Rat.le_trans d rv_001)
  rw [rgs] at e
  exact decide_eq_true e
section
variable {cs : List Nat} {n : Nat} (h : Cn cs n) (hn1 : 1 ≤ n)
include h hn1
theorem Cn.at {j : Nat} (hj : j < n) : cs[j]?.getD 0 < 9 ∧ cs[j]?.getD 0 ≤ cs.sum ∧ (rowK cs)[j]?.getD 0 = qwC (cs[j]?.getD 0) cs.sum := by
  have hjl : j < cs.length := by rw [h.len]; exact hj
  have hm : cs[j]?.getD 0 ∈ cs := by rw [List.getElem?_eq_getElem hjl]; exact List.getElem_mem _
  refine ⟨by have := h.top _ hm; omega, mem_sum hm, ?_⟩
  have := hn1
  simp only [rowK, List.getElem?_map]
  rw [List.getElem?_eq_getElem hjl]
  rfl
theorem Cn.ps_one : smN (psC cs) n = 1 := by
  have hs : ((cs.sum : Nat) : Rat) ≠ 0 := by
    have : (1 : Rat) ≤ ((cs.sum : Nat) : Rat) := by exact_mod_cast (h.sum hn1).1
    grind
  have key : ∀ m, m ≤ n → smN (psC cs) m = (((cs.take m).sum : Nat) : Rat) / ((cs.sum : Nat) : Rat) := by
    intro m
    induction m with
    | zero => intro _; simp only [smN, List.take_zero, List.sum_nil]; rw [show ((0 : Nat) : Rat) = 0 from rfl]; grind
    | succ m ih =>
      intro hm
      simp only [smN]
      rw [ih (by omega), sum_take cs (by rw [h.len]; omega), Rat.natCast_add]
      unfold psC
      grind
  rw [key n (Nat.le_refl _), List.take_of_length_le (by rw [h.len]; exact Nat.le_refl _)]
  grind
variable (hn : n ≤ 8)
include hn
theorem Cn.q {j : Nat} (hj : j < n) : Fnt single ((rowK cs)[j]?.getD 0) ∧ (rowK cs)[j]?.getD 0 ≤ 1065353216 ∧ (cs[j]?.getD 0 = 0 → (rowK cs)[j]?.getD 0 = 0) ∧ (1 ≤ cs[j]?.getD 0 → 0 < (rowK cs)[j]?.getD 0 ∧ 1 / 65 ≤ sv single ((rowK cs)[j]?.getD 0) ∧ 1 / 100 ≤ psC cs j) ∧ psC cs j ≤ 1 ∧ av (sv single ((rowK cs)[j]?.getD 0) - psC cs j) ≤ psC cs j * (1 / 8000000) := by
  obtain ⟨a1, a2, a3⟩ := h.at hn1 hj
  obtain ⟨s1, s2⟩ := h.sum hn1
  rw [a3]
  exact qwc_all (by omega) a1 s1 a2
theorem Cn.ps0 {j : Nat} (hj : j < n) : 0 ≤ psC cs j ∧ 0 ≤ sv single ((rowK cs)[j]?.getD 0) := by
  obtain ⟨_, _, q0, q1, _, q3⟩ := h.q hn1 hn hj
  by_cases hc : cs[j]?.getD 0 = 0
  · rw [q0 hc]
    have : psC cs j = 0 := by unfold psC; rw [hc, show ((0 : Nat) : Rat) = 0 from rfl]; grind
    rw [this]
    decide +kernel
  · obtain ⟨_, a, b⟩ := q1 (by omega)
    constructor
    · grind
    · generalize sv single ((rowK cs)[j]?.getD 0) = s at *
      clear q0 q1 q3
      grind
theorem Cn.rr {j : Nat} (hj : j < n) : Rr ((rowK cs)[j]?.getD 0) (psC cs j) := by
  obtain ⟨f, _, q0, q1, q2, q3⟩ := h.q hn1 hn hj
  refine ⟨f, ?_, q2, q3⟩
  by_cases hc : cs[j]?.getD 0 = 0
  · left; unfold psC; rw [hc, show ((0 : Nat) : Rat) = 0 from rfl]; grind
  · exact .inr (q1 (by omega)).2.2
theorem Cn.ab : Ab1 (rowK cs) := by
  intro x hx
  obtain ⟨j, hj, rfl⟩ := List.getElem_of_mem hx
  have hjn : j < n := by rw [rowK_len, h.len] at hj; exact hj
  have := (h.q hn1 hn hjn).2.1
  rwa [List.getElem?_eq_getElem hj, Option.getD_some] at this
/-- The row's sum is near one. -/
theorem Cn.tot : av (smN (fun i => sv single ((rowK cs)[i]?.getD 0)) n - 1) ≤ 1 / 8000000 := by
  have key : ∀ m, m ≤ n → av (smN (fun i => sv single ((rowK cs)[i]?.getD 0)) m - smN (psC cs) m) ≤ smN (psC cs) m * (1 / 8000000) := by
    intro m
    induction m with
    | zero => intro _; simp only [smN]; decide +kernel
    | succ m ih =>
      intro hm
      have h1 := ih (by omega)
      have h2 := (h.q hn1 hn (j := m) (by omega)).2.2.2.2.2
      simp only [smN]
      have h3 := av_add_le h1 h2
      rw [show ∀ a b c d : Rat, a - b + (c - d) = a + c - (b + d) from fun a b c d => by grind] at h3
      refine Rat.le_trans h3 ?_
      generalize smN (psC cs) m = p at *
      generalize psC cs m = q at *
      grind
  have k := key n (Nat.le_refl _)
  rw [h.ps_one hn1, Rat.one_mul] at k
  exact k
/-- Added by floats. -/
theorem Cn.fl : ∀ k, k ≤ n → Ap .f32 (flS (fun k => (rowK cs)[k]?.getD 0) k) (smN (fun i => sv single ((rowK cs)[i]?.getD 0)) k) (1 / 400000) ∧ (k < n → (floatBits .add .f32 (flS (fun k => (rowK cs)[k]?.getD 0) k) ((rowK cs)[k]?.getD 0)).isSome = true) := by
  have T := h.tot hn1 hn
  have t1 := Rat.le_trans (le_av _) T
  have t2 := Rat.le_trans (neg_le_av _) T
  intro k hk
  have F := flS_ap (w := fun k => (rowK cs)[k]?.getD 0) (n := n) (by omega) (fun i hi => (h.q hn1 hn hi).1) (fun i hi => (h.ps0 hn1 hn hi).2) (by
    show _ ≤ smN (fun i => sv single ((rowK cs)[i]?.getD 0)) n
    generalize smN (fun i => sv single ((rowK cs)[i]?.getD 0)) n = t at *
    clear T; grind) (by
    show smN (fun i => sv single ((rowK cs)[i]?.getD 0)) n ≤ _
    generalize smN (fun i => sv single ((rowK cs)[i]?.getD 0)) n = t at *
    clear T; grind) k hk
  refine ⟨F.1.mono ?_, F.2⟩
  have hk8 : (k : Rat) ≤ 8 := by
    have : (k : Rat) ≤ ((8 : Nat) : Rat) := by exact_mod_cast (show k ≤ 8 by omega)
    exact this
  generalize smN (fun i => sv single ((rowK cs)[i]?.getD 0)) n = t at *
  have := Rat.mul_le_mul_of_nonneg_right hk8 (show 0 ≤ t / 8000000 by clear T F; grind)
  clear T F
  grind
theorem Cn.row : rowB (rowK cs) = true := by
  have T := h.tot hn1 hn
  have hl : (rowK cs).length = n := by rw [rowK_len, h.len]
  have hall : (rowK cs).all chB = true := by
    rw [List.all_eq_true]
    intro x hx
    have := h.ab hn1 hn x hx
    unfold chB
    exact decide_eq_true (.inl (by omega))
  have F := (h.fl hn1 hn n (Nat.le_refl _)).1
  have e := fsum_fl (rowK cs) n (by rw [hl]; exact Nat.le_refl _)
  rw [List.take_of_length_le (by rw [hl]; exact Nat.le_refl _)] at e
  rw [← e] at F
  unfold rowB oneB
  rw [hl, decide_eq_true hn1, decide_eq_true (show n ≤ 32 by omega), hall, near_of F (Rat.le_trans T (by decide +kernel)) (by decide +kernel)]
  rfl
theorem Cn.lt : ∀ x ∈ rowK cs, x < 4294967296 := fun x hx => by have := h.ab hn1 hn x hx; omega
end

end Go.Proofs.Ytmocfnpbofeiiaa
