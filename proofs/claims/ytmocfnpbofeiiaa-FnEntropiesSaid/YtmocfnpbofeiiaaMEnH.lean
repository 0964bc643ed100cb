/- Rows that are at least as even as others (IsMoreEven), plain: the even row's sums; entropies. -/
import Derived.Test.YtmocfnpbofeiiaaMEnW
import Derived.Test.YtmocfnpbofeiiaaMMevP
import Derived.Test.YtmocfnpbofeiiaaMTbF
namespace Go.Proofs.Ytmocfnpbofeiiaa
set_option linter.unusedSimpArgs false
set_option linter.unusedVariables false
open Go.RowKit
open Ieee
theorem fal_even (n : Nat) : falF (evS n) = evS n := by
  refine List.eq_replicate_iff.2 ⟨by rw [falF_length]; simp [evS], fun x hx => ?_⟩
  have := falF_mem hx
  unfold evS at this
  exact List.eq_of_mem_replicate this
theorem ps_even : ∀ n : Nat, n < 9 → ∀ k : Nat, k < 9 → k ≤ n → psF (evS n) k < 2139095040 ∧ sv single (psF (evS n) k) ≤ (k : Rat) / (n : Rat) + 1 / 5000000 := by decide +kernel
theorem psF_swS (l : List Nat) : ∀ k, psF l k = swS (wat l) k
  | 0 => rfl
  | k + 1 => by rw [psF, psF_swS l k]; rfl
theorem psF_flS (l : List Nat) : ∀ k, psF l k = flS (wat l) k
  | 0 => rfl
  | k + 1 => by rw [psF, psF_flS l k]; rfl
/-- The places of a row, the greatest word's first. -/
def sgm (xs : List Nat) (k : Nat) : Nat := (ordX (gtW (wat xs)) id xs.length)[k]?.getD 0
theorem sgm_lt {xs : List Nat} {k : Nat} (hk : k < xs.length) : sgm xs k < xs.length := ordX_lt _ _ _ hk
theorem fal_at {xs : List Nat} {k : Nat} (hk : k < xs.length) : wat (falF xs) k = wat xs (sgm xs k) := by
  unfold falF sgm
  generalize hL : ordX (gtW (wat xs)) id xs.length = L
  have hl : L.length = xs.length := by rw [← hL, ordX_length]
  show (L.map (wat xs))[k]?.getD 0 = _
  rw [List.getElem?_map, List.getElem?_eq_getElem (by omega)]
  rfl
theorem sgm_desc {xs : List Nat} {j k : Nat} (h : j < k) (hk : k < xs.length) : wat xs (sgm xs k) % 2147483648 ≤ wat xs (sgm xs j) % 2147483648 := by
  have h1 : gtW (wat xs) (sgm xs k) (sgm xs j) = false := (ordX_srt (gtW_sw (wat xs)) id (fun _ _ h => h) xs.length j k h (by rw [ordX_length]; exact hk)).1
  generalize sgm xs k = a at *
  generalize sgm xs j = b at *
  unfold gtW at h1
  have h2 := of_decide_eq_false h1
  omega
def lsm (f : Nat → Rat) : List Nat → Rat
  | [] => 0
  | x :: l => f x + lsm f l
theorem lsm_perm (f : Nat → Rat) {l m : List Nat} (h : l.Perm m) : lsm f l = lsm f m := by
  induction h with
  | nil => rfl
  | cons x _ ih => simp only [lsm]; rw [ih]
  | swap x y l => simp only [lsm]; grind
  | trans _ _ a b => rw [a, b]
theorem lsm_app (f : Nat → Rat) (l m : List Nat) : lsm f (l ++ m) = lsm f l + lsm f m := by
  induction l with
  | nil => simp only [lsm, List.nil_append]; grind
  | cons x l ih => simp only [lsm, List.cons_append]; rw [ih]; grind
theorem lsm_take (f : Nat → Rat) (l : List Nat) : ∀ k, k ≤ l.length → lsm f (l.take k) = smN (fun i => f (l[i]?.getD 0)) k
  | 0, _ => by simp [lsm, smN]
  | k + 1, h => by
    rw [List.take_succ_eq_append_getElem (by omega), lsm_app, lsm_take f l k (by omega)]
    simp only [lsm, smN]
    rw [List.getElem?_eq_getElem (by omega)]
    simp only [Option.getD_some]
    grind
theorem sgm_sum (f : Nat → Rat) {xs : List Nat} {n : Nat} (hn : xs.length = n) : smN (fun k => f (sgm xs k)) n = smN f n := by
  subst hn
  have hp : (ordX (gtW (wat xs)) id xs.length).Perm (List.range xs.length) := by
    have := ordX_perm (gtW (wat xs)) id xs.length
    rwa [List.map_id] at this
  have h1 := lsm_take f (ordX (gtW (wat xs)) id xs.length) xs.length (by rw [ordX_length]; exact Nat.le_refl _)
  have h2 := lsm_take f (List.range xs.length) xs.length (by simp)
  rw [List.take_of_length_le (by rw [ordX_length]; exact Nat.le_refl _), lsm_perm f hp] at h1
  rw [List.take_of_length_le (by simp), h1] at h2
  unfold sgm
  rw [h2]
  exact smN_eq _ fun i hi => by rw [List.getElem?_eq_getElem (by simpa using hi)]; simp
/-- The k greatest of n numbers are at least k parts in n. -/
theorem top_part {V : Nat → Rat} {n : Nat} (hd : ∀ j k, j < k → k < n → V k ≤ V j) {k : Nat} : ∀ m, k ≤ m → m ≤ n → (k : Rat) * smN V m ≤ (m : Rat) * smN V k := by
  intro m hk
  induction m with
  | zero =>
    intro _
    obtain rfl : k = 0 := by omega
    exact Rat.le_refl
  | succ m ih =>
    intro hm
    by_cases hkm : k = m + 1
    · subst hkm; exact Rat.le_refl
    · have I := ih (by omega) (by omega)
      have C : smN (fun _ => V m) k ≤ smN V k := smN_le k fun i hi => hd i m (by omega) (by omega)
      rw [smN_const] at C
      simp only [smN]
      rw [nat_rat1]
      grind
theorem sv_nn {x : Nat} (h : x < 2139095040) : 0 ≤ sv single x := by rw [sv_of_le single (by rw [s_inf]; omega)]; exact rv_nonneg _ _
theorem sv_mono {x y : Nat} (h : x ≤ y) (hy : y < 2139095040) : sv single x ≤ sv single y := by
  rw [sv_of_le single (by rw [s_inf]; omega), sv_of_le single (by rw [s_inf]; omega)]
  exact rv_le _ h
theorem sv_le_of {x y : Nat} (hx : x < 2139095040) (hy : y < 2139095040) (h : sv single x ≤ sv single y) : x ≤ y := by
  by_cases hc : x ≤ y
  · exact hc
  · have := rv_lt single (show y < x by omega)
    rw [sv_of_le single (by rw [s_inf]; omega), sv_of_le single (by rw [s_inf]; omega)] at h
    grind
/-- A sum and the 2^-20 that may be wanting. -/
theorem near_up {y : Nat} (h : y < 2139095040) (hy : sv single y ≤ 3 / 2) : fA .add .f32 y 897581056 < 1073741824 ∧ av (sv single (fA .add .f32 y 897581056) - (sv single y + 1 / 1048576)) ≤ 2 / 33554432 := by
  have s20 : sv single 897581056 = 1 / 1048576 := by decide +kernel
  obtain ⟨w, w1, w2, _⟩ := add_spec (k_hf .f32) (fin_of_lt single (by rw [s_inf]; omega)) (show Fnt single 897581056 from fin_of_lt single (by rw [s_inf]; omega)) (x := y)
  obtain ⟨c1, c2⟩ := fA_of (op := .add) (k := .f32) w1
  rw [show FloatKind.f32.format = single from rfl, s20] at w2
  rw [c2]
  have n0 := sv_nn h
  have hw := w2.pos (by grind)
  have hr : rg single w ≤ 1073741823 := w2.le (by
    rw [av_of_nonneg (by grind)]
    exact Rat.le_trans (show sv single y + 1 / 1048576 ≤ 19 / 10 by grind) (by decide +kernel))
  rw [rg_of_le single hw] at hr
  exact ⟨by omega, err_lt2 w2 (by omega)⟩
theorem Cn.swF {cs : List Nat} {n : Nat} (h : Cn cs n) (n1 : 1 ≤ n) (n8 : n ≤ 8) : Sw (wat (falF (rowK cs))) n ∧ 1 - 1 / 16000000 ≤ smN (fun i => sv single (wat (falF (rowK cs)) i)) n := by
  have hl : (rowK cs).length = n := by rw [rowK_len, h.len]
  have T : ∀ t, t ≤ n → smN (fun i => sv single (wat (falF (rowK cs)) i)) t = smN (fun i => sv single (wat (rowK cs) (sgm (rowK cs) i))) t := fun t ht => smN_eq t fun i hi => by rw [fal_at (by omega)]
  have L : ∀ i, i < n → wat (rowK cs) i < 2139095040 := fun i hi => by have := (h.q n1 n8 hi).2.1; unfold wat; omega
  have p16 : ∀ i, i < n → av (sv single (wat (rowK cs) i) - psC cs i) ≤ 1 / 16000000 * psC cs i := fun i hi => h.p16 n1 n8 hi
  have one := h.ps_one n1
  have up : smN (fun i => sv single (wat (rowK cs) i)) n ≤ (1 + 1 / 16000000) * smN (psC cs) n := by
    rw [← smN_mul]
    exact smN_le n fun i hi => by have := le_av (sv single (wat (rowK cs) i) - psC cs i); have := p16 i hi; grind
  have dn : (1 - 1 / 16000000) * smN (psC cs) n ≤ smN (fun i => sv single (wat (rowK cs) i)) n := by
    rw [← smN_mul]
    exact smN_le n fun i hi => by have := neg_le_av (sv single (wat (rowK cs) i) - psC cs i); have := p16 i hi; grind
  rw [one] at up dn
  have S := sgm_sum (fun i => sv single (wat (rowK cs) i)) hl
  refine ⟨⟨n8, fun i hi => ?_, fun i hi => ?_, fun t ht => ?_⟩, ?_⟩
  · rw [fal_at (by omega)]; exact L _ (by have := sgm_lt (xs := rowK cs) (k := i) (by omega); omega)
  · rw [fal_at (by omega)]
    intro h0
    have hj : sgm (rowK cs) i < n := by have := sgm_lt (xs := rowK cs) (k := i) (by omega); omega
    obtain ⟨_, _, q3, q4, _⟩ := h.q n1 n8 hj
    rcases Nat.eq_zero_or_pos (cs[sgm (rowK cs) i]?.getD 0) with e | e
    · exact absurd (q3 e) h0
    · exact (q4 e).2.1
  · rw [T t ht]
    refine Rat.le_trans (smN_mono (fun i hi => sv_nn (L _ ?_)) t ht) ?_
    · have := sgm_lt (xs := rowK cs) (k := i) (by omega); omega
    · rw [S]; grind
  · rw [T n (Nat.le_refl _), S]; grind
/-- The even row is at least as even as any. -/
theorem Cn.even {cs : List Nat} {n : Nat} (h : Cn cs n) (n1 : 1 ≤ n) (n8 : n ≤ 8) : mevB (falF (evS n)) (falF (rowK cs)) n = true := by
  have hl : (rowK cs).length = n := by rw [rowK_len, h.len]
  obtain ⟨SW, tot⟩ := h.swF n1 n8
  unfold mevB
  rw [List.all_eq_true]
  intro k hk
  have hk := List.mem_range.1 hk
  unfold mevAt
  refine decide_eq_true ?_
  rw [fal_even]
  obtain ⟨e1, e2⟩ := ps_even n (by omega) (k + 1) (by omega) (by omega)
  obtain ⟨⟨s1, s2, s3, s4⟩, -⟩ := SW.sum (k + 1) (by omega)
  have one := SW.one (k + 1) (by omega)
  rw [psF_swS (falF (rowK cs))]
  have P := top_part (V := fun i => sv single (wat (falF (rowK cs)) i)) (n := n) (fun i j hij hj => by
    have a := sgm_desc (xs := rowK cs) hij (by omega)
    have b1 := SW.lt i (by omega)
    have b2 := SW.lt j hj
    rw [fal_at (by omega)] at b1 b2
    show sv single (wat (falF (rowK cs)) j) ≤ sv single (wat (falF (rowK cs)) i)
    rw [fal_at (by omega), fal_at (by omega)]
    exact sv_mono (by omega) b1) (k := k + 1) n (by omega) (Nat.le_refl _)
  have kn : ((k + 1 : Nat) : Rat) / (n : Rat) * (n : Rat) = ((k + 1 : Nat) : Rat) := Rat.div_mul_cancel (by have := nat_rat n1; rw [show ((1 : Nat) : Rat) = 1 from rfl] at this; grind)
  have kn1 := nat_rat (show k + 1 ≤ n by omega)
  have k8 := nat_rat (show k + 1 ≤ 8 by omega)
  rw [show ((8 : Nat) : Rat) = 8 from rfl] at k8
  have n1' := nat_rat n1
  rw [show ((1 : Nat) : Rat) = 1 from rfl] at n1'
  have K0 := nat_rat0 (k + 1)
  generalize ((k + 1 : Nat) : Rat) = K at *
  generalize (n : Rat) = N at *
  generalize K / N = R at *
  have R0 : R ≤ 1 := by
    by_cases hc : R ≤ 1
    · exact hc
    · have := Rat.mul_lt_mul_of_pos_right (show 1 < R by grind) (show 0 < N by grind); grind
  have lo : R - 1 / 16000000 ≤ smN (fun i => sv single (wat (falF (rowK cs)) i)) (k + 1) := by
    by_cases hc : R - 1 / 16000000 ≤ smN (fun i => sv single (wat (falF (rowK cs)) i)) (k + 1)
    · exact hc
    · have a1 := Rat.mul_lt_mul_of_pos_left (show smN (fun i => sv single (wat (falF (rowK cs)) i)) (k + 1) < R - 1 / 16000000 by grind) (show 0 < N by grind)
      have a2 := Rat.mul_le_mul_of_nonneg_left tot K0
      grind
  have er : av (sv single (swS (wat (falF (rowK cs))) (k + 1)) - smN (fun i => sv single (wat (falF (rowK cs)) i)) (k + 1)) ≤ 9 / 33554432 := by
    rcases Nat.lt_or_ge (swS (wat (falF (rowK cs))) (k + 1)) 1065353216 with hc | hc
    · have := s3 hc; grind
    · have := s4 hc; grind
  have er1 := neg_le_av (sv single (swS (wat (falF (rowK cs))) (k + 1)) - smN (fun i => sv single (wat (falF (rowK cs)) i)) (k + 1))
  have er2 := le_av (sv single (swS (wat (falF (rowK cs))) (k + 1)) - smN (fun i => sv single (wat (falF (rowK cs)) i)) (k + 1))
  obtain ⟨u1, u2⟩ := near_up (y := swS (wat (falF (rowK cs))) (k + 1)) (by omega) (by grind)
  have u3 := neg_le_av (sv single (fA .add .f32 (swS (wat (falF (rowK cs))) (k + 1)) 897581056) - (sv single (swS (wat (falF (rowK cs))) (k + 1)) + 1 / 1048576))
  exact sv_le_of e1 (by omega) (by grind)

end Go.Proofs.Ytmocfnpbofeiiaa

/- Rows that are at least as even as others (IsMoreEven), plain: their entropies. -/
namespace Go.Proofs.Ytmocfnpbofeiiaa
set_option linter.unusedSimpArgs false
set_option linter.unusedVariables false
open Go.RowKit
open Ieee
/-- Abel's summation. -/
theorem abel {M A l : Nat → Rat} {d e : Rat} {n : Nat} (hD : ∀ k, k < n → smN M (k + 1) - smN A (k + 1) ≤ d ∧ -1 ≤ smN M (k + 1) - smN A (k + 1)) (e0 : 0 ≤ e) (hl : ∀ k, k + 1 < n → l (k + 1) ≤ l k + e) :
    ∀ k, k < n → smN (fun i => (M i - A i) * l i) (k + 1) ≤ (smN M (k + 1) - smN A (k + 1)) * l k + d * (l 0 - l k) + (d + 1) * e * (k : Rat) := by
  intro k
  induction k with
  | zero => intro _; simp only [smN]; rw [show ((0 : Nat) : Rat) = 0 from rfl]; grind
  | succ k ih =>
    intro hk
    have I := ih (by omega)
    obtain ⟨D1, D2⟩ := hD k (by omega)
    have H := hl k hk
    have X : (smN M (k + 1) - smN A (k + 1)) * (l k - l (k + 1)) ≤ d * (l k - l (k + 1)) + (d + 1) * e := by
      generalize smN M (k + 1) - smN A (k + 1) = D at *
      have h1 := Rat.mul_le_mul_of_nonneg_right D1 (show 0 ≤ l k - l (k + 1) + e by grind)
      have h2 := Rat.mul_le_mul_of_nonneg_right D2 e0
      grind
    rw [nat_rat1]
    have s1 : smN (fun i => (M i - A i) * l i) (k + 1 + 1) = smN (fun i => (M i - A i) * l i) (k + 1) + (M (k + 1) - A (k + 1)) * l (k + 1) := rfl
    have s2 : smN M (k + 1 + 1) = smN M (k + 1) + M (k + 1) := rfl
    have s3 : smN A (k + 1 + 1) = smN A (k + 1) + A (k + 1) := rfl
    rw [s1, s2, s3]
    generalize smN (fun i => (M i - A i) * l i) (k + 1) = S at *
    generalize smN M (k + 1) = m at *
    generalize smN A (k + 1) = a at *
    clear s1 s2 s3 ih hD
    grind
theorem Lb_mono {x y : Rat} (hx : 0 < x) (h : x ≤ y) : Lb x ≤ Lb y + 1 / 1000000000000000 := by
  have m := Ln_mono hx h
  have e := eta_s
  have := Lb_of (a := Ln x) (b := Ln y) (c := 1 / 1000000000000000) (by have := lnC_b; grind)
  unfold Lb
  grind
theorem Lb_small : -28 - 1 / 1000 ≤ Lb (1 / 100000) := by
  have a := neg_le_av (Lb (1 / 1000))
  have b := neg_le_av (Lb (1 / 100))
  have a1 := Lb_in (p := 1 / 1000) (by decide +kernel) (by decide +kernel)
  have b1 := Lb_in (p := 1 / 100) (by decide +kernel) (by decide +kernel)
  have c := Lb_mul (x := 1 / 1000) (y := 1 / 100) (by decide +kernel) (by decide +kernel)
  rw [show (1 : Rat) / 1000 * (1 / 100) = 1 / 100000 by decide +kernel] at c
  have c1 := neg_le_av (Lb (1 / 100000) - Lb (1 / 1000) - Lb (1 / 100))
  grind
theorem Lb_near {x y d : Rat} (hy : 0 < y) (d0 : 0 ≤ d) (hd : d ≤ 1 / 2) (h : av (x - y) ≤ d * y) : av (Lb x - Lb y) ≤ 3 * d + 1 / 1000000000000000 := by
  obtain ⟨_, N⟩ := Ln_near hy hd h
  have e := eta_s
  have c := lnC_inv
  unfold Lb
  rw [show Ln x / lnC - Ln y / lnC = (Ln x - Ln y) * lnC⁻¹ by rw [Rat.div_def, Rat.div_def]; grind]
  refine Rat.le_trans (av_mul_le N c.1) ?_
  grind
/-- A row whose sums, the greatest first, are nearly no greater tells no less, nearly. -/
theorem more_even {xs ys : List Nat} {n : Nat} {p q : Nat → Rat} (h : Rw1 (1 / 2000000) xs n p) (g : Rw1 (1 / 8000000) ys n q) (n8 : n ≤ 8) (H : mevB (falF xs) (falF ys) n = true) : Hx q n ≤ Hx p n + 1 / 3000 := by
  have n1 := h.n1
  have gx : ∀ k, k < n → sgm xs k < n := fun k hk => by have := sgm_lt (xs := xs) (k := k) (by rw [h.len]; exact hk); rw [h.len] at this; exact this
  have gy : ∀ k, k < n → sgm ys k < n := fun k hk => by have := sgm_lt (xs := ys) (k := k) (by rw [g.len]; exact hk); rw [g.len] at this; exact this
  obtain ⟨M, hM⟩ : ∃ M : Nat → Rat, M = fun k => p (sgm xs k) := ⟨_, rfl⟩
  obtain ⟨A, hA⟩ : ∃ A : Nat → Rat, A = fun k => q (sgm ys k) := ⟨_, rfl⟩
  have Mq : ∀ k, k < n → Rq (1 / 2000000) (wat (falF xs) k) (M k) := fun k hk => by
    rw [fal_at (by rw [h.len]; exact hk), hM]; exact h.el _ (gx k hk)
  have Aq : ∀ k, k < n → Rq (1 / 8000000) (wat (falF ys) k) (A k) := fun k hk => by
    rw [fal_at (by rw [g.len]; exact hk), hA]; exact g.el _ (gy k hk)
  have Mone : smN M n = 1 := by rw [hM, sgm_sum p h.len, h.one]
  have Aone : smN A n = 1 := by rw [hA, sgm_sum q g.len, g.one]
  have HM : Hx p n = Hx M n := by
    unfold Hx
    rw [hM, sgm_sum (fun i => p i * Lb (p i)) h.len]
  have HA : Hx q n = Hx A n := by
    unfold Hx
    rw [hA, sgm_sum (fun i => q i * Lb (q i)) g.len]
  have desc : ∀ k, k + 1 < n → wat (falF xs) (k + 1) ≤ wat (falF xs) k := fun k hk => by
    have a := sgm_desc (xs := xs) (show k < k + 1 by omega) (by rw [h.len]; exact hk)
    have b1 := (Mq k (by omega)).1
    have b2 := (Mq (k + 1) hk).1
    rw [fal_at (by rw [h.len]; omega)] at b1 b2
    rw [fal_at (by rw [h.len]; omega), fal_at (by rw [h.len]; omega)]
    omega
  have M0 : ∀ k, k < n → 0 ≤ M k := fun k hk => (Mq k hk).nn
  have A0 : ∀ k, k < n → 0 ≤ A k := fun k hk => (Aq k hk).nn
  clear hM hA gx gy
  rw [HM, HA]
  clear HM HA
  -- the sums
  have D : ∀ k, k < n → smN M (k + 1) - smN A (k + 1) ≤ 1 / 200000 ∧ -1 ≤ smN M (k + 1) - smN A (k + 1) := fun k hk => by
    have X := (rq_sum (w := wat (falF xs)) (q := M) (by omega) (by decide +kernel) (by decide +kernel) Mq (by rw [Mone]; decide +kernel) (k + 1) (by omega)).1
    have Y := (rq_sum (w := wat (falF ys)) (q := A) (by omega) (by decide +kernel) (by decide +kernel) Aq (by rw [Aone]; decide +kernel) (k + 1) (by omega)).1
    have m1 := smN_mono M0 (k + 1) hk
    have a1 := smN_mono A0 (k + 1) hk
    have m0 := X.nn
    have a0 := Y.nn
    rw [Mone] at m1
    rw [Aone] at a1
    have B : mevAt (falF xs) (falF ys) k = true := by
      unfold mevB at H
      exact List.all_eq_true.1 H k (List.mem_range.2 hk)
    unfold mevAt at B
    have B := of_decide_eq_true B
    rw [psF_flS, psF_flS] at B
    have k8 := nat_rat (show k + 1 ≤ 8 by omega)
    rw [show ((8 : Nat) : Rat) = 8 from rfl] at k8
    have x1 := X.2.2.2.2
    have y1 := Y.2.2.2.2
    have X0 := X.1
    have Y0 := Y.1
    clear X Y
    generalize ((k + 1 : Nat) : Rat) = K at *
    generalize smN M (k + 1) = P at *
    generalize smN A (k + 1) = Q at *
    have x2 := neg_le_av (sv single (flS (wat (falF xs)) (k + 1)) - P)
    have y2 := le_av (sv single (flS (wat (falF ys)) (k + 1)) - Q)
    have x3 := Rat.mul_le_mul_of_nonneg_right (show 1 / 2000000 + K / 8000000 ≤ 1 / 600000 by grind) m0
    have y3 := Rat.mul_le_mul_of_nonneg_right (show 1 / 8000000 + K / 8000000 ≤ 1 / 800000 by grind) a0
    obtain ⟨u1, u2⟩ := near_up Y0 (by grind)
    have u3 := le_av (sv single (fA .add .f32 (flS (wat (falF ys)) (k + 1)) 897581056) - (sv single (flS (wat (falF ys)) (k + 1)) + 1 / 1048576))
    have u4 := sv_mono B (by omega)
    generalize sv single (flS (wat (falF xs)) (k + 1)) = sx at *
    generalize sv single (flS (wat (falF ys)) (k + 1)) = sy at *
    generalize sv single (fA .add .f32 (flS (wat (falF ys)) (k + 1)) 897581056) = sz at *
    clear B u1 Y0 X0
    constructor <;> grind
  -- the words' values, nothing taken as a hundred thousandth
  obtain ⟨V, hV⟩ : ∃ V : Nat → Rat, V = fun k => if wat (falF xs) k = 0 then 1 / 100000 else sv single (wat (falF xs) k) := ⟨_, rfl⟩
  have V0 : ∀ k, k < n → (M k = 0 → V k = 1 / 100000) ∧ (M k ≠ 0 → av (V k - M k) ≤ 1 / 2000000 * M k ∧ 1 / 10000 ≤ M k) ∧ 1 / 100000 ≤ V k ∧ V k ≤ M k + 1 / 99999 ∧ V k ≤ 11 / 10 := fun k hk => by
    have R := Mq k hk
    have m1 := smN_mono M0 n (Nat.le_refl _)
    have mk : M k ≤ 1 := by
      have h2 : M k ≤ smN M (k + 1) := by
        have := smN_nonneg (f := M) k (fun i hi => M0 i (by omega))
        simp only [smN]; grind
      have := smN_mono M0 (k + 1) hk
      grind
    by_cases h0 : M k = 0
    · have w0 := R.2.1 h0
      have e : V k = 1 / 100000 := by rw [hV]; show (if wat (falF xs) k = 0 then (1 : Rat) / 100000 else _) = _; rw [if_pos w0]
      exact ⟨fun _ => e, fun hc => absurd h0 hc, by rw [e]; exact Rat.le_refl, by rw [e, h0]; decide +kernel, by rw [e]; decide +kernel⟩
    · have w0 : wat (falF xs) k ≠ 0 := fun hc => h0 ((R.nil (by decide +kernel)).1 hc)
      have e : V k = sv single (wat (falF xs) k) := by rw [hV]; show (if wat (falF xs) k = 0 then (1 : Rat) / 100000 else _) = _; rw [if_neg w0]
      have r1 := R.2.2.1 h0
      have r2 := R.2.2.2.2
      rw [← e] at r2
      have r3 := le_av (V k - M k)
      have r4 := neg_le_av (V k - M k)
      exact ⟨fun hc => absurd hc h0, fun _ => ⟨r2, r1⟩, by grind, by grind, by grind⟩
  have Vd : ∀ k, k + 1 < n → V (k + 1) ≤ V k := fun k hk => by
    have d := desc k hk
    have v := (V0 k (by omega)).2.2.1
    have b1 := (Mq k (by omega)).1
    rw [hV] at v ⊢
    simp only at v ⊢
    by_cases h1 : wat (falF xs) (k + 1) = 0
    · rw [if_pos h1]; exact v
    · rw [if_neg h1, if_neg (show ¬ wat (falF xs) k = 0 by omega)]
      exact sv_mono d b1
  clear hV desc Mq Aq H
  -- Gibbs
  have G : smN (fun k => A k * Lb (V k)) n ≤ smN (fun k => A k * Lb (A k)) n + 1 / 7500 := by
    have s : smN (fun k => A k * Lb (V k)) n ≤ smN (fun k => A k * Lb (A k) + (lnC⁻¹ * (V k + (-1) * A k) + 1 / 1000000000000000 * A k)) n := smN_le n fun k hk => by
      have a0 := A0 k hk
      have v := (V0 k hk).2.2.1
      have c := lnC_inv
      by_cases h0 : A k = 0
      · rw [h0]
        have := Rat.mul_nonneg c.2.1 (show 0 ≤ V k by grind)
        grind
      · have := gibL (show 0 < A k by grind) (show 0 < V k by grind)
        grind
    have t : smN V n ≤ smN (fun k => M k + 1 / 99999) n := smN_le n fun k hk => (V0 k hk).2.2.2.1
    rw [smN_add, smN_add, smN_mul, smN_mul, smN_add, smN_mul, Aone] at s
    rw [smN_add, smN_const, Mone] at t
    have k8 := nat_rat n8
    rw [show ((8 : Nat) : Rat) = 8 from rfl] at k8
    have c := lnC_inv
    have h2 := Rat.mul_le_mul_of_nonneg_left (show smN V n + -1 * 1 ≤ 1 / 12000 by grind) c.2.1
    grind
  have L : smN (fun k => M k * Lb (M k)) n ≤ smN (fun k => M k * Lb (V k)) n + 1 / 500000 := by
    have s : smN (fun k => M k * Lb (M k)) n ≤ smN (fun k => M k * Lb (V k) + 1 / 500000 * M k) n := smN_le n fun k hk => by
      have m0 := M0 k hk
      by_cases h0 : M k = 0
      · rw [h0]; grind
      · obtain ⟨v1, v2⟩ := (V0 k hk).2.1 h0
        have N := Lb_near (show 0 < M k by grind) (by decide +kernel) (by decide +kernel) v1
        have N1 := neg_le_av (Lb (V k) - Lb (M k))
        have := Rat.mul_le_mul_of_nonneg_left (show Lb (M k) ≤ Lb (V k) + 1 / 500000 by grind) m0
        grind
    rw [smN_add, smN_mul, Mone] at s
    grind
  obtain ⟨m, rfl⟩ : ∃ m, n = m + 1 := ⟨n - 1, by omega⟩
  have AB := abel (M := M) (A := A) (l := fun k => Lb (V k)) (d := 1 / 200000) (e := 1 / 1000000000000000) (n := m + 1) D (by decide +kernel) (fun k hk => Lb_mono (by have := (V0 (k + 1) hk).2.2.1; grind) (Vd k hk)) m (by omega)
  rw [Mone, Aone] at AB
  have S : smN (fun k => (M k - A k) * Lb (V k)) (m + 1) = smN (fun k => M k * Lb (V k)) (m + 1) + (-1) * smN (fun k => A k * Lb (V k)) (m + 1) := by
    rw [← smN_mul, ← smN_add]
    exact smN_eq _ fun k _ => by grind
  rw [S] at AB
  have top := (V0 0 (by omega)).2.2.2.2
  have top0 := (V0 0 (by omega)).2.2.1
  have bot := (V0 m (by omega)).2.2.1
  have T1 : Lb (V 0) ≤ 1 := by
    have := Lb_mono (show 0 < V 0 by grind) (show V 0 ≤ 1 * 2 by grind)
    have l2 : Lb 2 ≤ 14 := Rat.le_trans (le_av _) (Lb_in (by decide +kernel) (by decide +kernel))
    have n2 := Ln_le (show (0 : Rat) < 11 / 10 by decide +kernel)
    have m2 := Lb_mono (show 0 < V 0 by grind) top
    have e := eta_s
    have o := Lb_of (a := Ln (11 / 10)) (b := 0) (c := 1 / 2) (by have := lnC_b; grind)
    rw [show (0 : Rat) / lnC = 0 by rw [Rat.div_def, Rat.zero_mul]] at o
    unfold Lb at m2 ⊢
    grind
  have B1 := Lb_mono (show (0 : Rat) < 1 / 100000 by decide +kernel) bot
  have B2 := Lb_small
  have k8 := nat_rat (show m ≤ 8 by omega)
  rw [show ((8 : Nat) : Rat) = 8 from rfl] at k8
  unfold Hx
  generalize smN (fun k => M k * Lb (V k)) (m + 1) = u1 at *
  generalize smN (fun k => A k * Lb (V k)) (m + 1) = u2 at *
  generalize smN (fun k => M k * Lb (M k)) (m + 1) = u3 at *
  generalize smN (fun k => A k * Lb (A k)) (m + 1) = u4 at *
  generalize Lb (V 0) = t0 at *
  generalize Lb (V m) = tm at *
  clear D V0 Vd M0 A0 S
  grind

end Go.Proofs.Ytmocfnpbofeiiaa
