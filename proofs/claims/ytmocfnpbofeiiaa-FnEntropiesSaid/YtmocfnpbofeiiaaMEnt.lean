/- The bits of a chance and the entropy of a list of chances. -/
import Derived.Test.YtmocfnpbofeiiaaMLnc
import Derived.Test.YtmocfnpbofeiiaaMGiv
namespace Go.Proofs.Ytmocfnpbofeiiaa
set_option linter.unusedSimpArgs false
set_option linter.unusedVariables false
open Go.RowKit

theorem av_div_half {a b c : Rat} (hb : 1 / 2 ≤ av b) (ha : av a ≤ c) : av (a / b) ≤ c + c := by
  have hb0 : b ≠ 0 := by
    rintro rfl
    have : av 0 = 0 := rfl
    grind
  have e : av (a / b) * av b = av a := by rw [← av_mul, Rat.div_mul_cancel hb0]
  have h0 := av_nonneg (a / b)
  have := Rat.mul_le_mul_of_nonneg_left hb h0
  grind
theorem bd_div_half {k : FloatKind} {e : Nat} {x y : Nat} (hx : Bd k e x) (hy : Fnt k.format y) (h1 : 1 / 2 ≤ av (sv k.format y)) (he : e + 1 ≤ bias k) : (floatBits .quo k x y).isSome = true ∧ Bd k (e + 1) (fA .quo k x y) := by
  have hy0 : rg k.format y ≠ 0 := by
    intro h
    rw [av_sv, h, rv_zero] at h1
    exact absurd h1 (by decide +kernel)
  obtain ⟨w, h2, h3⟩ := div_rnd (k_hf k) (hx.fnt (by omega)) hy hy0
  obtain ⟨a1, a2⟩ := fA_of (op := .quo) (k := k) h2
  rw [a2]
  refine ⟨a1, bd_rnd h3 ?_⟩
  rw [p2_dbl]
  exact av_div_half h1 hx
theorem ln2_half : Fnt Ieee.single 1060205080 ∧ (1 : Rat) / 2 ≤ av (sv Ieee.single 1060205080) := by
  refine ⟨fin_of_lt _ (by rw [s_inf]; omega), ?_⟩
  rw [av_sv, show rg Ieee.single 1060205080 = 1060205080 by decide]
  have h := rv_le Ieee.single (show (1056964608 : Nat) ≤ 1060205080 by omega)
  have e := rv_at Ieee.single 125 8388608 (.inr ⟨by decide, by decide⟩)
  rw [show 125 * Ieee.single.binade + 8388608 = 1056964608 by decide] at e
  rw [e] at h
  have v : pv 8388608 (Ieee.single.leastPlace + ((125 : Nat) : Int)) = 1 / 2 := by decide +kernel
  rw [v] at h
  exact h
/-- The bits of a positive number. -/
def enB (x : Nat) : Nat := fA .quo .f32 (lnF x) 1060205080
theorem enB_bd {x : Nat} (h0 : 0 < x) (hx : x < 2139095040) : (floatBits .quo .f32 (lnF x) 1060205080).isSome = true ∧ Bd .f32 16 (enB x) :=
  bd_div_half (lnF_some h0 hx).2.1 ln2_half.1 ln2_half.2 (by decide)
def enT (x : Nat) : Nat := fA .mul .f32 x (enB x)
theorem enT_bd {x : Nat} (h0 : 0 < x) (hx : x < 2139095040) (hb : Bd .f32 1 x) : (floatBits .mul .f32 x (enB x)).isSome = true ∧ Bd .f32 17 (enT x) := by
  obtain ⟨a, b, _⟩ := bd_mul hb (enB_bd h0 hx).2 (by decide) (by decide)
  exact ⟨a, b⟩
def enA (s x : Nat) : Nat := if x % 2147483648 = 0 then s else fA .add .f32 s (enT x)
/-- The negative entropy. -/
def enS (xs : List Nat) : Nat := xs.foldl enA 0
def entF (xs : List Nat) : Nat := fA .sub .f32 0 (enS xs)
theorem enS_take_succ (xs : List Nat) (k : Nat) (h : k < xs.length) : enS (xs.take (k + 1)) = enA (enS (xs.take k)) (xs[k]?.getD 0) := by
  unfold enS
  rw [List.take_succ_eq_append_getElem h, List.foldl_append]
  simp [List.getElem?_eq_getElem h]
/-- A chance of a list whose sum is nearly 1. -/
def En (x : Nat) : Prop := Ch x ∧ Bd .f32 1 x
theorem En.pos {x : Nat} (h : En x) (h0 : ¬ x % 2147483648 = 0) : 0 < x ∧ x < 2139095040 := by
  have := h.1
  unfold Ch at this
  omega
theorem enS_bd {xs : List Nat} (h : ∀ x ∈ xs, En x) : ∀ k, k ≤ xs.length → k ≤ 100 → Bd .f32 (17 + k) (enS (xs.take k)) := by
  intro k
  induction k with
  | zero => intro _ _; exact Bd.of (show rg Ieee.single 0 ≤ WK .f32 17 by decide)
  | succ k ih =>
    intro hk hk9
    have hs := ih (by omega) (by omega)
    rw [enS_take_succ xs k (by omega)]
    have hx := get_pn h (show k < xs.length by omega)
    generalize xs[k]?.getD 0 = x at *
    unfold enA
    by_cases h0 : x % 2147483648 = 0
    · rw [if_pos h0]; exact hs.mono (by omega)
    · rw [if_neg h0]
      obtain ⟨p0, p1⟩ := hx.pos h0
      exact (bd_add hs ((enT_bd p0 p1 hx.2).2.mono (by omega)) (by show 17 + k + 1 ≤ 127; omega)).2.1
theorem enA_some {xs : List Nat} (h : ∀ x ∈ xs, En x) {k : Nat} (hk : k < xs.length) (hl : xs.length ≤ 100) (h0 : ¬ (xs[k]?.getD 0) % 2147483648 = 0) : (floatBits .add .f32 (enS (xs.take k)) (enT (xs[k]?.getD 0))).isSome = true := by
  have hs := enS_bd h k (by omega) (by omega)
  have hx := get_pn h hk
  generalize xs[k]?.getD 0 = x at *
  obtain ⟨p0, p1⟩ := hx.pos h0
  exact (bd_add hs ((enT_bd p0 p1 hx.2).2.mono (by omega)) (by show 17 + k + 1 ≤ 127; omega)).1
theorem entF_bd {xs : List Nat} (h : ∀ x ∈ xs, En x) (hl : xs.length ≤ 64) : (floatBits .sub .f32 0 (enS xs)).isSome = true ∧ Bd .f32 82 (entF xs) := by
  have hs := enS_bd h xs.length (by omega) (by omega)
  rw [List.take_length] at hs
  obtain ⟨a, b, _⟩ := bd_sub (Bd.of (show rg Ieee.single 0 ≤ WK .f32 81 by decide) : Bd .f32 81 0) (hs.mono (by omega : 17 + xs.length ≤ 81)) (by decide)
  exact ⟨a, b⟩
theorem order_xx {x : Nat} (h : x < 2139095040) : FloatKind.f32.format.order x x = some .eq := by
  rw [show FloatKind.f32.format = Ieee.single from rfl, order_pp (by omega) (by omega), Nat.compare_eq_eq.2 rfl]
theorem order_x0 {x : Nat} (h0 : 0 < x) (h : x < 2139095040) : FloatKind.f32.format.order x 0 = some .gt := by
  rw [show FloatKind.f32.format = Ieee.single from rfl, order_pp (by omega) (by omega), Nat.compare_eq_gt.2 h0]

set_option maxHeartbeats 1000000 in
theorem implLogNumber_any (x : Nat) (w : World) (h0 : 0 < x) (hx : x < 2139095040) :
    Calls Try.prog 103 #[.float .f32 x] w fun e w' => e = .returned (.float .f32 (lnF x)) ∧ Qu w w' := by
  have o1 := order_xx hx
  have o2 := order_x0 h0 hx
  have HF := Lib.hid (ch_finB (x := x) (.inl hx))
  obtain ⟨c1, c2, c3⟩ := up64_pos h0 hx
  obtain ⟨d1, d2, _⟩ := lnF_some h0 hx
  have C3 := Lib.hid (Nat.le_of_lt c3)
  have C2 := Lib.hid c2
  clear c2 c3 d2
  obtain ⟨r, hr⟩ : ∃ r, r = lnF x := ⟨_, rfl⟩
  obtain ⟨y, hy⟩ : ∃ y, y = up64 x := ⟨_, rfl⟩
  obtain ⟨l, hl⟩ : ∃ l, l = lnW y := ⟨_, rfl⟩
  rw [← hy] at c1 d1 C2 C3
  rw [← hr] at d1
  rw [← hr]
  rw [← hl] at d1
  have HL := Lib.hid hl
  clear hr hy hl
  have e1 := fun W : World => run_convert_float_float (P := Try.prog) W 32 29 .f32 .f64 x y (by rw [Try.underlying32]; rfl) Try.underlying29 c1
  have e2 := fun W : World => run_convert_float_float (P := Try.prog) W 29 32 .f64 .f32 l r (by rw [Try.underlying29]; rfl) Try.underlying32 d1
  clear c1 d1
  go_enter Try.func103, Try.ntmps103
  go_wp2_with (first
    | (go_at_call 69; refine (implIsFinite_any _ _).mono ?_; rw [HF.out]; rintro e w' ⟨rfl, m', rfl⟩)
    | (go_at_call 127; refine (naturalLog_any _ _ C2.out C3.out).mono ?_; rw [← HL.out]; rintro e w' ⟨rfl, rfl⟩))
  go_ret
  exact ⟨rfl, _, rfl⟩

set_option maxHeartbeats 1000000 in
theorem l01Narrow_any (y r : Nat) (w : World) (h : floatToFloatBits .f64 y .f32 = some r) :
    Calls Try.prog 147 #[.float .f64 y] w fun e w' => e = .returned (.float .f32 r) ∧ w = w' := by
  have e2 := run_convert_float_float (P := Try.prog) w 29 32 .f64 .f32 y r (by rw [Try.underlying29]; rfl) Try.underlying32 h
  clear h
  go_enter Try.func147, Try.ntmps147
  go_wp2
  go_ret
  exact ⟨rfl, rfl⟩
set_option maxHeartbeats 1000000 in
theorem l01Log_any (x : Nat) (w : World) (h0 : 0 < x) (hx : x < 2139095040) :
    Calls Try.prog 140 #[.float .f32 x] w fun e w' => e = .returned (.float .f32 (lnF x)) ∧ w = w' := by
  obtain ⟨c1, c2, c3⟩ := up64_pos h0 hx
  obtain ⟨d1, d2, _⟩ := lnF_some h0 hx
  have C3 := Lib.hid (Nat.le_of_lt c3)
  have C2 := Lib.hid c2
  have D1 := Lib.hid d1
  clear c2 c3 d2 d1
  obtain ⟨r, hr⟩ : ∃ r, r = lnF x := ⟨_, rfl⟩
  obtain ⟨y, hy⟩ : ∃ y, y = up64 x := ⟨_, rfl⟩
  obtain ⟨l, hl⟩ : ∃ l, l = lnW y := ⟨_, rfl⟩
  rw [← hy] at c1 D1 C2 C3
  rw [← hr] at D1
  rw [← hr]
  rw [← hl] at D1
  have HL := Lib.hid hl
  clear hr hy hl
  have e1 := fun W : World => run_convert_float_float (P := Try.prog) W 32 29 .f32 .f64 x y (by rw [Try.underlying32]; rfl) Try.underlying29 c1
  clear c1
  go_enter Try.func140, Try.ntmps140
  go_wp2_with (first
    | (go_at_call 147; refine (l01Narrow_any _ _ _ D1.out).mono ?_; rintro e w' ⟨rfl, rfl⟩)
    | (go_at_call 148; refine (l01LogWide_any _ _ C2.out C3.out).mono ?_; rw [← HL.out]; rintro e w' ⟨rfl, rfl⟩))
  go_ret
  exact ⟨rfl, rfl⟩

set_option maxHeartbeats 1000000 in
theorem bitsOf_any (x : Nat) (w : World) (h0 : 0 < x) (hx : x < 2139095040) :
    Calls Try.prog 73 #[.float .f32 x] w fun e w' => e = .returned (.float .f32 (enB x)) ∧ Qu w w' := by
  obtain ⟨b1, _⟩ := enB_bd h0 hx
  have H0 := Lib.hid h0
  have HX := Lib.hid hx
  have he : enB x = fA .quo .f32 (lnF x) 1060205080 := rfl
  rw [he]
  clear he
  go_enter Try.func73, Try.ntmps73
  go_wp2_with (go_at_call 103; refine (implLogNumber_any _ _ H0.out HX.out).mono ?_; rintro e w' ⟨rfl, m', rfl⟩)
  go_ret
  first | exact ⟨rfl, _, rfl⟩ | exact ⟨rfl, Qu.refl _⟩

set_option maxHeartbeats 1000000 in
theorem l02Bits_any (x : Nat) (w : World) (h0 : 0 < x) (hx : x < 2139095040) :
    Calls Try.prog 121 #[.float .f32 x] w fun e w' => e = .returned (.float .f32 (enB x)) ∧ Qu w w' := by
  obtain ⟨b1, _⟩ := enB_bd h0 hx
  have H0 := Lib.hid h0
  have HX := Lib.hid hx
  have he : enB x = fA .quo .f32 (lnF x) 1060205080 := rfl
  rw [he]
  clear he
  go_enter Try.func121, Try.ntmps121
  go_wp2_with (go_at_call 140; refine (l01Log_any _ _ H0.out HX.out).mono ?_; rintro e w' ⟨rfl, rfl⟩)
  go_ret
  first | exact ⟨rfl, _, rfl⟩ | exact ⟨rfl, Qu.refl _⟩

set_option maxHeartbeats 2000000 in
theorem entropy_any (v : Value) (xs : List Nat) (w : World) (hv : SlR w v (xs.map (Value.float .f32))) (hp : ∀ x ∈ xs, En x) (hl : xs.length ≤ 64) :
    Calls Try.prog 80 #[v] w fun e w' => e = .returned (.float .f32 (entF xs)) ∧ Qu w w' := by
  obtain ⟨a, n, c, rfl, hnl, hnc, hcm, hcell⟩ := SlR.opened 0 hv
  unfold maxLen at hcm
  have hn9 : n ≤ 9223372036854775807 := by omega
  have HN := Lib.hid hnl
  have HC := Lib.hid hcell
  have HP := Lib.hid hp
  have HL := Lib.hid hl
  clear hnl hcell hcm hnc hv hp hl
  go_enter Try.func80, Try.ntmps80
  go_wp2
  go_loopw [3, 8] (fun s i wr => ∃ k : Nat, k ≤ n ∧ i = .int .i64 k ∧ s = .float .f32 (enS (xs.take k)) ∧ Qu w wr) (fun _ i _ => n - (intOf i).toNat)
  case atStart => exact ⟨0, Nat.zero_le _, rfl, rfl, Qu.refl _⟩
  case round =>
    obtain ⟨k, hk, rfl, rfl, m, hm⟩ := hrel
    have HQ := Lib.hid hm
    by_cases hlt : k < n
    · obtain ⟨b, off, rfl, hc, hbl⟩ := HC.out k hlt
      rw [List.getD_eq_getElem?_getD] at hc
      have hcw := ((Qu.keep (w := w) (w' := wr) ⟨m, hm⟩).cell (p := ⟨b, off + k, none⟩) hbl).trans hc
      clear hm hc
      have hkl : k < xs.length := by rw [HN.out]; exact hlt
      have hz := get_pn HP.out hkl
      have hsum := enA_some HP.out hkl (by have := HL.out; omega)
      have HS := Lib.hid (enS_take_succ xs k hkl)
      have ho := order_p0 hz.1.pn
      have HE := Lib.hid hz
      clear hz hkl
      generalize xs[k]?.getD 0 = z at *
      generalize enS (xs.take k) = s at *
      by_cases h0 : z % 2147483648 = 0
      · rw [if_pos h0] at ho
        replace ho : FloatKind.f32.format.order z 0 = some _ := ho
        have H0 := Lib.hid h0
        clear h0 hsum
        go_wp2
        go_roundw
        case rel => exact ⟨k + 1, by omega, by go_num, by rw [HS.out, enA, if_pos H0.out], m, HQ.out⟩
        case measure => simp [intOf]; omega
      · rw [if_neg h0] at ho
        replace ho : FloatKind.f32.format.order z 0 = some _ := ho
        have hsm := hsum h0
        obtain ⟨p0, p1⟩ := HE.out.pos h0
        have hmul := (enT_bd p0 p1 HE.out.2).1
        have P0 := Lib.hid p0
        have P1 := Lib.hid p1
        have HT : Hid (enA s z = fA .add .f32 s (enT z)) := by show enA s z = _; rw [enA, if_neg h0]
        have het : enT z = fA .mul .f32 z (enB z) := rfl
        rw [het] at hsm HT
        clear het h0 hsum p0 p1
        obtain ⟨bz, hbz⟩ : ∃ bz, bz = enB z := ⟨_, rfl⟩
        rw [← hbz] at hmul hsm HT
        have HB := Lib.hid hbz
        clear hbz
        have hB : ∀ W : World, Calls Try.prog 73 #[.float .f32 z] W fun e w' => e = .returned (.float .f32 bz) ∧ ∃ mq, w' = W.drewN mq := fun W => (bitsOf_any _ W P0.out P1.out).mono fun e w' ⟨q1, q2⟩ => ⟨by rw [q1, ← HB.out], q2⟩
        go_wp2_with (go_at_call 73; refine (hB _).mono ?_; rintro e w' ⟨rfl, m', rfl⟩)
        all_goals try (go_quiet ((go_at_call 73; exact Calls.quiet_of (hB _))); go_wp2)
        go_roundw
        case rel => exact ⟨k + 1, by omega, by go_num, by rw [HS.out, HT.out], _, by rw [HQ.out, World.drewN_drewN]⟩
        case measure => simp [intOf]; omega
    · obtain rfl : n = k := by omega
      clear hm
      have hall : enS (xs.take n) = enS xs := by rw [List.take_of_length_le (by rw [HN.out]; exact Nat.le_refl _)]
      rw [hall]
      have hsub := (entF_bd HP.out HL.out).1
      have hef : Hid (entF xs = fA .sub .f32 0 (enS xs)) := rfl
      clear hall
      generalize enS xs = s at *
      go_wp2
      go_ret
      exact ⟨ret_float hef.out.symm, m, HQ.out⟩

set_option maxHeartbeats 2000000 in
theorem l02Entropy_any (v : Value) (xs : List Nat) (w : World) (hv : SlR w v (xs.map (Value.float .f32))) (hp : ∀ x ∈ xs, En x) (hl : xs.length ≤ 64) :
    Calls Try.prog 94 #[v] w fun e w' => e = .returned (.float .f32 (entF xs)) ∧ Qu w w' := by
  obtain ⟨a, n, c, rfl, hnl, hnc, hcm, hcell⟩ := SlR.opened 0 hv
  unfold maxLen at hcm
  have hn9 : n ≤ 9223372036854775807 := by omega
  have HN := Lib.hid hnl
  have HC := Lib.hid hcell
  have HP := Lib.hid hp
  have HL := Lib.hid hl
  clear hnl hcell hcm hnc hv hp hl
  go_enter Try.func94, Try.ntmps94
  go_wp2
  go_loopw [3, 4] (fun s i wr => ∃ k : Nat, k ≤ n ∧ i = .int .i64 k ∧ s = .float .f32 (enS (xs.take k)) ∧ Qu w wr) (fun _ i _ => n - (intOf i).toNat)
  case atStart => exact ⟨0, Nat.zero_le _, rfl, rfl, Qu.refl _⟩
  case round =>
    obtain ⟨k, hk, rfl, rfl, m, hm⟩ := hrel
    have HQ := Lib.hid hm
    by_cases hlt : k < n
    · obtain ⟨b, off, rfl, hc, hbl⟩ := HC.out k hlt
      rw [List.getD_eq_getElem?_getD] at hc
      have hcw := ((Qu.keep (w := w) (w' := wr) ⟨m, hm⟩).cell (p := ⟨b, off + k, none⟩) hbl).trans hc
      clear hm hc
      have hkl : k < xs.length := by rw [HN.out]; exact hlt
      have hz := get_pn HP.out hkl
      have hsum := enA_some HP.out hkl (by have := HL.out; omega)
      have HS := Lib.hid (enS_take_succ xs k hkl)
      have ho := order_p0 hz.1.pn
      have HE := Lib.hid hz
      clear hz hkl
      generalize xs[k]?.getD 0 = z at *
      generalize enS (xs.take k) = s at *
      by_cases h0 : z % 2147483648 = 0
      · rw [if_pos h0] at ho
        replace ho : FloatKind.f32.format.order z 0 = some _ := ho
        have H0 := Lib.hid h0
        clear h0 hsum
        go_wp2
        go_roundw
        case rel => exact ⟨k + 1, by omega, by go_num, by rw [HS.out, enA, if_pos H0.out], m, HQ.out⟩
        case measure => simp [intOf]; omega
      · rw [if_neg h0] at ho
        replace ho : FloatKind.f32.format.order z 0 = some _ := ho
        have hsm := hsum h0
        obtain ⟨p0, p1⟩ := HE.out.pos h0
        have hmul := (enT_bd p0 p1 HE.out.2).1
        have P0 := Lib.hid p0
        have P1 := Lib.hid p1
        have HT : Hid (enA s z = fA .add .f32 s (enT z)) := by show enA s z = _; rw [enA, if_neg h0]
        have het : enT z = fA .mul .f32 z (enB z) := rfl
        rw [het] at hsm HT
        clear het h0 hsum p0 p1
        obtain ⟨bz, hbz⟩ : ∃ bz, bz = enB z := ⟨_, rfl⟩
        rw [← hbz] at hmul hsm HT
        have HB := Lib.hid hbz
        clear hbz
        have hB : ∀ W : World, Calls Try.prog 121 #[.float .f32 z] W fun e w' => e = .returned (.float .f32 bz) ∧ ∃ mq, w' = W.drewN mq := fun W => (l02Bits_any _ W P0.out P1.out).mono fun e w' ⟨q1, q2⟩ => ⟨by rw [q1, ← HB.out], q2⟩
        go_wp2_with (go_at_call 121; refine (hB _).mono ?_; rintro e w' ⟨rfl, m', rfl⟩)
        all_goals try (go_quiet ((go_at_call 121; exact Calls.quiet_of (hB _))); go_wp2)
        go_roundw
        case rel => exact ⟨k + 1, by omega, by go_num, by rw [HS.out, HT.out], _, by rw [HQ.out, World.drewN_drewN]⟩
        case measure => simp [intOf]; omega
    · obtain rfl : n = k := by omega
      clear hm
      have hall : enS (xs.take n) = enS xs := by rw [List.take_of_length_le (by rw [HN.out]; exact Nat.le_refl _)]
      rw [hall]
      have hsub := (entF_bd HP.out HL.out).1
      have hef : Hid (entF xs = fA .sub .f32 0 (enS xs)) := rfl
      clear hall
      generalize enS xs = s at *
      go_wp2
      go_ret
      exact ⟨ret_float hef.out.symm, m, HQ.out⟩

end Go.Proofs.Ytmocfnpbofeiiaa
