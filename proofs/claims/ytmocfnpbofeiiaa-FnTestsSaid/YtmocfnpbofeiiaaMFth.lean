/- The share at which two rows are farthest apart: the two functions. -/
import Derived.Test.YtmocfnpbofeiiaaMFbi
namespace Go.Proofs.Ytmocfnpbofeiiaa
set_option linter.unusedSimpArgs false
set_option linter.unusedVariables false
open Go.RowKit

theorem half_quo2 {s : Nat} (h : Fnt Ieee.single s) : (floatBits .quo .f32 s 1073741824).isSome = true ∧ fA .quo .f32 s 1073741824 = fA .mul .f32 1056964608 s := by
  have f2 : Fnt Ieee.single 1073741824 := fin_of_lt _ (by rw [s_inf]; omega)
  have f1 : Fnt Ieee.single 1056964608 := fin_of_lt _ (by rw [s_inf]; omega)
  obtain ⟨q, h1, h2⟩ := div_spec s_hf h f2 (by decide)
  obtain ⟨p, h3, h4⟩ := mul_spec s_hf f1 h
  obtain ⟨a1, a2⟩ := fA_of (op := .quo) (k := .f32) h1
  obtain ⟨b1, b2⟩ := fA_of (op := .mul) (k := .f32) h3
  refine ⟨a1, ?_⟩
  rw [a2, b2]
  have e2 : rv Ieee.single (rg Ieee.single 1073741824) = 2 := by
    rw [show rg Ieee.single 1073741824 = 1073741824 by decide]
    have e := rv_at Ieee.single 127 8388608 (.inr ⟨by decide, by decide⟩)
    rw [show 127 * Ieee.single.binade + 8388608 = 1073741824 by decide] at e
    rw [e]
    decide +kernel
  have e1 : rv Ieee.single (rg Ieee.single 1056964608) = 1 / 2 := by
    have := sv_half
    rw [av_sv] at this
    exact this
  rw [e2] at h2
  rw [e1] at h4
  have hv : rv Ieee.single (rg Ieee.single s) / 2 = 1 / 2 * rv Ieee.single (rg Ieee.single s) := by grind
  rw [hv] at h2
  rw [h2.uniq h4]
  rw [show sg Ieee.single 1073741824 = false by decide, show sg Ieee.single 1056964608 = false by decide]
  cases sg Ieee.single s <;> rfl
theorem rs_3 : rv Ieee.single 1077936128 = 3 := by
  rw [show (1077936128 : Nat) = 127 * 8388608 + 12582912 by omega, rv_ss _ _ (by omega) (by omega)]; decide +kernel
theorem ss_3 : sv Ieee.single 1077936128 = 3 := by rw [sv_of_le Ieee.single (by rw [s_inf]; omega)]; exact rs_3
theorem ss_2 : sv Ieee.single 1073741824 = 2 := by rw [sv_of_le Ieee.single (by rw [s_inf]; omega)]; exact rs_2
theorem Sh.rungv {s : Nat} (h : Sh s) : rv Ieee.single (rg Ieee.single s) = sv Ieee.single s := by
  have := h.2.1
  rw [← av_sv, av_of_nonneg this]
theorem Sh.bd {s : Nat} (h : Sh s) : Bd .f32 0 s := av_le (by rw [p1_0]; exact h.2.2) (by rw [p1_0]; have h1 := h.2.1; have e : FloatKind.f32.format = Ieee.single := rfl; rw [e]; grind)
/-- One less a share of a half or more is a word. -/
theorem Sh.rest {s : Nat} (h : Sh s) (hh : 1 / 2 ≤ sv Ieee.single s) : ∃ K, rv Ieee.single K = 1 - sv Ieee.single s := by
  have h1 := h.rungv
  have k1 : 1056964608 ≤ rg Ieee.single s := (rv_le_iff Ieee.single).1 (by rw [h1, rs_half]; exact hh)
  have k2 : rg Ieee.single s ≤ 1065353216 := (rv_le_iff Ieee.single).1 (by rw [h1, rs_1]; exact h.2.2)
  obtain ⟨k, hk⟩ : ∃ k, rg Ieee.single s = 125 * 8388608 + k := ⟨rg Ieee.single s - 125 * 8388608, by omega⟩
  have h2 := rv_ss 125 k (by omega) (by omega)
  rw [← hk, h1] at h2
  have hb : Ieee.single.binade = 8388608 := by decide
  obtain ⟨r, hr, -⟩ := exact_rung Ieee.single (m := 16777216 - k) (p := -24) (by rw [hb]; omega) (by decide)
  refine ⟨r, ?_⟩
  have h3 := pv_add (16777216 - k) k (-24)
  rw [show 16777216 - k + k = 16777216 by omega] at h3
  have h4 : pv 16777216 (-24) = 1 := by decide +kernel
  have h5 : ((-149 : Int) + (125 : Nat)) = -24 := by decide
  rw [h5] at h2
  rw [hr]
  grind
theorem third {D X : Rat} (hX : 0 ≤ X) (h : D ≤ X) : D / 3 ≤ X := by grind
theorem third' {D X : Rat} (hX : 0 ≤ X) (h : -X ≤ D) : -X ≤ D / 3 := by grind
def fbC (l h : Nat) : Nat := fA .quo .f32 (fA .sub .f32 h l) 1077936128
theorem fb_step {l h : Nat} (hl : Sh l) (hh : Sh h) : (floatBits .sub .f32 h l).isSome = true ∧ (floatBits .quo .f32 (fA .sub .f32 h l) 1077936128).isSome = true ∧ (floatBits .add .f32 l (fbC l h)).isSome = true ∧ (floatBits .sub .f32 h (fbC l h)).isSome = true ∧ Sh (fA .add .f32 l (fbC l h)) ∧ Sh (fA .sub .f32 h (fbC l h)) := by
  have rl := hl.rungv
  have rh := hh.rungv
  obtain ⟨a1, a2, a3⟩ := bd_sub hh.bd hl.bd (by decide)
  rw [show FloatKind.f32.format = Ieee.single from rfl] at a3
  have f3 : Fnt Ieee.single 1077936128 := fin_of_lt _ (by rw [s_inf]; omega)
  obtain ⟨b1, b2, b3⟩ := bd_div (k := .f32) (y := 1077936128) a2 f3 (by rw [show FloatKind.f32.format = Ieee.single from rfl, ss_3]; decide +kernel) (by decide)
  rw [show FloatKind.f32.format = Ieee.single from rfl, ss_3] at b3
  have L0 := hl.2.1
  have L1 := hl.2.2
  have H0 := hh.2.1
  have H1 := hh.2.2
  have hub : ∀ (K : Nat) (X : Rat), rv Ieee.single K = X → sv Ieee.single h - sv Ieee.single l ≤ X → sv Ieee.single (fbC l h) ≤ X := fun K X hK hX => by
    have h0 : 0 ≤ X := by rw [← hK]; exact rv_nonneg _ _
    exact rnd_le K b3 hK (third h0 (rnd_le K a3 hK hX))
  have hlb : ∀ (K : Nat) (X : Rat), rv Ieee.single K = X → -X ≤ sv Ieee.single h - sv Ieee.single l → -X ≤ sv Ieee.single (fbC l h) := fun K X hK hX => by
    have h0 : 0 ≤ X := by rw [← hK]; exact rv_nonneg _ _
    exact rnd_ge K b3 hK (third' h0 (rnd_ge K a3 hK hX))
  have q1 := hub _ _ rh (by grind)
  have q2 := hlb _ _ rl (by grind)
  have d1 := rnd_le 1065353216 a3 rs_1 (by grind)
  have d2 := rnd_ge 1065353216 a3 rs_1 (by grind)
  have q3 := rnd_le 1056964608 b3 rs_half (by grind)
  have q4 := rnd_ge 1056964608 b3 rs_half (by grind)
  have e3 : fA .quo .f32 (fA .sub .f32 h l) 1077936128 = fbC l h := rfl
  rw [e3] at q3 q4 b2
  have q5 : sv Ieee.single l + sv Ieee.single (fbC l h) ≤ 1 := by
    by_cases hc : 1 / 2 ≤ sv Ieee.single l
    · obtain ⟨K, hK⟩ := hl.rest hc
      have := hub K _ hK (by grind)
      grind
    · grind
  have q6 : sv Ieee.single h - sv Ieee.single (fbC l h) ≤ 1 := by
    by_cases hc : 1 / 2 ≤ sv Ieee.single h
    · obtain ⟨K, hK⟩ := hh.rest hc
      have := hlb K _ hK (by grind)
      grind
    · grind
  obtain ⟨c1, c2, c3⟩ := bd_add (hl.bd.mono (Nat.zero_le 1)) b2 (by decide)
  obtain ⟨g1, g2, g3⟩ := bd_sub (hh.bd.mono (Nat.zero_le 1)) b2 (by decide)
  rw [show FloatKind.f32.format = Ieee.single from rfl] at c3 g3
  exact ⟨a1, b1, c1, g1, ⟨c2.fnt (by decide), rnd_ge0 c3 (by grind), rnd_le 1065353216 c3 rs_1 q5⟩, ⟨g2.fnt (by decide), rnd_ge0 g3 (by grind), rnd_le 1065353216 g3 rs_1 q6⟩⟩
def fbS (l h : Nat) : Nat := fA .mul .f32 1056964608 (fA .add .f32 l h)
theorem fb_share {l h : Nat} (hl : Sh l) (hh : Sh h) : (floatBits .add .f32 l h).isSome = true ∧ (floatBits .mul .f32 1056964608 (fA .add .f32 l h)).isSome = true ∧ ((floatBits .quo .f32 (fA .add .f32 l h) 1073741824).isSome = true ∧ fA .quo .f32 (fA .add .f32 l h) 1073741824 = fbS l h) ∧ Sh (fbS l h) := by
  obtain ⟨a1, a2, a3⟩ := bd_add hl.bd hh.bd (by decide)
  have L0 := hl.2.1
  have L1 := hl.2.2
  have H0 := hh.2.1
  have H1 := hh.2.2
  rw [show FloatKind.f32.format = Ieee.single from rfl] at a3
  have d1 := rnd_le 1073741824 a3 rs_2 (by grind)
  have d0 := rnd_ge0 a3 (by grind)
  have hb : Bd .f32 0 1056964608 := Bd.of (by decide)
  have sh : sv Ieee.single 1056964608 = 1 / 2 := by rw [sv_of_le Ieee.single (by rw [s_inf]; omega)]; exact rs_half
  obtain ⟨b1, b2, b3⟩ := bd_mul hb a2 (by decide) (by decide)
  rw [show FloatKind.f32.format = Ieee.single from rfl, sh] at b3
  exact ⟨a1, b1, half_quo2 (a2.fnt (by decide)), ⟨b2.fnt (by decide), rnd_ge0 b3 (by grind), rnd_le 1065353216 b3 rs_1 (by grind)⟩⟩
/-- The bounds behind n rounds. -/
def fbN (xs ys : List Nat) : Nat → Nat × Nat
  | 0 => (0, 1065353216)
  | n + 1 => if FloatKind.f32.format.order (farF xs ys (fA .add .f32 (fbN xs ys n).1 (fbC (fbN xs ys n).1 (fbN xs ys n).2))) (farF xs ys (fA .sub .f32 (fbN xs ys n).2 (fbC (fbN xs ys n).1 (fbN xs ys n).2))) = some .lt
    then (fA .add .f32 (fbN xs ys n).1 (fbC (fbN xs ys n).1 (fbN xs ys n).2), (fbN xs ys n).2) else ((fbN xs ys n).1, fA .sub .f32 (fbN xs ys n).2 (fbC (fbN xs ys n).1 (fbN xs ys n).2))
theorem fbN_sh (xs ys : List Nat) : ∀ n, Sh (fbN xs ys n).1 ∧ Sh (fbN xs ys n).2 := by
  intro n
  induction n with
  | zero =>
    have h0 : sv Ieee.single 0 = 0 := sv_rg0 (by decide)
    exact ⟨⟨by show Fnt Ieee.single 0; unfold Fnt; decide, by show 0 ≤ sv Ieee.single 0; rw [h0]; exact Rat.le_refl, by show sv Ieee.single 0 ≤ 1; rw [h0]; decide +kernel⟩, ⟨by show Fnt Ieee.single 1065353216; unfold Fnt; decide, by show 0 ≤ sv Ieee.single 1065353216; rw [ss_1]; decide +kernel, by show sv Ieee.single 1065353216 ≤ 1; rw [ss_1]; exact Rat.le_refl⟩⟩
  | succ n ih =>
    obtain ⟨_, _, _, _, s1, s2⟩ := fb_step ih.1 ih.2
    unfold fbN
    split
    · exact ⟨s1, ih.2⟩
    · exact ⟨ih.1, s2⟩
def fbR (xs ys : List Nat) : Nat := fbS (fbN xs ys 40).1 (fbN xs ys 40).2
def out_FarthestBits (xs ys : List Nat) : Nat × Nat × Bool := if abvB xs ys then (if finB (farF xs ys (fbR xs ys)) then (fbR xs ys, farF xs ys (fbR xs ys), true) else (0, 0, false)) else (0, 0, false)
theorem nan0_FarthestBits (xs : List Nat) (_ : ∀ x ∈ xs, x < 4294967296) (_ : xs.length ≤ 1048576) (ys : List Nat) (_ : ∀ x ∈ ys, x < 4294967296) (_ : ys.length ≤ 1048576) : nanB (out_FarthestBits xs ys).1 = false := by
  unfold out_FarthestBits
  split
  · split
    · have h := (fb_share (fbN_sh xs ys 40).1 (fbN_sh xs ys 40).2).2.2.2.1
      have h2 : rg Ieee.single (fbR xs ys) < Ieee.single.infRung := h
      rw [rgs, s_inf] at h2
      exact decide_eq_false (by show ¬ 2139095040 < fbR xs ys % 2147483648; omega)
    · rfl
  · rfl
theorem nan1_FarthestBits (xs : List Nat) (_ : ∀ x ∈ xs, x < 4294967296) (_ : xs.length ≤ 1048576) (ys : List Nat) (_ : ∀ x ∈ ys, x < 4294967296) (_ : ys.length ≤ 1048576) : nanB (out_FarthestBits xs ys).2.1 = false := by
  unfold out_FarthestBits
  split
  · split
    · rename_i h
      have := of_decide_eq_true h
      exact decide_eq_false (by show ¬ 2139095040 < farF xs ys (fbR xs ys) % 2147483648; omega)
    · rfl
  · rfl

set_option maxHeartbeats 4000000 in
theorem impl_FarthestBits (w : World) (v : Value) (xs : List Nat) (hv : SlR w v (xs.map (Value.float .f32))) (hx : ∀ x ∈ xs, x < 4294967296) (_ : xs.length ≤ 1048576) (u : Value) (ys : List Nat) (hu : SlR w u (ys.map (Value.float .f32))) (hy : ∀ x ∈ ys, x < 4294967296) (_ : ys.length ≤ 1048576) :
    Calls Try.prog 24 #[v, u] w fun e w' => e = .returned (.tuple #[.float .f32 (out_FarthestBits xs ys).1, .float .f32 (out_FarthestBits xs ys).2.1, .bool (out_FarthestBits xs ys).2.2]) ∧ Below w.heap.size w w' := by
  have HX := Lib.hid hx
  have HY := Lib.hid hy
  have HVB := Lib.hid (fun (W : World) (hq : Below w.heap.size w W) => hv.below hq)
  have HUB := Lib.hid (fun (W : World) (hq : Below w.heap.size w W) => hu.below hq)
  have HV := Lib.hid hv
  have HU := Lib.hid hu
  clear hx hy
  cases hd : abvB xs ys
  · have HD := Lib.hid hd
    have ho : out_FarthestBits xs ys = (0, 0, false) := by unfold out_FarthestBits; rw [hd]; rfl
    rw [ho]
    clear hd hv hu ho
    go_enter Try.func24, Try.ntmps24
    go_wp2_with (go_at_call 71; refine (areAbove_any _ _ xs ys _ HV.out HU.out HX.out HY.out).mono ?_; rw [HD.out]; rintro e w1 ⟨rfl, hq1⟩; have hb1 : Below w.heap.size w w1 := by first | exact hq1 | exact hq1.keep)
    go_ret3
    exact ⟨rfl, hb1⟩
  · have HD := Lib.hid hd
    have ho : out_FarthestBits xs ys = if finB (farF xs ys (fbR xs ys)) then (fbR xs ys, farF xs ys (fbR xs ys), true) else (0, 0, false) := by unfold out_FarthestBits; rw [hd]; rfl
    obtain ⟨-, ax, ay, hl, h32⟩ := abvB_abv hd
    have HF : Hid (∀ (s : Nat) (W : World), Sh s → Below w.heap.size w W → Calls Try.prog 74 #[v, u, .float .f32 s] W fun e w' => e = .returned (.float .f32 (farF xs ys s)) ∧ Qu W w') := by
      show ∀ (s : Nat) (W : World), _
      exact fun s W hs hq => farBits_any v u xs ys s W (HVB.out W hq) (HUB.out W hq) hs ax ay hl h32
    have HSH := Lib.hid (fbN_sh xs ys)
    have HYY : Hid (∀ W : World, Calls Try.prog 63 #[.float .f32 (farF xs ys (fbR xs ys))] W fun e w' => e = .returned (.tuple #[.float .f32 (fz (farF xs ys (fbR xs ys))), .bool (finB (farF xs ys (fbR xs ys)))]) ∧ Qu W w') := by
      show ∀ W : World, _
      exact fun W => asNumber_any _ W
    have HN : Hid (∀ n, fbN xs ys (n + 1) = if FloatKind.f32.format.order (farF xs ys (fA .add .f32 (fbN xs ys n).1 (fbC (fbN xs ys n).1 (fbN xs ys n).2))) (farF xs ys (fA .sub .f32 (fbN xs ys n).2 (fbC (fbN xs ys n).1 (fbN xs ys n).2))) = some .lt
      then (fA .add .f32 (fbN xs ys n).1 (fbC (fbN xs ys n).1 (fbN xs ys n).2), (fbN xs ys n).2) else ((fbN xs ys n).1, fA .sub .f32 (fbN xs ys n).2 (fbC (fbN xs ys n).1 (fbN xs ys n).2))) := Lib.hid (fun _ => rfl)
    have HR : Hid (fbR xs ys = fbS (fbN xs ys 40).1 (fbN xs ys 40).2) := rfl
    have HFR := Lib.hid (fun W hq => HF.out (fbR xs ys) W (by rw [HR.out]; exact (fb_share (HSH.out 40).1 (HSH.out 40).2).2.2.2) hq)
    have HFz : Hid (finB (farF xs ys (fbR xs ys)) = true → fz (farF xs ys (fbR xs ys)) = farF xs ys (fbR xs ys)) := Lib.hid (fun h => by unfold fz; rw [h]; rfl)
    generalize farF xs ys (fbR xs ys) = B at *
    generalize fbR xs ys = R at *
    obtain ⟨o, hoo⟩ : ∃ o, o = out_FarthestBits xs ys := ⟨_, rfl⟩
    rw [← hoo]
    rw [← hoo] at ho
    have HO := Lib.hid ho
    clear hd hv hu ho hoo ax ay hl h32
    go_enter Try.func24, Try.ntmps24
    go_wp2_with (go_at_call 71; refine (areAbove_any _ _ xs ys _ HV.out HU.out HX.out HY.out).mono ?_; rw [HD.out]; rintro e w1 ⟨rfl, hq1⟩; have hb1 : Below w.heap.size w w1 := by first | exact hq1 | exact hq1.keep)
    go_loopw [7, 8, 17] (fun l h i wr => ∃ n : Nat, n ≤ 40 ∧ i = .int .i64 (n : Int) ∧ l = .float .f32 (fbN xs ys n).1 ∧ h = .float .f32 (fbN xs ys n).2 ∧ Below w.heap.size w wr) (fun _ _ i _ => 40 - (intOf i).toNat)
    case atStart => exact ⟨0, Nat.zero_le _, rfl, rfl, rfl, hb1⟩
    case round =>
      clear hb1
      obtain ⟨n, hn, rfl, rfl, rfl, hb⟩ := hrel
      by_cases hlt : n < 40
      · obtain ⟨s1, s2⟩ := HSH.out n
        obtain ⟨k1, k2, k3, k4, t1, t2⟩ := fb_step s1 s2
        have hs := HN.out n
        have hc : fA .quo .f32 (fA .sub .f32 (fbN xs ys n).2 (fbN xs ys n).1) 1077936128 = fbC (fbN xs ys n).1 (fbN xs ys n).2 := rfl
        have T1 := Lib.hid t1
        have T2 := Lib.hid t2
        clear s1 s2 t1 t2
        generalize fbN xs ys n = p at *
        obtain ⟨l, h⟩ := p
        dsimp only at *
        generalize fbC l h = c at *
        obtain ⟨la, hla⟩ : ∃ la, la = fA .add .f32 l c := ⟨_, rfl⟩
        obtain ⟨hc2, hhc⟩ : ∃ hc, hc = fA .sub .f32 h c := ⟨_, rfl⟩
        rw [← hla] at hs T1
        rw [← hhc] at hs T2
        replace hla := hla.symm
        replace hhc := hhc.symm
        have F1 := Lib.hid (fun W hq => HF.out la W T1.out hq)
        have F2 := Lib.hid (fun W hq => HF.out hc2 W T2.out hq)
        generalize farF xs ys la = A1 at *
        generalize farF xs ys hc2 = A2 at *
        have HS := Lib.hid hs
        clear hs
        cases ho : FloatKind.f32.format.order A1 A2
        · go_wp2_with (first
            | (go_at_call 74; (with_reducible refine (F2.out _ hb3).mono ?_); rintro e w4 ⟨rfl, hq4⟩; have hb4 := hb3.trans (hq4.below _))
            | (go_at_call 74; (with_reducible refine (F1.out _ hb).mono ?_); rintro e w3 ⟨rfl, hq3⟩; have hb3 := hb.trans (hq3.below _)))
          go_roundw
          case rel => exact ⟨n + 1, by omega, by go_num, by rw [HS.out, ho]; rfl, by rw [HS.out, ho]; rfl, hb4⟩
          case measure => simp [intOf]; omega
        · rename_i q
          have HOO := Lib.hid ho
          cases q
          all_goals
            go_wp2_with (first
              | (go_at_call 74; (with_reducible refine (F2.out _ hb3).mono ?_); rintro e w4 ⟨rfl, hq4⟩; have hb4 := hb3.trans (hq4.below _))
              | (go_at_call 74; (with_reducible refine (F1.out _ hb).mono ?_); rintro e w3 ⟨rfl, hq3⟩; have hb3 := hb.trans (hq3.below _)))
            go_roundw
            case rel => exact ⟨n + 1, by omega, by go_num, by rw [HS.out, HOO.out]; rfl, by rw [HS.out, HOO.out]; rfl, hb4⟩
            case measure => simp [intOf]; omega
      · obtain rfl : n = 40 := by omega
        obtain ⟨s1, s2⟩ := HSH.out 40
        obtain ⟨k1, k2, ⟨k3, k4⟩, -⟩ := fb_share s1 s2
        have hr := HR.out
        have hbs : fA .mul .f32 1056964608 (fA .add .f32 (fbN xs ys 40).1 (fbN xs ys 40).2) = fbS (fbN xs ys 40).1 (fbN xs ys 40).2 := rfl
        rw [← hr] at k4 hbs
        clear s1 s2 hr HR
        generalize fbN xs ys 40 = p at *
        obtain ⟨l, h⟩ := p
        dsimp only at *
        cases hf : finB B
        all_goals
          have HFF := Lib.hid hf
          have HO2 := Lib.hid HO.out
          clear HO hf
          rw [HFF.out] at HO2
          go_wp2_with (first
            | (go_at_call 63; refine (HYY.out _).mono ?_; rw [HFF.out]; rintro e w4 ⟨rfl, hq4⟩; have hb4 := hb3.trans (hq4.below _))
            | (go_at_call 74; refine (HFR.out _ hb).mono ?_; rintro e w3 ⟨rfl, hq3⟩; have hb3 := hb.trans (hq3.below _)))
          go_ret3
          exact ⟨by rw [HO2.out]; first | rfl | rw [HFz.out HFF.out]; rfl, hb4⟩

end Go.Proofs.Ytmocfnpbofeiiaa
