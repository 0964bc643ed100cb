/- Numbers made wide and narrow again. -/
import Derived.Test.YtimhljcebeiofaaGreatDoorPrA
import Derived.Test.YtimhljcebeiofaaGreatDoorPrC
import Derived.Test.YtimhljcebeiofaaGreatDoorLnp
namespace Go.Proofs.YtimhljcebeiofaaGreatDoor
set_option linter.unusedSimpArgs false
set_option linter.unusedVariables false
open Go.RowKit
open Ieee
theorem word_back {x : Nat} (h : x < 4294967296) : single.word (sg single x) (rg single x) = x := by
  unfold Format.word sg rg
  rw [s_sw]
  by_cases hs : x / 2147483648 % 2 = 1
  · rw [hs]; simp; omega
  · have : (x / 2147483648 % 2 == 1) = false := beq_eq_false_iff_ne.2 hs
    rw [this]; simp; omega
/-- A number made wide, and narrow again. -/
theorem dn_up {x : Nat} (h : x < 4294967296) (hn : nanB x = false) : ∃ y, floatToFloatBits .f32 x .f64 = some y ∧ floatToFloatBits .f64 y .f32 = some x := by
  have h2 := of_decide_eq_false hn
  by_cases hf : Fnt single x
  · obtain ⟨y, h1, hfy, hsy, hvy⟩ := conv_up hf
    refine ⟨y, h1, ?_⟩
    obtain ⟨m, p, e1, e2⟩ := read_fin double y hfy
    obtain ⟨q, n1, n2⟩ := nearest_spec single s_hf (sg double y) m p
    rw [e2, hvy] at n2
    have hq : q = rg single x := n2.uniq (Near.exact _ _)
    have hlt : rg single x < single.infRung := hf
    rw [hq, Nat.min_eq_left (Nat.le_of_lt hlt), hsy, word_back h] at n1
    have hd : FloatKind.decode .f64 y = .number (sg double y) m p := e1
    have he : FloatKind.encode .f32 (.number (sg double y) m p) = x := by rw [← n1, hsy]; rfl
    unfold floatToFloatBits
    rw [if_neg (by decide), hd]
    simp only [he]
    obtain ⟨m', p', k1, _⟩ := read_fin single x hf
    have hdd : FloatKind.decode .f32 x = .number (sg single x) m' p' := k1
    rw [hdd]
    simp [Datum.isInfinity]
  · unfold Fnt at hf
    rw [rgs, s_inf] at hf
    have hr : rg single x = 2139095040 := by rw [rgs]; omega
    refine ⟨_, conv_up_inf hr, ?_⟩
    have e1 := read_inf double d_he (double.word (sg single x) double.infRung) (rg_word _ _ (Nat.le_refl _))
    rw [sg_word _ _ (Nat.le_refl _)] at e1
    have hd : FloatKind.decode .f64 (double.word (sg single x) double.infRung) = .infinity (sg single x) := e1
    unfold floatToFloatBits
    rw [if_neg (by decide), hd]
    have : FloatKind.encode .f32 (.infinity (sg single x)) = single.word (sg single x) single.infRung := rfl
    simp only [this]
    rw [s_inf, ← hr, word_back h]
/-- The bits that a not-a-number gets when it is made wide, and when it is made narrow. -/
def nqU (z : Nat) (w : World) : Nat := (w.tape w.drawn (.nanConv .f64 z) % 2) * 2 ^ 63 + 0x7ff0000000000000 + 1 + (w.tape w.drawn (.nanConv .f64 z) / 2) % (2 ^ 52 - 1)
def nqD (z : Nat) (w : World) : Nat := (w.tape w.drawn (.nanConv .f32 z) % 2) * 2 ^ 31 + 0x7f800000 + 1 + (w.tape w.drawn (.nanConv .f32 z) / 2) % (2 ^ 23 - 1)
theorem nqU_read (z : Nat) (w : World) : ∃ s u, double.read (nqU z w) = .nan s u := by
  have hn : ∀ t : Nat, ∃ s u, Ieee.double.read ((t % 2) * 2 ^ 63 + 0x7ff0000000000000 + 1 + (t / 2) % (2 ^ 52 - 1)) = .nan s u := by
    intro t
    unfold Ieee.Format.read
    dsimp only
    have hb : Ieee.double.binade = 4503599627370496 := by decide
    rw [d_sw, d_inf, hb]
    have h : 9218868437227405312 < (t % 2 * 2 ^ 63 + 0x7ff0000000000000 + 1 + t / 2 % (2 ^ 52 - 1)) % 9223372036854775808 := by
      rcases Nat.mod_two_eq_zero_or_one t with h | h <;> rw [h] <;> omega
    rw [if_neg (by omega), if_neg (by omega), if_neg (by omega)]
    exact ⟨_, _, rfl⟩
  exact hn _
theorem nqD_nan (z : Nat) (w : World) : nanB (nqD z w) = true ∧ nqD z w < 4294967296 := by
  have hn : ∀ t : Nat, nanB ((t % 2) * 2 ^ 31 + 0x7f800000 + 1 + (t / 2) % (2 ^ 23 - 1)) = true ∧ (t % 2) * 2 ^ 31 + 0x7f800000 + 1 + (t / 2) % (2 ^ 23 - 1) < 4294967296 := by
    intro t
    unfold nanB
    rcases Nat.mod_two_eq_zero_or_one t with h | h
    · rw [h]; exact ⟨decide_eq_true (by omega), by omega⟩
    · rw [h]; exact ⟨decide_eq_true (by omega), by omega⟩
  exact hn _
/-- The wide word of x at W, and the world behind. -/
def wdW (x : Nat) (W : World) : Nat := if nanB x then nqU x W else up64 x
def wdS (x : Nat) (W : World) : World := if nanB x then W.drew else W
/-- y is x made wide. -/
def UpR (x y : Nat) : Prop := (nanB x = false ∧ floatToFloatBits .f32 x .f64 = some y ∧ floatToFloatBits .f64 y .f32 = some x) ∨ (nanB x = true ∧ ∃ s u, double.read y = .nan s u)
def nwW (x y : Nat) (W : World) : Nat := if nanB x then nqD y W else x
theorem wdW_up {x : Nat} (h : x < 4294967296) (W : World) : UpR x (wdW x W) := by
  unfold wdW
  cases hn : nanB x
  · obtain ⟨y, h1, h2⟩ := dn_up h hn
    have : up64 x = y := by unfold up64; rw [h1]; rfl
    rw [if_neg (by simp), this]
    exact .inl ⟨hn, h1, h2⟩
  · rw [if_pos rfl]
    exact .inr ⟨hn, nqU_read _ _⟩
theorem wdS_qu (x : Nat) (W : World) : Qu W (wdS x W) := by
  unfold wdS
  split
  · exact ⟨1, rfl⟩
  · exact Qu.refl _
theorem nwW_ok {x : Nat} (h : x < 4294967296) (y : Nat) (W : World) : cn (nwW x y W) = cn x ∧ nwW x y W < 4294967296 := by
  unfold nwW
  cases hn : nanB x
  · rw [if_neg (by simp)]; exact ⟨rfl, h⟩
  · rw [if_pos rfl]
    obtain ⟨a, b⟩ := nqD_nan y W
    refine ⟨?_, b⟩
    unfold cn
    rw [if_pos a, if_pos hn]
theorem run_wide (x : Nat) (W : World) (h : x < 4294967296) : (convert 28 46 (.float .f32 x)).run Tryz.prog W = .ok (.float .f64 (wdW x W)) (wdS x W) := by
  cases hn : nanB x
  · have e := wdW_up h W
    rcases e with ⟨_, h1, _⟩ | ⟨h1, _⟩
    · have hS : wdS x W = W := if_neg (by rw [hn]; simp)
      rw [hS]
      exact run_convert_float_float W _ _ .f32 .f64 _ _ (by rw [Tryz.underlying28]; rfl) Tryz.underlying46 h1
    · rw [hn] at h1; cases h1
  · obtain ⟨s, t, hr⟩ := nan_read hn
    have hd : FloatKind.decode .f32 x = .nan s t := hr
    have e1 : wdW x W = nqU x W := if_pos hn
    have e2 : wdS x W = W.drew := if_pos hn
    rw [e1, e2]
    simp [convert, run_underlying Tryz.underlying28, run_underlying Tryz.underlying46, Conv.floatToFloat, hd, choose, Sem.run, Question.forced, Question.cut, nqU]
theorem run_narrow (x y : Nat) (W : World) (h : UpR x y) : (convert 46 28 (.float .f64 y)).run Tryz.prog W = .ok (.float .f32 (nwW x y W)) (wdS x W) := by
  rcases h with ⟨hn, _, h1⟩ | ⟨hn, s, u, hr⟩
  · have hS : wdS x W = W := if_neg (by rw [hn]; simp)
    have hV : nwW x y W = x := if_neg (by rw [hn]; simp)
    rw [hS, hV]
    exact run_convert_float_float W _ _ .f64 .f32 _ _ (by rw [Tryz.underlying46]; rfl) Tryz.underlying28 h1
  · have hd : FloatKind.decode .f64 y = .nan s u := hr
    have e1 : nwW x y W = nqD y W := if_pos hn
    have e2 : wdS x W = W.drew := if_pos hn
    rw [e1, e2]
    simp [convert, run_underlying Tryz.underlying28, run_underlying Tryz.underlying46, Conv.floatToFloat, hd, choose, Sem.run, Question.forced, Question.cut, nqD]

set_option maxHeartbeats 1000000 in
theorem narrowComplex_any (a b u v : Nat) (ha : a < 4294967296) (hb : b < 4294967296) (hu : UpR a u) (hv : UpR b v) (w : World) :
    Calls Tryz.prog 24 #[.complex .f64 u v] w fun e w' => (∃ x y, x < 4294967296 ∧ y < 4294967296 ∧ cn x = cn a ∧ cn y = cn b ∧ e = .returned (.complex .f32 x y)) ∧ Qu w w' := by
  have h1 := fun W => run_narrow a u W hu
  have h2 := fun W => run_narrow b v W hv
  have HA := Lib.hid (fun W => nwW_ok ha u W)
  have HB := Lib.hid (fun W => nwW_ok hb v W)
  have HQ := Lib.hid (fun W => (wdS_qu a W).trans (wdS_qu b (wdS a W)))
  clear hu hv ha hb
  go_enter Tryz.func24, Tryz.ntmps24
  go_wp2
  go_ret
  exact ⟨⟨_, _, (HA.out _).2, (HB.out _).2, (HA.out _).1, (HB.out _).1, rfl⟩, HQ.out _⟩

set_option maxHeartbeats 1000000 in
theorem isFiniteComplex_any (a b : Nat) (w : World) : Calls Tryz.prog 25 #[.complex .f32 a b] w fun e w' => e = .returned (.bool (finB a && finB b)) ∧ Qu w w' := by
  have H1 := Lib.hid (fun W => implIsFinite_any a W)
  have H2 := Lib.hid (fun W => implIsFinite_any b W)
  generalize finB a = t at *
  generalize finB b = s at *
  cases t
  all_goals
    go_enter Tryz.func25, Tryz.ntmps25
    go_wp2_with (first
      | (go_at_call 50; with_reducible refine (H1.out _).mono ?_; rintro e w1 ⟨rfl, hq1⟩)
      | (go_at_call 50; with_reducible refine (H2.out _).mono ?_; rintro e w2 ⟨rfl, hq2⟩))
    go_ret
  · exact ⟨rfl, hq1⟩
  · exact ⟨rfl, hq1.trans hq2⟩

set_option maxHeartbeats 1000000 in
theorem isFiniteS_any (a : Nat) (w : World) : Calls Tryz.prog 26 #[.float .f32 a] w fun e w' => e = .returned (.bool (finB a)) ∧ Qu w w' := by
  have H1 := Lib.hid (fun W => l01Finite_any a W)
  generalize finB a = t at *
  go_enter Tryz.func26, Tryz.ntmps26
  go_wp2_with (go_at_call 51; refine (H1.out _).mono ?_; rintro e w1 ⟨rfl, hq1⟩)
  go_ret
  exact ⟨rfl, hq1⟩

end Go.Proofs.YtimhljcebeiofaaGreatDoor
