/- Numbers read back from their bits: the reference's guess. -/
import Derived.Test.YtcgenmkgdhaejaaDoorNob4
import Derived.IntWalk
namespace Go.Proofs.YtcgenmkgdhaejaaDoor
set_option linter.unusedSimpArgs false
set_option linter.unusedVariables false
open Go.RowKit
theorem vpA_lt : ∀ (d : Nat) (x : List UInt8) (a : Nat), vpA a x d < (a + 1) * 2 ^ d := by
  intro d
  induction d with
  | zero => intro x a; rw [vpA_zero]; omega
  | succ d ih =>
    intro x a
    have e : (a + 1) * 2 ^ (d + 1) = (2 * (a + 1)) * 2 ^ d := by rw [Nat.pow_succ, Nat.mul_comm (2 ^ d) 2, ← Nat.mul_assoc, Nat.mul_comm (a + 1) 2]
    cases x with
    | nil =>
      have h1 := ih [] (2 * a)
      have h3 : (2 * a + 1) * 2 ^ d ≤ (2 * (a + 1)) * 2 ^ d := Nat.mul_le_mul_right _ (by omega)
      show vpA (2 * a) [] d < _
      omega
    | cons c r =>
      have h1 := ih r (2 * a + bit c)
      have h2 : bit c ≤ 1 := by unfold bit; split <;> omega
      have h3 : (2 * a + bit c + 1) * 2 ^ d ≤ (2 * (a + 1)) * 2 ^ d := Nat.mul_le_mul_right _ (by omega)
      show vpA (2 * a + bit c) r d < _
      omega

set_option maxHeartbeats 1000000 in
theorem guessS0_any (k : Int) (l : List UInt8) (p : Nat) (w : World) (hl : l.length ≤ 512) (hp : p ≤ l.length) :
    Calls Tryd.prog 25 #[.int .i64 0, .int .i64 k, .string ⟨l.toArray⟩, .int .i64 (p : Int)] w fun e w' => e = .returned (.int .i64 ((untl 48 (l.drop p) : Nat) + 1 : Int)) ∧ w = w' := by
  have HU := Lib.hid (fun W => l04Until48_any l p W (by omega) hp)
  have hz := untl_le 48 (l.drop p)
  rw [List.length_drop] at hz
  generalize untl 48 (l.drop p) = z at *
  go_enter Tryd.func25, Tryd.ntmps25
  go_wp2_with (go_at_call 40; refine (HU.out _).mono ?_; rintro e w1 ⟨rfl, rfl⟩)
  go_ret
  exact ⟨rfl, rfl⟩

set_option maxHeartbeats 1000000 in
theorem guessS1_any (k : Int) (l : List UInt8) (p : Nat) (w : World) (hl : l.length ≤ 512) (hp : p ≤ l.length) :
    Calls Tryd.prog 25 #[.int .i64 1, .int .i64 k, .string ⟨l.toArray⟩, .int .i64 (p : Int)] w fun e w' => e = .returned (.int .i64 ((vpA 0 ((l.drop p).drop (min (untl 49 (l.drop p)) 25)) (min (untl 49 (l.drop p)) 25 + 1) : Nat) : Int)) ∧ w = w' := by
  have HU := Lib.hid (fun W => l04Until49_any l p W (by omega) hp)
  have hz := untl_le 49 (l.drop p)
  rw [List.length_drop] at hz
  have HM := Lib.hid (fun W => l00Min_any (untl 49 (l.drop p)) 25 W)
  rw [List.drop_drop]
  generalize untl 49 (l.drop p) = z0 at *
  have hv := fun W => l04Value_any l (p + min z0 25) (min z0 25 + 1) W (by omega) (by omega) (by omega)
  obtain ⟨z, hzz⟩ : ∃ z, z = min z0 25 := ⟨_, rfl⟩
  rw [← hzz] at hv HM ⊢
  have hz5 : z ≤ 25 := by omega
  rw [show ((p + z : Nat) : Int) = (p : Int) + (z : Int) by omega, show ((z + 1 : Nat) : Int) = (z : Int) + 1 by omega] at hv
  have HV := Lib.hid hv
  clear hv hzz
  generalize vpA 0 (l.drop (p + z)) (z + 1) = v at *
  go_enter Tryd.func25, Tryd.ntmps25
  go_wp2_with (first
    | (go_at_call 40; refine (HU.out _).mono ?_; rintro e w1 ⟨rfl, rfl⟩)
    | (go_at_call 41; refine (HM.out _).mono ?_; rintro e w1 ⟨rfl, rfl⟩)
    | (go_at_call 42; refine (HV.out _).mono ?_; rintro e w1 ⟨rfl, rfl⟩))
  go_ret
  exact ⟨rfl, rfl⟩

set_option maxRecDepth 100000 in
set_option maxHeartbeats 2000000 in
theorem guessS2_any (k : Int) (l : List UInt8) (p : Nat) (w : World) (hl : l.length ≤ 512) (hp : p ≤ l.length) :
    Calls Tryd.prog 25 #[.int .i64 2, .int .i64 k, .string ⟨l.toArray⟩, .int .i64 (p : Int)] w fun e w' => e = .returned (.int .i64 ((gd2_s (l.drop p) : Nat) : Int)) ∧ w = w' := by
  obtain ⟨res, hres⟩ : ∃ res, res = gd2_s (l.drop p) := ⟨_, rfl⟩
  rw [← hres]
  unfold gd2_s at hres
  have HU := Lib.hid (fun W => l04Until49_any l p W (by omega) hp)
  have hz := untl_le 49 (l.drop p)
  rw [List.length_drop] at hz
  have hmm := fun W => l00Min_any (untl 49 (l.drop p)) 5 W
  rw [show ((5 : Nat) : Int) = 5 from rfl] at hmm
  have HM := Lib.hid hmm
  clear hmm
  rw [List.drop_drop, List.drop_drop] at hres
  generalize untl 49 (l.drop p) = z0 at *
  have hv := fun W => l04Value_any l (p + min z0 5) (min z0 5 + 1) W (by omega) (by omega) (by omega)
  obtain ⟨z, hzz⟩ : ∃ z, z = min z0 5 := ⟨_, rfl⟩
  rw [← hzz] at hv HM hres
  have hz5 : z ≤ 5 := by omega
  rw [show ((p + z : Nat) : Int) = (p : Int) + (z : Int) by omega, show ((z + 1 : Nat) : Int) = (z : Int) + 1 by omega] at hv
  have HV := Lib.hid hv
  clear hv hzz
  have hmm := fun W => l00Min_any (vpA 0 (l.drop (p + z)) (z + 1)) 25 W
  rw [show ((25 : Nat) : Int) = 25 from rfl] at hmm
  have HM2 := Lib.hid hmm
  clear hmm
  generalize vpA 0 (l.drop (p + z)) (z + 1) = v at *
  obtain ⟨g, hg⟩ : ∃ g, g = min v 25 := ⟨_, rfl⟩
  rw [← hg] at HM2 hres
  have hg5 : g ≤ 25 := by omega
  clear hg
  by_cases g1 : g < 1
  · rw [if_pos g1] at hres
    have HR := Lib.hid hres
    have k1 : (g : Int) < 1 := by omega
    clear hres
    go_enter Tryd.func25, Tryd.ntmps25
    go_wp2_with (first
      | (go_at_call 40; refine (HU.out _).mono ?_; rintro e w1 ⟨rfl, rfl⟩)
      | (go_at_call 41; with_reducible refine (HM.out _).mono ?_; rintro e w1 ⟨rfl, rfl⟩)
      | (go_at_call 41; with_reducible refine (HM2.out _).mono ?_; rintro e w1 ⟨rfl, rfl⟩)
      | (go_at_call 42; refine (HV.out _).mono ?_; rintro e w1 ⟨rfl, rfl⟩))
    go_ret
    exact ⟨ret_int (by rw [HR.out]; rfl), rfl⟩
  · rw [if_neg g1] at hres
    obtain ⟨q, rfl⟩ : ∃ q, g = q + 1 := ⟨g - 1, by omega⟩
    rw [show q + 1 - 1 = q from rfl] at hres
    have hv2 := fun W => l04Value_any l (p + (2 * z + 1)) q W (by omega) (by omega) (by omega)
    rw [show ((p + (2 * z + 1) : Nat) : Int) = (p : Int) + 2 * (z : Int) + 1 by omega] at hv2
    have HV2 := Lib.hid hv2
    have hvl : vpA 0 (l.drop (p + (2 * z + 1))) q < 2 ^ 30 := by
      have h1 := vpA_lt q (l.drop (p + (2 * z + 1))) 0
      have h2 : 2 ^ q ≤ 2 ^ 30 := Nat.pow_le_pow_right (by omega) (by omega)
      omega
    clear hv2
    generalize vpA 0 (l.drop (p + (2 * z + 1))) q = y at *
    have k1 : ¬ ((q + 1 : Nat) : Int) < 1 := by omega
    have k2 : ¬ (q : Int) + 1 < 1 := by omega
    have k3 : ((q + 1 : Nat) : Int) - 1 = (q : Int) := by omega
    have k4 : (q : Int) + 1 - 1 = (q : Int) := by omega
    have hp2 : 2 ^ q ≤ 2 ^ 30 := Nat.pow_le_pow_right (by omega) (by omega)
    have e1 : (2 : Int) ^ q = ((2 ^ q : Nat) : Int) := by simp
    have e1' : (1 : Int) * 2 ^ q = ((2 ^ q : Nat) : Int) := by simp
    obtain ⟨s, hs⟩ : ∃ s, s = 2 ^ q := ⟨_, rfl⟩
    rw [← hs] at e1 e1' hp2 hres
    have HR := Lib.hid hres
    clear hs hres
    go_enter Tryd.func25, Tryd.ntmps25
    go_wp2_with (first
      | (go_at_call 40; refine (HU.out _).mono ?_; rintro e w1 ⟨rfl, rfl⟩)
      | (go_at_call 41; with_reducible refine (HM.out _).mono ?_; rintro e w1 ⟨rfl, rfl⟩)
      | (go_at_call 41; with_reducible refine (HM2.out _).mono ?_; rintro e w1 ⟨rfl, rfl⟩)
      | (go_at_call 42; with_reducible refine (HV.out _).mono ?_; rintro e w1 ⟨rfl, rfl⟩)
      | (go_at_call 42; with_reducible refine (HV2.out _).mono ?_; rintro e w1 ⟨rfl, rfl⟩))
    go_ret
    exact ⟨ret_int (by rw [HR.out]; omega), rfl⟩

set_option maxRecDepth 100000 in
set_option maxHeartbeats 2000000 in
theorem guessS4_any (k : Nat) (hk : k ≤ 20) (l : List UInt8) (p : Nat) (w : World) (hl : l.length ≤ 512) (hp : p ≤ l.length) :
    Calls Tryd.prog 25 #[.int .i64 4, .int .i64 (k : Int), .string ⟨l.toArray⟩, .int .i64 (p : Int)] w fun e w' => e = .returned (.int .i64 ((untl 48 (l.drop p) * 2 ^ k + vpA 0 ((l.drop p).drop (untl 48 (l.drop p) + 1)) k + 1 : Nat) : Int)) ∧ w = w' := by
  have HU := Lib.hid (fun W => l04Until48_any l p W (by omega) hp)
  have hz := untl_le 48 (l.drop p)
  rw [List.length_drop] at hz
  rw [List.drop_drop]
  generalize untl 48 (l.drop p) = o at *
  have hv := fun W => l04Value_any l (p + (o + 1)) k W (by omega) (by omega) (by omega)
  rw [show ((p + (o + 1) : Nat) : Int) = (p : Int) + (o : Int) + 1 by omega] at hv
  have HV := Lib.hid hv
  have hvl := vpA_lt k (l.drop (p + (o + 1))) 0
  clear hv
  generalize vpA 0 (l.drop (p + (o + 1))) k = g at *
  have hp1 : 2 ^ k ≤ 2 ^ 20 := Nat.pow_le_pow_right (by omega) hk
  have hp2 : o * 2 ^ k ≤ 512 * 2 ^ 20 := Nat.mul_le_mul (by omega) hp1
  have e1 : (o : Int) * 2 ^ k = ((o * 2 ^ k : Nat) : Int) := by simp
  have hgl : g < 1048576 := by omega
  obtain ⟨s, hs⟩ : ∃ s, s = o * 2 ^ k := ⟨_, rfl⟩
  rw [← hs] at e1 hp2 ⊢
  clear hs hp1 hvl
  go_enter Tryd.func25, Tryd.ntmps25
  go_wp2_with (first
    | (go_at_call 40; refine (HU.out _).mono ?_; rintro e w1 ⟨rfl, rfl⟩)
    | (go_at_call 42; refine (HV.out _).mono ?_; rintro e w1 ⟨rfl, rfl⟩))
  go_ret
  exact ⟨ret_int (by omega), rfl⟩

end Go.Proofs.YtcgenmkgdhaejaaDoor
