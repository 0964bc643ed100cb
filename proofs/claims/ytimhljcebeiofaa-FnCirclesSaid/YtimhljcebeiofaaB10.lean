/- What the laws choose from bytes (b10At), and absolute differences (b10Gap). -/
import Derived.Test.YtimhljcebeiofaaSrc
import Derived.Test.YtimhljcebeiofaaCirC
namespace Go.Proofs.Ytimhljcebeiofaa
set_option linter.unusedSimpArgs false
set_option linter.unusedVariables false
open Go.RowKit
open Ieee

theorem b10Long_any (v u : Value) (l m : List UInt8) (w : World) (hv : SlR w v (byv l)) (hu : SlR w u (byv m)) :
    Calls Try.prog 4 #[v, u] w fun e w' => e = .returned (.bool (decide (1048576 < l.length) || decide (1048576 < m.length))) ∧ w = w' := by
  obtain ⟨a, n, c, rfl, hnl, -, -, -⟩ := SlR.opened (0 : UInt8) hv
  obtain ⟨a', n', c', rfl, hnl', -, -, -⟩ := SlR.opened (0 : UInt8) hu
  rw [hnl, hnl']
  clear hv hu hnl hnl'
  by_cases h : 1048576 < n
  · go_enter Try.func4, Try.ntmps4
    go_wp2
    go_ret
    exact ⟨ret_bool (by simp [h]), rfl⟩
  · by_cases h' : 1048576 < n'
    · go_enter Try.func4, Try.ntmps4
      go_wp2
      go_ret
      exact ⟨ret_bool (by simp [h, h']; omega), rfl⟩
    · go_enter Try.func4, Try.ntmps4
      go_wp2
      go_ret
      exact ⟨ret_bool (by simp [h, h']; omega), rfl⟩

/-- What b10At says. -/
def atB (l : List UInt8) (k n : Nat) : Nat := if n ≤ 1 then 0 else if l.length ≤ k then (k * 37 + 11) % n else (l.getD k 0).toNat % n
theorem atB_lt (l : List UInt8) (k n : Nat) (h : 1 ≤ n) : atB l k n < n := by
  unfold atB
  split
  · omega
  · split
    · exact Nat.mod_lt _ (by omega)
    · exact Nat.mod_lt _ (by omega)

set_option maxHeartbeats 1000000 in
theorem b10At_any (v : Value) (l : List UInt8) (k n : Nat) (w : World) (hl : l.length ≤ 1048576) (hk : k ≤ 1048576) (hn : n ≤ 1000) (hv : SlR w v (byv l)) :
    Calls Try.prog 5 #[v, .int .i64 (k : Int), .int .i64 (n : Int)] w fun e w' => e = .returned (.int .i64 ((atB l k n : Nat) : Int)) ∧ w = w' := by
  obtain ⟨a, m, c, rfl, hnl, hmc, hcm, hcell⟩ := SlR.opened (0 : UInt8) hv
  have hm : m ≤ 1048576 := by omega
  by_cases h1 : n ≤ 1
  · have HR : Hid (atB l k n = 0) := Lib.hid (if_pos h1)
    clear hcell hv hnl
    go_enter Try.func5, Try.ntmps5
    go_wp2
    go_ret
    exact ⟨by rw [HR.out]; rfl, rfl⟩
  · by_cases h2 : m ≤ k
    · have HR : Hid (atB l k n = (k * 37 + 11) % n) := Lib.hid (by unfold atB; rw [if_neg h1, if_pos (by omega)])
      have hn0 : ¬ n = 0 := by omega
      have hw : IntKind.i64.wrap ((k : Int) * 37 + 11) = ((k * 37 + 11 : Nat) : Int) := by rw [IntWalk.i64_in _ (by omega)]; push_cast; rfl
      clear hcell hv hnl
      go_enter Try.func5, Try.ntmps5
      go_wp2
      go_ret
      exact ⟨by rw [HR.out, Int.natCast_emod]; push_cast; rfl, rfl⟩
    · obtain ⟨g, off, rfl, hc, hgl⟩ := hcell k (by omega)
      have HR : Hid (atB l k n = (l.getD k 0).toNat % n) := Lib.hid (by unfold atB; rw [if_neg h1, if_neg (by omega)])
      have hch : (l.getD k 0).toNat ≤ 255 := by have := (l.getD k 0).toNat_lt; omega
      generalize (l.getD k 0).toNat = ch at *
      have hn0 : ¬ n = 0 := by omega
      clear hcell hv hnl
      go_enter Try.func5, Try.ntmps5
      go_wp2
      go_ret
      exact ⟨by rw [HR.out, Int.natCast_emod]; rfl, rfl⟩

set_option maxHeartbeats 1000000 in
theorem b10Gap_any (x y : Nat) (w : World) (h : gpOk x y = true) : Calls Try.prog 8 #[.float .f64 x, .float .f64 y] w fun e w' => e = .returned (.float .f64 (gpW x y)) ∧ w = w' := by
  unfold gpOk at h
  simp only [Bool.and_eq_true] at h
  obtain ⟨⟨h1, h2⟩, h3⟩ := h
  obtain ⟨o, ho⟩ := Option.isSome_iff_exists.1 h1
  have HR : Hid (gpW x y = if some o = some .lt then fA .sub .f64 y x else fA .sub .f64 x y) := Lib.hid (by unfold gpW; rw [ho])
  obtain ⟨r, hr⟩ : ∃ r, r = gpW x y := ⟨_, rfl⟩
  rw [← hr] at HR ⊢
  clear hr h1
  cases o
  · have HR := Lib.hid (HR.out.trans (if_pos rfl))
    go_enter Try.func8, Try.ntmps8
    go_wp2
    go_ret
    exact ⟨by rw [HR.out]; rfl, rfl⟩
  all_goals
    have HR := Lib.hid (HR.out.trans (if_neg (by simp)))
    go_enter Try.func8, Try.ntmps8
    go_wp2
    go_ret
    exact ⟨by rw [HR.out]; rfl, rfl⟩
theorem leOk_some {x y : Nat} (h : leOk x y = true) : FloatKind.f64.format.order x y = some .lt ∨ FloatKind.f64.format.order x y = some .eq := by
  unfold leOk at h
  simpa [Bool.or_eq_true, beq_iff_eq] using h

set_option maxHeartbeats 4000000 in
theorem b10Near_any (a b c d most : Nat) (w : World) (h : nrOk a b c d most = true) : Calls Try.prog 10 #[.complex .f32 a b, .complex .f32 c d, .float .f64 most] w fun e w' => e = .returned (.bool true) ∧ w = w' := by
  unfold nrOk at h
  simp only [Bool.and_eq_true] at h
  obtain ⟨⟨⟨⟨⟨⟨⟨h1, h2⟩, h3⟩, h4⟩, h5⟩, h6⟩, h7⟩, h8⟩ := h
  have cv : ∀ x : Nat, cvOk x = true → ∀ W : World, (convert 28 27 (.float .f32 x)).run Try.prog W = .ok (.float .f64 (up64 x)) W := fun x hx W => run_convert_float_float (P := Try.prog) W 28 27 .f32 .f64 _ _ (by rw [Try.underlying28]; rfl) Try.underlying27 (up_run _ hx)
  have e1 := cv _ h1
  have e2 := cv _ h2
  have e3 := cv _ h3
  have e4 := cv _ h4
  have HG : Hid (∀ x y : Nat, gpOk x y = true → ∀ w : World, Calls Try.prog 8 #[.float .f64 x, .float .f64 y] w fun e w' => e = .returned (.float .f64 (gpW x y)) ∧ w = w') := fun x y h w => b10Gap_any x y w h
  have o1 := leOk_some h7
  have o2 := leOk_some h8
  clear cv h1 h2 h3 h4 h7 h8
  generalize up64 = up at *
  generalize gpW = gp at *
  generalize gpOk = go at *
  rcases o1 with o1 | o1
  all_goals
    rcases o2 with o2 | o2
    all_goals
      go_enter Try.func10, Try.ntmps10
      go_wp2_with (go_at_call 8; refine (HG.out _ _ (by assumption) _).mono ?_; rintro e w' ⟨rfl, rfl⟩)
      go_ret
      exact ⟨rfl, rfl⟩

end Go.Proofs.Ytimhljcebeiofaa
