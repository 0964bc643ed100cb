/- What the laws choose from bytes (b10At), and absolute differences (b10Gap). -/
import Derived.Test.YtmocfnpbofeiiaaMSrc
import Derived.Test.YtmocfnpbofeiiaaMTtP
import Derived.Test.YtmocfnpbofeiiaaMHar
namespace Go.Proofs.Ytmocfnpbofeiiaa
set_option linter.unusedSimpArgs false
set_option linter.unusedVariables false
open Go.RowKit
open Ieee

theorem b10Long_any (v u : Value) (l m : List UInt8) (w : World) (hv : SlR w v (byv l)) (hu : SlR w u (byv m)) :
    Calls Try.prog 19 #[v, u] w fun e w' => e = .returned (.bool (decide (1048576 < l.length) || decide (1048576 < m.length))) ∧ w = w' := by
  obtain ⟨a, n, c, rfl, hnl, -, -, -⟩ := SlR.opened (0 : UInt8) hv
  obtain ⟨a', n', c', rfl, hnl', -, -, -⟩ := SlR.opened (0 : UInt8) hu
  rw [hnl, hnl']
  clear hv hu hnl hnl'
  by_cases h : 1048576 < n
  · go_enter Try.func19, Try.ntmps19
    go_wp2
    go_ret
    exact ⟨ret_bool (by simp [h]), rfl⟩
  · by_cases h' : 1048576 < n'
    · go_enter Try.func19, Try.ntmps19
      go_wp2
      go_ret
      exact ⟨ret_bool (by simp [h, h']; omega), rfl⟩
    · go_enter Try.func19, Try.ntmps19
      go_wp2
      go_ret
      exact ⟨ret_bool (by simp [h, h']; omega), rfl⟩

/-- What b10At says. -/
def atB (l : List UInt8) (k n : Nat) : Nat := if n ≤ 1 then 0 else if l.length ≤ k then (k * 37 + 11) % n else (l.getD k 0).toNat % n
theorem atB_lt (l : List UInt8) (k n : Nat) (h : 1 ≤ n) : atB l k n < n := by
  unfold atB
  split
  · omega
  · split
    · exact Nat.mod_lt _ (by omega)
    · exact Nat.mod_lt _ (by omega)

set_option maxHeartbeats 1000000 in
theorem b10At_any (v : Value) (l : List UInt8) (k n : Nat) (w : World) (hl : l.length ≤ 1048576) (hk : k ≤ 1048576) (hn : n ≤ 1000) (hv : SlR w v (byv l)) :
    Calls Try.prog 20 #[v, .int .i64 (k : Int), .int .i64 (n : Int)] w fun e w' => e = .returned (.int .i64 ((atB l k n : Nat) : Int)) ∧ w = w' := by
  obtain ⟨a, m, c, rfl, hnl, hmc, hcm, hcell⟩ := SlR.opened (0 : UInt8) hv
  have hm : m ≤ 1048576 := by omega
  by_cases h1 : n ≤ 1
  · have HR : Hid (atB l k n = 0) := Lib.hid (if_pos h1)
    clear hcell hv hnl
    go_enter Try.func20, Try.ntmps20
    go_wp2
    go_ret
    exact ⟨by rw [HR.out]; rfl, rfl⟩
  · by_cases h2 : m ≤ k
    · have HR : Hid (atB l k n = (k * 37 + 11) % n) := Lib.hid (by unfold atB; rw [if_neg h1, if_pos (by omega)])
      have hn0 : ¬ n = 0 := by omega
      have hw : IntKind.i64.wrap ((k : Int) * 37 + 11) = ((k * 37 + 11 : Nat) : Int) := by rw [IntWalk.i64_in _ (by omega)]; push_cast; rfl
      clear hcell hv hnl
      go_enter Try.func20, Try.ntmps20
      go_wp2
      go_ret
      exact ⟨by rw [HR.out, Int.natCast_emod]; push_cast; rfl, rfl⟩
    · obtain ⟨g, off, rfl, hc, hgl⟩ := hcell k (by omega)
      have HR : Hid (atB l k n = (l.getD k 0).toNat % n) := Lib.hid (by unfold atB; rw [if_neg h1, if_neg (by omega)])
      have hch : (l.getD k 0).toNat ≤ 255 := by have := (l.getD k 0).toNat_lt; omega
      generalize (l.getD k 0).toNat = ch at *
      have hn0 : ¬ n = 0 := by omega
      clear hcell hv hnl
      go_enter Try.func20, Try.ntmps20
      go_wp2
      go_ret
      exact ⟨by rw [HR.out, Int.natCast_emod]; rfl, rfl⟩

set_option maxHeartbeats 1000000 in
theorem b10Gap_any (x y : Nat) (w : World) (h : gpOk x y = true) : Calls Try.prog 23 #[.float .f64 x, .float .f64 y] w fun e w' => e = .returned (.float .f64 (gpW x y)) ∧ w = w' := by
  unfold gpOk at h
  simp only [Bool.and_eq_true] at h
  obtain ⟨⟨h1, h2⟩, h3⟩ := h
  obtain ⟨o, ho⟩ := Option.isSome_iff_exists.1 h1
  have HR : Hid (gpW x y = if some o = some .lt then fA .sub .f64 y x else fA .sub .f64 x y) := Lib.hid (by unfold gpW; rw [ho])
  obtain ⟨r, hr⟩ : ∃ r, r = gpW x y := ⟨_, rfl⟩
  rw [← hr] at HR ⊢
  clear hr h1
  cases o
  · have HR := Lib.hid (HR.out.trans (if_pos rfl))
    go_enter Try.func23, Try.ntmps23
    go_wp2
    go_ret
    exact ⟨by rw [HR.out]; rfl, rfl⟩
  all_goals
    have HR := Lib.hid (HR.out.trans (if_neg (by simp)))
    go_enter Try.func23, Try.ntmps23
    go_wp2
    go_ret
    exact ⟨by rw [HR.out]; rfl, rfl⟩

end Go.Proofs.Ytmocfnpbofeiiaa
