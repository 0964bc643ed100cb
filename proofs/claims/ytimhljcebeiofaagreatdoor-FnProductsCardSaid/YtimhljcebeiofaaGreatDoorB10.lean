/- What the laws choose from bytes (b10At), and absolute differences (b10Gap). -/
import Derived.Test.YtimhljcebeiofaaGreatDoorSrc
import Derived.Test.YtimhljcebeiofaaGreatDoorGpP
import Derived.Test.YtimhljcebeiofaaGreatDoorHar
namespace Go.Proofs.YtimhljcebeiofaaGreatDoor
set_option linter.unusedSimpArgs false
set_option linter.unusedVariables false
open Go.RowKit
open Ieee

theorem b10Long_any (v u : Value) (l m : List UInt8) (w : World) (hv : SlR w v (byv l)) (hu : SlR w u (byv m)) :
    Calls Tryz.prog 4 #[v, u] w fun e w' => e = .returned (.bool (decide (1048576 < l.length) || decide (1048576 < m.length))) ∧ w = w' := by
  obtain ⟨a, n, c, rfl, hnl, -, -, -⟩ := SlR.opened (0 : UInt8) hv
  obtain ⟨a', n', c', rfl, hnl', -, -, -⟩ := SlR.opened (0 : UInt8) hu
  rw [hnl, hnl']
  clear hv hu hnl hnl'
  by_cases h : 1048576 < n
  · go_enter Tryz.func4, Tryz.ntmps4
    go_wp2
    go_ret
    exact ⟨ret_bool (by simp [h]), rfl⟩
  · by_cases h' : 1048576 < n'
    · go_enter Tryz.func4, Tryz.ntmps4
      go_wp2
      go_ret
      exact ⟨ret_bool (by simp [h, h']; omega), rfl⟩
    · go_enter Tryz.func4, Tryz.ntmps4
      go_wp2
      go_ret
      exact ⟨ret_bool (by simp [h, h']; omega), rfl⟩

/-- What b10At says. -/
def atB (l : List UInt8) (k n : Nat) : Nat := if n ≤ 1 then 0 else if l.length ≤ k then (k * 37 + 11) % n else (l.getD k 0).toNat % n
theorem atB_lt (l : List UInt8) (k n : Nat) (h : 1 ≤ n) : atB l k n < n := by
  unfold atB
  split
  · omega
  · split
    · exact Nat.mod_lt _ (by omega)
    · exact Nat.mod_lt _ (by omega)

set_option maxHeartbeats 1000000 in
theorem b10At_any (v : Value) (l : List UInt8) (k n : Nat) (w : World) (hl : l.length ≤ 1048576) (hk : k ≤ 1048576) (hn : n ≤ 1000) (hv : SlR w v (byv l)) :
    Calls Tryz.prog 15 #[v, .int .i64 (k : Int), .int .i64 (n : Int)] w fun e w' => e = .returned (.int .i64 ((atB l k n : Nat) : Int)) ∧ w = w' := by
  obtain ⟨a, m, c, rfl, hnl, hmc, hcm, hcell⟩ := SlR.opened (0 : UInt8) hv
  have hm : m ≤ 1048576 := by omega
  by_cases h1 : n ≤ 1
  · have HR : Hid (atB l k n = 0) := Lib.hid (if_pos h1)
    clear hcell hv hnl
    go_enter Tryz.func15, Tryz.ntmps15
    go_wp2
    go_ret
    exact ⟨by rw [HR.out]; rfl, rfl⟩
  · by_cases h2 : m ≤ k
    · have HR : Hid (atB l k n = (k * 37 + 11) % n) := Lib.hid (by unfold atB; rw [if_neg h1, if_pos (by omega)])
      have hn0 : ¬ n = 0 := by omega
      have hw : IntKind.i64.wrap ((k : Int) * 37 + 11) = ((k * 37 + 11 : Nat) : Int) := by rw [IntWalk.i64_in _ (by omega)]; push_cast; rfl
      clear hcell hv hnl
      go_enter Tryz.func15, Tryz.ntmps15
      go_wp2
      go_ret
      exact ⟨by rw [HR.out, Int.natCast_emod]; push_cast; rfl, rfl⟩
    · obtain ⟨g, off, rfl, hc, hgl⟩ := hcell k (by omega)
      have HR : Hid (atB l k n = (l.getD k 0).toNat % n) := Lib.hid (by unfold atB; rw [if_neg h1, if_neg (by omega)])
      have hch : (l.getD k 0).toNat ≤ 255 := by have := (l.getD k 0).toNat_lt; omega
      generalize (l.getD k 0).toNat = ch at *
      have hn0 : ¬ n = 0 := by omega
      clear hcell hv hnl
      go_enter Tryz.func15, Tryz.ntmps15
      go_wp2
      go_ret
      exact ⟨by rw [HR.out, Int.natCast_emod]; rfl, rfl⟩

end Go.Proofs.YtimhljcebeiofaaGreatDoor
