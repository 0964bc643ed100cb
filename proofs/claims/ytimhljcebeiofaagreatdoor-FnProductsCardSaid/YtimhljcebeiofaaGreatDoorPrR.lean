/- The law FnProducts' own function: b10Same. -/
import Derived.Test.YtimhljcebeiofaaGreatDoorPrO
import Derived.Test.YtimhljcebeiofaaGreatDoorPrP
import Derived.Test.YtimhljcebeiofaaGreatDoorPrQ
import Derived.Test.YtimhljcebeiofaaGreatDoorB10
namespace Go.Proofs.YtimhljcebeiofaaGreatDoor
set_option linter.unusedSimpArgs false
set_option linter.unusedVariables false
open Go.RowKit

set_option maxHeartbeats 2000000 in
theorem b10Same_any (v u : Value) (xs ys : List (Nat × Nat)) (w : World) (hx : Wd xs) (hy : Wd ys) (hl : xs.length = ys.length) (he : ∀ i, i < xs.length → cn (xs[i]?.getD (0, 0)).1 = cn (ys[i]?.getD (0, 0)).1 ∧ cn (xs[i]?.getD (0, 0)).2 = cn (ys[i]?.getD (0, 0)).2)
    (hv : SlR w v (xs.map cV)) (hu : SlR w u (ys.map cV)) :
    Calls Tryz.prog 22 #[v, u] w fun e w' => e = .returned (.bool true) ∧ Qu w w' := by
  obtain ⟨a, n, c, rfl, hnl, hnc, hcm, hcell⟩ := SlR.opened ((0, 0) : Nat × Nat) hv
  obtain ⟨a', n', c', rfl, hnl', hnc', hcm', hcell'⟩ := SlR.opened ((0, 0) : Nat × Nat) hu
  unfold maxLen at hcm hcm'
  have hn9 : n ≤ 9223372036854775807 := by omega
  obtain rfl : n = n' := by omega
  have HC := Lib.hid hcell
  have HC' := Lib.hid hcell'
  have HS : Hid (∀ i, i < n → ∀ W, Calls Tryz.prog 48 #[.complex .f32 (xs[i]?.getD (0, 0)).1 (xs[i]?.getD (0, 0)).2, .complex .f32 (ys[i]?.getD (0, 0)).1 (ys[i]?.getD (0, 0)).2] W fun e w' => e = .returned (.bool true) ∧ Qu W w') := Lib.hid fun i hi W => by
    have a1 : (xs[i]?.getD (0, 0)) ∈ xs := by rw [List.getElem?_eq_getElem (by omega)]; exact List.getElem_mem _
    have a2 : (ys[i]?.getD (0, 0)) ∈ ys := by rw [List.getElem?_eq_getElem (by omega)]; exact List.getElem_mem _
    have h := sameCS_any (xs[i]?.getD (0, 0)).1 (xs[i]?.getD (0, 0)).2 (ys[i]?.getD (0, 0)).1 (ys[i]?.getD (0, 0)).2 W (hx _ a1).1 (hx _ a1).2 (hy _ a2).1 (hy _ a2).2
    obtain ⟨e1, e2⟩ := he i (by omega)
    rw [e1, e2] at h
    refine h.mono ?_
    rintro e w' ⟨rfl, rfl⟩
    exact ⟨by simp, Qu.refl _⟩
  have htest : ((n : Int) != (n : Int)) = false := by simp
  clear hnl hcell hcm hnc hv hnl' hcell' hcm' hnc' hu hx hy hl he
  go_enter Tryz.func22, Tryz.ntmps22
  go_wp2
  go_loopw [5, 13] (fun _ i wr => ∃ k : Nat, k ≤ n ∧ i = .int .i64 k ∧ Qu w wr) (fun _ i _ => n - intOf i)
  case atStart => exact ⟨0, Nat.zero_le _, rfl, Qu.refl _⟩
  case round =>
    obtain ⟨k, hk, rfl, hqu⟩ := hrel
    by_cases hlt : k < n
    · obtain ⟨b, off, rfl, hc0, hbl⟩ := HC.out k hlt
      obtain ⟨b', off', rfl, hc0', hbl'⟩ := HC'.out k hlt
      rw [List.getD_eq_getElem?_getD] at hc0 hc0'
      have hc := cell_step hc0 (hqu.below _)
      have hc' := cell_step hc0' (hqu.below _)
      have HSK := Lib.hid (HS.out k hlt)
      clear hc0 hc0' HS
      generalize xs[k]?.getD (0, 0) = z at *
      generalize ys[k]?.getD (0, 0) = z' at *
      obtain ⟨x, y⟩ := z
      obtain ⟨x', y'⟩ := z'
      replace hc : wr.cell? ⟨b, off + k, none⟩ = some (.complex .f32 x y) := hc
      replace hc' : wr.cell? ⟨b', off' + k, none⟩ = some (.complex .f32 x' y') := hc'
      replace HSK : Hid (∀ W, Calls Tryz.prog 48 #[.complex .f32 x y, .complex .f32 x' y'] W fun e w' => e = .returned (.bool true) ∧ Qu W w') := HSK
      go_wp2
      go_quiet ((go_at_call 48; exact Calls.quiet_of (HSK.out _)))
      go_wp2
      go_roundw
      case rel => exact ⟨k + 1, by omega, by go_num, hqu.drewN _⟩
      case measure => simp [intOf]; omega
    · obtain rfl : n = k := by omega
      go_wp2
      go_ret
      exact ⟨rfl, hqu⟩

end Go.Proofs.YtimhljcebeiofaaGreatDoor
