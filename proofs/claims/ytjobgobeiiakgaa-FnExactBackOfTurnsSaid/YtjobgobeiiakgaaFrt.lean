/- Fronts: lists of counting numbers, a number moved to the front. -/
import Derived.Test.YtjobgobeiiakgaaCtr2
import Derived.IntWalk
import Derived.Laws.CopyOwn
import Derived.Deep.RegionHeld3
namespace Go.Proofs.Ytjobgobeiiakgaa
set_option linter.unusedSimpArgs false
set_option linter.unusedVariables false
open Go.RowKit

/-- The numbers 0, 1, .. -/
def cnt (n : Nat) : List Int := (List.range n).map (fun i : Nat => (i : Int))
theorem cnt_succ (n : Nat) : cnt (n + 1) = cnt n ++ [(n : Int)] := by simp [cnt, List.range_succ]
theorem cnt_length (n : Nat) : (cnt n).length = n := by simp [cnt]

set_option maxHeartbeats 1000000 in
theorem counting_any (n : Nat) (w : World) (hn : n ≤ 1024) :
    Calls Try.prog 37 #[.int .i64 n] w (RetSl w 2 n ((cnt n).map (Value.int .i64)) id) := by
  obtain ⟨i0, hi0, hz00, hz01, hz02⟩ := info_parts info_Int64S
  go_enter Try.func37, Try.ntmps37
  go_wp2
  have hown0 : (w.alloc (.cells #[] 2)).ownsRow w.heap.size 2 1 (.slice (some ⟨w.heap.size, 0, none⟩) 0 0) 0 [] := World.ownsRow_made w #[] 0 (Nat.le_refl _) (Nat.zero_le _) rfl
  have hb0 : Below w.heap.size w (w.alloc (.cells #[] 2)) := by go_grown
  go_loopw [3, 7] (fun v i wr => ∃ k : Nat, k ≤ n ∧ i = .int .i64 k ∧ wr.ownsRow w.heap.size 2 1 v k ((cnt k).map (Value.int .i64)) ∧ Below w.heap.size w wr) (fun _ i _ => n - (intOf i).toNat)
  case atStart => exact ⟨0, Nat.zero_le _, rfl, hown0, hb0⟩
  case round =>
    clear hown0 hb0
    obtain ⟨k, hk, rfl, hown, hb⟩ := hrel
    have hbs := hb.size
    by_cases hlt : k < n
    · go_wp2_with (at_builtin; refine wpList_append_own _ rfl _ _ 53 rfl w.heap.size 2 i0 (.int .i64 0) 1 8 Try.underlying53 hi0 hz00 hz01 hz02 rfl (by decide) u3 _ _ rfl (hown.alloc _) ⟨(World.heap wr).size, 0, none⟩ 1 1 [.int .i64 k] rfl rfl (cell_one_new _ _ _) (one_oneCell rfl) (by unfold maxLen; omega) (by omega) (by simp only [World.size_alloc]; have := hb.size; omega) ?_; intro v1 w1 hown1 hgx _; have hb1 := app_below hb (by have := hb.size; omega) _ hgx hown (by omega))
      rw [show (cnt k).map (Value.int .i64) ++ [.int .i64 k] = (cnt (k + 1)).map (Value.int .i64) by simp [cnt_succ]] at hown1
      go_roundw
      case rel => exact ⟨k + 1, by omega, by go_num, hown1, hb1⟩
      case measure => simp [intOf]; omega
    · obtain rfl : n = k := by omega
      go_wp2
      go_ret
      exact RetSl.of (f := id) hown hb

end Go.Proofs.Ytjobgobeiiakgaa
