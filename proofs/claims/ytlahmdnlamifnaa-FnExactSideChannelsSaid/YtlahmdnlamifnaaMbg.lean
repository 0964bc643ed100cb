/- Marks that begin further up. -/
import Derived.Test.YtlahmdnlamifnaaHar
namespace Go.Proofs.Ytlahmdnlamifnaa
set_option linter.unusedSimpArgs false
set_option linter.unusedVariables false
open Go.RowKit

set_option maxHeartbeats 400000 in
theorem markFloat32S_big (a : Option Addr) (n c : Nat) (xs : List Value) (k : Int) (B : Nat) (w : World) (h0 : 0 ≤ k) (h1 : k ≤ 4194304) (hn : n ≤ 1048576) (hown : w.ownsRow B 22 1 (.slice a n c) n xs) :
    Calls Try.prog 29 #[.slice a n c, .int .i64 k] w fun e w' => e = .returned (.int .i64 (k + n)) ∧ w'.ownsRow B 22 1 (.slice a n c) n ((marks k n).map (fun q => Value.float .f32 (floatOfInt .f32 q))) ∧ w.grownBy w' (Value.slice a n c).ownBlock := by
  have hx : xs.length = n := by simpa using hown.1
  have HX := Lib.hid hx
  clear hx
  go_enter Try.func29, Try.ntmps29
  go_wp2
  go_loopw [1, 5] (fun kk i wr => ∃ j : Nat, j ≤ n ∧ i = .int .i64 j ∧ kk = .int .i64 (k + j) ∧ wr.ownsRow B 22 1 (.slice a n c) n ((marks k j).map (fun q => Value.float .f32 (floatOfInt .f32 q)) ++ xs.drop j) ∧ w.grownBy wr (Value.slice a n c).ownBlock) (fun _ i _ => n - (intOf i).toNat)
  case atStart => exact ⟨0, Nat.zero_le _, rfl, by simp, by simpa [marks] using hown, World.grownBy.refl _ _⟩
  case round =>
    clear hown
    obtain ⟨j, hj, rfl, rfl, hown, hg⟩ := hrel
    by_cases hlt : j < n
    · obtain ⟨g, rfl⟩ : ∃ g, a = some ⟨g, 0, none⟩ := by
        rcases hown.2 with ⟨h, h'⟩ | ⟨g, cap, cur, h, _⟩
        · simp only [Value.slice.injEq] at h; omega
        · simp only [Value.slice.injEq] at h; exact ⟨g, h.1⟩
      have hd := (hown.cellAt j (by omega))
      obtain ⟨u, hu⟩ : ∃ u, ((marks k j).map (fun q => Value.float .f32 (floatOfInt .f32 q)) ++ xs.drop j)[j]? = some u := ⟨_, List.getElem?_eq_getElem (by simp [marks_length]; have := HX.out; omega)⟩
      rw [hu] at hd
      have hf := hown.frozenAt j
      have hst := hown.stored j ((fun q => Value.float .f32 (floatOfInt .f32 q)) (k + j))
      have HST := Lib.hid hst
      clear hst hu
      go_wp2
      go_roundw
      case rel =>
        refine ⟨j + 1, by omega, by go_num, by go_num, ?_, ?_⟩
        · have h2 := HST.out.1
          rw [set_mark k j xs (fun q => Value.float .f32 (floatOfInt .f32 q)) (by rw [HX.out]; exact hlt)] at h2
          exact h2
        · exact grownBy_trans hg HST.out.2
      case measure => simp [intOf]; omega
    · obtain rfl : n = j := by omega
      go_wp2
      go_ret
      refine ⟨rfl, ?_, hg⟩
      rw [List.drop_of_length_le (by rw [HX.out]; exact Nat.le_refl _), List.append_nil] at hown
      exact hown

end Go.Proofs.Ytlahmdnlamifnaa
