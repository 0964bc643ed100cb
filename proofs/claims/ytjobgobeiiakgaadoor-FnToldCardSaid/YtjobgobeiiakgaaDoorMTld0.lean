/- The law FnTold: what it calls of its own: lists of choices, lists compared. -/
import Derived.Test.YtjobgobeiiakgaaDoorMSrc
import Derived.Test.YtjobgobeiiakgaaDoorMHar
import Derived.BigQuiet
namespace Go.Proofs.YtjobgobeiiakgaaDoor
set_option linter.unusedSimpArgs false
set_option linter.unusedVariables false
open Go.RowKit
theorem cell_gbT {W W' : World} {a : Addr} {x : Value} {r : Option Nat} (h : W.cell? a = some x) (hg : W.grownBy W' r) (hne : r ≠ some a.block) : W'.cell? a = some x :=
  World.grownBy.cell hg h (fun e => hne e.symm)
theorem frozen_gbT {W W' : World} {a : Addr} {x : Bool} {r : Option Nat} (h : W.frozen? a = x) (hl : a.block < W.heap.size) (hg : W.grownBy W' r) (hne : r ≠ some a.block) : W'.frozen? a = x := by
  rw [← h]
  unfold World.frozen?
  rw [hg.block a.block hl (fun e => hne e.symm)]
theorem Src.kept {w0 W W' : World} {b m : Nat} {sv : Value} {r : Option Nat} (h : Src w0 b sv m W) (hg : W.grownBy W' r) (hne : r ≠ some b) (hr : ∀ k, r = some k → w0.heap.size ≤ k) : Src w0 b sv m W' := by
  obtain ⟨h1, h2, h3, k, s, h4, h5, h6, h7, h8, h9⟩ := h
  exact ⟨h1, by have := hg.size; omega, Below.grown h3 hg h3.size hr, k, s, h4, cell_gbT h5 hg hne, cell_gbT h6 hg hne, cell_gbT h7 hg hne, frozen_gbT h8 h2 hg hne, frozen_gbT h9 h2 hg hne⟩
/-- A list of numbers with a place, opened. -/
theorem sl_ints {w : World} {v : Value} {xs : List Int} {n : Nat} (hv : SlR w v (xs.map (Value.int .i64))) (hn : xs.length = n) (h1 : 1 ≤ n) : ∃ b off c, v = .slice (some ⟨b, off, none⟩) n c ∧ n ≤ c ∧ c ≤ maxLen ∧ ∀ W, Below w.heap.size w W → ∀ k, k < n → W.cell? ⟨b, off + k, none⟩ = some (.int .i64 (xs[k]?.getD 0)) := by
  obtain ⟨a, c, rfl, hnc, hcm, hcell⟩ := hv
  rw [List.length_map, hn] at hnc ⊢
  obtain ⟨b, off, rfl, -⟩ := hcell 0 (.int .i64 (xs[0]?.getD 0)) (by rw [List.getElem?_map, List.getElem?_eq_getElem (by omega)]; rfl)
  refine ⟨b, off, c, rfl, hnc, hcm, fun W hW k hk => ?_⟩
  obtain ⟨b', o', e, h⟩ := hcell k (.int .i64 (xs[k]?.getD 0)) (by rw [List.getElem?_map, List.getElem?_eq_getElem (by omega)]; rfl)
  cases e
  exact cell_step h hW

set_option maxHeartbeats 1000000 in
theorem r8Same_any (v u : Value) (xs : List Int) (w : World) (hm : xs.length ≤ 1000) (hv : SlR w v (xs.map (Value.int .i64))) (hu : SlR w u (xs.map (Value.int .i64))) :
    Calls Tryd.prog 17 #[v, u] w fun e w' => e = .returned (.bool true) ∧ Qu w w' := by
  by_cases h0 : xs.length = 0
  · obtain ⟨a, n, c, rfl, hnl, -, -, -⟩ := SlR.opened (0 : Int) hv
    obtain ⟨a', n', c', rfl, hnl', -, -, -⟩ := SlR.opened (0 : Int) hu
    obtain rfl : n = 0 := by omega
    obtain rfl : n' = 0 := by omega
    clear hv hu hnl hnl' h0
    go_enter Tryd.func17, Tryd.ntmps17
    go_wp2
    go_loopw [5] (fun i wr => i = .int .i64 0 ∧ wr = w) (fun _ _ => 0)
    case atStart => exact ⟨rfl, rfl⟩
    case round =>
      obtain ⟨rfl, rfl⟩ := hrel
      go_wp2
      go_ret
      exact ⟨rfl, Qu.refl _⟩
  · obtain ⟨b, off, c, rfl, hnc, hcm, hcell⟩ := sl_ints hv rfl (by omega)
    obtain ⟨b', off', c', rfl, hnc', hcm', hcell'⟩ := sl_ints hu rfl (by omega)
    have HA := Lib.hid hcell
    have HB := Lib.hid hcell'
    unfold maxLen at hcm hcm'
    clear hcell hcell' hv hu
    generalize xs.length = n at *
    go_enter Tryd.func17, Tryd.ntmps17
    go_wp2
    go_loopw [5] (fun i wr => ∃ k : Nat, k ≤ n ∧ i = .int .i64 (k : Int) ∧ Qu w wr) (fun i _ => n - (intOf i).toNat)
    case atStart => exact ⟨0, Nat.zero_le _, rfl, Qu.refl _⟩
    case round =>
      obtain ⟨k, hk, rfl, hq⟩ := hrel
      by_cases hlt : k < n
      · have d1 := HA.out wr hq.keep k hlt
        have d2 := HB.out wr hq.keep k hlt
        generalize xs[k]?.getD 0 = x at *
        go_wp2
        go_quiet (fail)
        go_wp2
        go_roundw
        case rel => exact ⟨k + 1, by omega, by go_num, hq.drewN _⟩
        case measure => simp [intOf]; omega
      · obtain rfl : k = n := by omega
        go_wp2
        go_ret
        exact ⟨rfl, hq⟩

set_option maxHeartbeats 2000000 in
theorem R8Below_any (w : World) (sv : Value) (l : List UInt8) (n most : Nat) (hl : l.length ≤ 1048576) (hn : n ≤ 1000) (h1 : 1 ≤ most) (hm : most ≤ 200) (hv : SlR w sv (byv l)) :
    Calls Tryd.prog 20 #[sv, .int .i64 (n : Int), .int .i64 (most : Int)] w fun e w' => ∃ ls : List Int, ls.length = n ∧ (∀ x ∈ ls, 0 ≤ x ∧ x < (most : Int)) ∧ RetSl w 2 n (ls.map (Value.int .i64)) id e w' := by
  have HF := Lib.hid (from_any w sv l hv)
  have HP : Hid (∀ W m, m ≤ 1000 → Src w w.heap.size sv m W → Calls Tryd.prog 45 #[.pointer (some ⟨w.heap.size, 0, none⟩), .int .i64 (most : Int)] W fun e w' => (∃ x : Int, (0 ≤ x ∧ x < (most : Int)) ∧ e = .returned (.int .i64 x)) ∧ Src w w.heap.size sv (m + 1) w' ∧ W.grownBy w' (some w.heap.size)) := Lib.hid fun W m hm0 hs => by
    by_cases h2 : most ≤ 1
    · refine (pick_one W w.heap.size most (by omega)).mono ?_
      rintro e w' ⟨rfl, rfl⟩
      exact ⟨⟨0, by omega, rfl⟩, hs.mono (by omega), World.grownBy.refl _ _⟩
    · refine (pick_any w W w.heap.size m most sv l hl (by omega) (by omega) hm hv hs).mono ?_
      rintro e w' ⟨⟨x, hx, rfl⟩, a, b⟩
      exact ⟨⟨x, by omega, rfl⟩, a, b⟩
  obtain ⟨a, k0, c0, rfl, -, -, -, -⟩ := SlR.opened (0 : UInt8) hv
  obtain ⟨i0, hi0, hz00, hz01, hz02⟩ := info_parts info_Int64S
  clear hv hl
  go_enter Tryd.func20, Tryd.ntmps20
  go_wp2_with (go_at_call 25; refine HF.out.mono ?_; rintro e w1 ⟨rfl, hs, hsz⟩; have HSZ := Lib.hid hsz; clear hsz)
  have hown0 : (w1.alloc (.cells #[] 2)).ownsRow (w.heap.size + 1) 2 1 (.slice (some ⟨w1.heap.size, 0, none⟩) 0 0) 0 [] := World.ownsRow_made w1 #[] 0 (by have := HSZ.out; omega) (Nat.zero_le _) rfl
  have hs0 : Src w w.heap.size (.slice a k0 c0) 0 (w1.alloc (.cells #[] 2)) := hs.kept (r := none) (World.grownBy_alloc _ _ _) (by simp) (fun k h => by cases h)
  go_loopw [1, 8] (fun q v W => ∃ (k : Nat) (ls : List Int), q = .int .i64 (k : Int) ∧ ls.length + k = n ∧ Hid (∀ x ∈ ls, 0 ≤ x ∧ x < (most : Int)) ∧ W.ownsRow (w.heap.size + 1) 2 1 v ls.length (ls.map (Value.int .i64)) ∧ Src w w.heap.size (.slice a k0 c0) ls.length W) (fun q _ _ => (intOf q).toNat)
  case atStart => exact ⟨n, [], rfl, by simp, Lib.hid (fun x h => by cases h), hown0, hs0⟩
  case round =>
    clear hown0 hs0 hs
    obtain ⟨k, ls, rfl, hk, hls, hown, hs⟩ := hrel
    by_cases hk0 : 0 < k
    · have HPK := Lib.hid (HP.out _ _ (by omega) hs)
      have E1 : Hid ((k : Int) - 1 = ((k - 1 : Nat) : Int)) := by show _ = _; omega
      have E2 : Hid (ls.length + 1 + (k - 1) = n) := by show _ = _; omega
      have E3 : Hid ((intOf (.int .i64 ((k : Int) - 1))).toNat < (intOf (.int .i64 (k : Int))).toNat) := by show _ < _; simp only [intOf]; omega
      go_wp2_with (first
        | (at_builtin; refine wpList_append_own _ rfl _ _ 32 rfl (w.heap.size + 1) 2 i0 (.int .i64 0) 1 8 Tryd.underlying32 hi0 hz00 hz01 hz02 rfl (by decide) u8 _ _ rfl (hown2.alloc _) ⟨w2.heap.size, 0, none⟩ 1 1 [.int .i64 x] rfl rfl (cell_one_new _ _ _) (one_oneCell rfl) (by unfold maxLen; omega) (by omega) (by simp only [World.size_alloc]; have := hs2.2.1; omega) ?_; intro v3 w3 hown3 hg3 _)
        | (go_at_call 45; refine HPK.out.mono ?_; rintro e w2 ⟨⟨x, hx, rfl⟩, hs2, hg2⟩; have hown2 := hown.kept hg2 (.inr (fun e => by have := (hown.lt _ e).1; omega))))
      have hs3 : Src w w.heap.size (.slice a k0 c0) (ls.length + 1) w3 := (hs2.kept (W' := w2.alloc (.cells #[.int .i64 x] 2)) (r := none) (World.grownBy_alloc _ _ _) (by simp) (fun k h => by cases h)).kept hg3 (fun e => by have := (hown2.lt _ e).1; omega) (fun k e => by have := (hown2.lt _ e).1; omega)
      rw [show ls.map (Value.int .i64) ++ [.int .i64 x] = (ls ++ [x]).map (Value.int .i64) by simp] at hown3
      go_roundw
      case rel =>
        refine ⟨k - 1, ls ++ [x], congrArg (Value.int .i64) E1.out, by rw [List.length_append]; exact E2.out, Lib.hid (fun y hy => ?_), by rw [List.length_append]; exact hown3, by rw [List.length_append]; exact hs3⟩
        rcases List.mem_append.1 hy with h | h
        · exact hls.out y h
        · rw [List.mem_singleton] at h; rw [h]; exact hx
      case measure => exact E3.out
    · obtain rfl : k = 0 := by omega
      have hnl : ls.length = n := by omega
      rw [hnl] at hown
      go_wp2
      go_ret
      exact ⟨ls, hnl, hls.out, RetSl.of (f := id) (ownsRow_base hown (by omega)) hs.2.2.1⟩

end Go.Proofs.YtjobgobeiiakgaaDoor
