/- The harness of the laws on floats: marks; channels and tables. -/
import Derived.Test.YtlahmdnlamifnaaHrf
namespace Go.Proofs.Ytlahmdnlamifnaa
set_option linter.unusedSimpArgs false
set_option linter.unusedVariables false
open Go.RowKit

set_option maxHeartbeats 400000 in
theorem heldFloat32S_any (v : Value) (n : Nat) (k : Int) (w : World) (h0 : 0 ≤ k) (h1 : k ≤ 1048576) (hn : n ≤ 1048576) (hv : SlR w v ((marks k n).map (fun q => Value.float .f32 (floatOfInt .f32 q)))) :
    Calls Try.prog 38 #[v, .int .i64 k] w fun e w' => e = .returned (.int .i64 (k + n)) ∧ w' = w := by
  obtain ⟨a, n', c, rfl, hnl, hnc, hcm, hcell⟩ := SlR.opened 0 hv
  rw [marks_length] at hnl
  subst hnl
  have HC := Lib.hid hcell
  clear hcell hcm hnc hv
  go_enter Try.func38, Try.ntmps38
  go_wp2
  go_loop [1, 5] (fun kk i => ∃ j : Nat, j ≤ n ∧ i = .int .i64 j ∧ kk = .int .i64 (k + j)) (fun _ i => n - (intOf i).toNat)
  case atStart => exact ⟨0, Nat.zero_le _, rfl, by simp⟩
  case round =>
    obtain ⟨j, hj, rfl, rfl⟩ := hrel
    by_cases hlt : j < n
    · obtain ⟨b, off, rfl, hc, hbl⟩ := HC.out j hlt
      rw [List.getD_eq_getElem?_getD, marks_getD n k j hlt] at hc
      have ht : (FloatKind.f32.format.order (floatOfInt .f32 (k + (j : Int))) (floatOfInt .f32 (k + (j : Int))) == some .eq) = true := by
        have := order_self (floatOfInt .f32 (k + (j : Int)))
        rw [floatOfInt_nan] at this; exact this
      have ht2 : (FloatKind.f32.format.order (floatOfInt .f32 (k + (j : Int))) (floatOfInt .f32 (k + (j : Int))) != some .eq) = false := by
        have := ht; simpa using this
      go_wp2
      go_round
      case rel => exact ⟨j + 1, by omega, by go_num, by go_num⟩
      case measure => simp [intOf]; omega
    · obtain rfl : n = j := by omega
      go_wp2
      go_ret
      exact ⟨rfl, rfl⟩

set_option maxHeartbeats 400000 in
theorem szChannel_le (i j : Int) (a : Option Addr) (n c : Nat) (left : Int) (w : World) (h0 : 0 ≤ left) (h1 : left ≤ 1048576) (hn : n ≤ 9223372036854775807) (h : n ≤ left) :
    Calls Try.prog 20 #[.agg #[.int .i64 i, .int .i64 j, .slice a n c], .int .i64 left] w fun e w' => e = .returned (.int .i64 (left - n)) ∧ Below w.heap.size w w' := by
  have HB : Below w.heap.size w (w.alloc (.cells #[.int .i64 i, .int .i64 j, .slice a n c] 31)) := (Below.refl _ _).alloc (Nat.le_refl _) _
  have hx : ¬ left - (n : Int) < 0 := by omega
  go_enter Try.func20, Try.ntmps20
  go_wp2_with (go_at_call 53; refine (szFloat32S_le _ _ _ _ _ h0 h1 hn h).mono ?_; rintro e w' ⟨rfl, rfl⟩)
  go_ret
  exact ⟨rfl, HB⟩
set_option maxHeartbeats 400000 in
theorem szChannel_gt (i j : Int) (a : Option Addr) (n c : Nat) (left : Int) (w : World) (h0 : 0 ≤ left) (h1 : left ≤ 1048576) (hn : n ≤ 9223372036854775807) (h : left < n) :
    Calls Try.prog 20 #[.agg #[.int .i64 i, .int .i64 j, .slice a n c], .int .i64 left] w fun e w' => e = .returned (.int .i64 (-1)) ∧ Below w.heap.size w w' := by
  have HB : Below w.heap.size w (w.alloc (.cells #[.int .i64 i, .int .i64 j, .slice a n c] 31)) := (Below.refl _ _).alloc (Nat.le_refl _) _
  go_enter Try.func20, Try.ntmps20
  go_wp2_with (go_at_call 53; refine (szFloat32S_gt _ _ _ _ _ h0 h1 hn h).mono ?_; rintro e w' ⟨rfl, rfl⟩)
  go_ret
  exact ⟨rfl, HB⟩

set_option maxHeartbeats 400000 in
theorem eqChannel_same (i j : Int) (v u : Value) (xs : List Nat) (w : World) (hv : SlR w v (xs.map (Value.float .f32))) (hu : SlR w u (xs.map (Value.float .f32))) :
    Calls Try.prog 13 #[.agg #[.int .i64 i, .int .i64 j, v], .agg #[.int .i64 i, .int .i64 j, u]] w fun e w' => e = .returned (.bool true) ∧ Below w.heap.size w w' := by
  have h1 : (i != i) = false := by simp
  have h2 : (j != j) = false := by simp
  go_enter Try.func13, Try.ntmps13
  go_wp2_with (go_at_call 28; refine (eqFloat32S_same _ _ xs _ (hv.below (by go_grown)) (hu.below (by go_grown))).mono ?_; rintro e w' ⟨rfl, m, rfl⟩)
  go_ret
  exact ⟨rfl, below_drewN (by go_grown) m⟩

set_option maxHeartbeats 400000 in
theorem eqTable_same (i j : Int) (v u : Value) (xs : List Nat) (w : World) (hv : SlR w v (xs.map (Value.float .f32))) (hu : SlR w u (xs.map (Value.float .f32))) :
    Calls Try.prog 27 #[.agg #[.int .i64 i, .int .i64 j, v], .agg #[.int .i64 i, .int .i64 j, u]] w fun e w' => e = .returned (.bool true) ∧ Below w.heap.size w w' := by
  have h1 : (i != i) = false := by simp
  have h2 : (j != j) = false := by simp
  go_enter Try.func27, Try.ntmps27
  go_wp2_with (go_at_call 28; refine (eqFloat32S_same _ _ xs _ (hv.below (by go_grown)) (hu.below (by go_grown))).mono ?_; rintro e w' ⟨rfl, m, rfl⟩)
  go_ret
  exact ⟨rfl, below_drewN (by go_grown) m⟩

set_option maxHeartbeats 400000 in
theorem toChannel_any (i j : Int) (v : Value) (zs : List Nat) (w : World) (hv : SlR w v (zs.map (Value.float .f32))) (hn : zs.length ≤ 1048576) :
    Calls Try.prog 22 #[.agg #[.int .i64 i, .int .i64 j, v]] w (RetSl w 22 zs.length (zs.map (Value.float .f32)) (fun v => .agg #[.int .i64 i, .int .i64 j, v])) := by
  go_enter Try.func22, Try.ntmps22
  go_wp2_with (go_at_call 25; refine (toFloat32S_any _ zs _ (hv.below (by go_grown)) hn).mono ?_; rintro e w1 ⟨a, c, rfl, hown, hb⟩; obtain ⟨hc, hf⟩ := bcell hb; have hz := hb.size; simp only [World.size_alloc, World.size_setCell] at hown hc hf hz)
  refine bodyPost_ret (v := .agg #[.int .i64 i, .int .i64 j, .slice a zs.length c]) (by simp [results, Try.results22, go_sem, *]) rfl ?_
  have o1 := ownsRow_setCell_below (a := ⟨w.heap.size + 1 + 1, 2, none⟩) hown (show w.heap.size + 1 + 1 < w.heap.size + 1 + 1 + 1 by omega) (.slice a zs.length c)
  have o2 := ownsRow_setCell_below (a := ⟨w.heap.size + 1, 0, none⟩) o1 (show w.heap.size + 1 < w.heap.size + 1 + 1 + 1 by omega) (.int .i64 i)
  have o3 := ownsRow_setCell_below (a := ⟨w.heap.size + 1, 1, none⟩) o2 (show w.heap.size + 1 < w.heap.size + 1 + 1 + 1 by omega) (.int .i64 j)
  have o4 := ownsRow_setCell_below (a := ⟨w.heap.size + 1, 2, none⟩) o3 (show w.heap.size + 1 < w.heap.size + 1 + 1 + 1 by omega) (.slice a zs.length c)
  have b0 : Below w.heap.size w w1 := (show Below w.heap.size w _ by go_grown).trans (hb.mono (by simp; omega))
  have b1 := b0.setCell (p := ⟨w.heap.size + 1 + 1, 2, none⟩) (show w.heap.size ≤ w.heap.size + 1 + 1 by omega) (.slice a zs.length c)
  have b2 := b1.setCell (p := ⟨w.heap.size + 1, 0, none⟩) (show w.heap.size ≤ w.heap.size + 1 by omega) (.int .i64 i)
  have b3 := b2.setCell (p := ⟨w.heap.size + 1, 1, none⟩) (show w.heap.size ≤ w.heap.size + 1 by omega) (.int .i64 j)
  have b4 := b3.setCell (p := ⟨w.heap.size + 1, 2, none⟩) (show w.heap.size ≤ w.heap.size + 1 by omega) (.slice a zs.length c)
  exact RetSl.mk (f := fun v => .agg #[.int .i64 i, .int .i64 j, v]) (ownsRow_base o4 (by omega)) b4

set_option maxHeartbeats 400000 in
theorem markChannel_any (i j : Int) (a : Option Addr) (n c : Nat) (xs : List Value) (k : Int) (B : Nat) (w : World) (h0 : 0 ≤ k) (h1 : k ≤ 1048576) (hn : n ≤ 1048576) (hown : w.ownsRow B 22 1 (.slice a n c) n xs) :
    Calls Try.prog 14 #[.agg #[.int .i64 i, .int .i64 j, .slice a n c], .int .i64 k] w fun e w' => e = .returned (.int .i64 (k + n)) ∧ w'.ownsRow B 22 1 (.slice a n c) n ((marks k n).map (fun q => Value.float .f32 (floatOfInt .f32 q))) ∧ w.grownBy w' (Value.slice a n c).ownBlock := by
  have hg0 := World.grownBy_alloc w (.cells #[.int .i64 i, .int .i64 j, .slice a n c] 25) (Value.slice a n c).ownBlock
  go_enter Try.func14, Try.ntmps14
  go_wp2_with (go_at_call 29; refine (markFloat32S_any _ _ _ xs _ B _ h0 h1 hn (hown.alloc _)).mono ?_; rintro e w1 ⟨rfl, ho, hg⟩)
  go_ret
  exact ⟨rfl, ho, grownBy_trans hg0 hg⟩

set_option maxHeartbeats 400000 in
theorem markTable_any (i j : Int) (a : Option Addr) (n c : Nat) (xs : List Value) (k : Int) (B : Nat) (w : World) (h0 : 0 ≤ k) (h1 : k ≤ 1048576) (hn : n ≤ 1048576) (hown : w.ownsRow B 22 1 (.slice a n c) n xs) :
    Calls Try.prog 30 #[.agg #[.int .i64 i, .int .i64 j, .slice a n c], .int .i64 k] w fun e w' => e = .returned (.int .i64 (k + n)) ∧ w'.ownsRow B 22 1 (.slice a n c) n ((marks k n).map (fun q => Value.float .f32 (floatOfInt .f32 q))) ∧ w.grownBy w' (Value.slice a n c).ownBlock := by
  have hg0 := World.grownBy_alloc w (.cells #[.int .i64 i, .int .i64 j, .slice a n c] 37) (Value.slice a n c).ownBlock
  go_enter Try.func30, Try.ntmps30
  go_wp2_with (go_at_call 29; refine (markFloat32S_any _ _ _ xs _ B _ h0 h1 hn (hown.alloc _)).mono ?_; rintro e w1 ⟨rfl, ho, hg⟩)
  go_ret
  exact ⟨rfl, ho, grownBy_trans hg0 hg⟩

set_option maxHeartbeats 400000 in
theorem heldChannel_any (i j : Int) (v : Value) (n : Nat) (k : Int) (w : World) (h0 : 0 ≤ k) (h1 : k ≤ 1048576) (hn : n ≤ 1048576) (hv : SlR w v ((marks k n).map (fun q => Value.float .f32 (floatOfInt .f32 q)))) :
    Calls Try.prog 15 #[.agg #[.int .i64 i, .int .i64 j, v], .int .i64 k] w fun e w' => e = .returned (.int .i64 (k + n)) ∧ Below w.heap.size w w' := by
  have HB : Below w.heap.size w (w.alloc (.cells #[.int .i64 i, .int .i64 j, v] 25)) := (Below.refl _ _).alloc (Nat.le_refl _) _
  have hx : ¬ k + (n : Int) < 0 := by omega
  go_enter Try.func15, Try.ntmps15
  go_wp2_with (go_at_call 38; refine (heldFloat32S_any _ n _ _ h0 h1 hn (hv.below HB)).mono ?_; rintro e w' ⟨rfl, rfl⟩)
  go_ret
  exact ⟨rfl, HB⟩

set_option maxHeartbeats 400000 in
theorem heldTable_any (i j : Int) (v : Value) (n : Nat) (k : Int) (w : World) (h0 : 0 ≤ k) (h1 : k ≤ 1048576) (hn : n ≤ 1048576) (hv : SlR w v ((marks k n).map (fun q => Value.float .f32 (floatOfInt .f32 q)))) :
    Calls Try.prog 31 #[.agg #[.int .i64 i, .int .i64 j, v], .int .i64 k] w fun e w' => e = .returned (.int .i64 (k + n)) ∧ Below w.heap.size w w' := by
  have HB : Below w.heap.size w (w.alloc (.cells #[.int .i64 i, .int .i64 j, v] 37)) := (Below.refl _ _).alloc (Nat.le_refl _) _
  have hx : ¬ k + (n : Int) < 0 := by omega
  go_enter Try.func31, Try.ntmps31
  go_wp2_with (go_at_call 38; refine (heldFloat32S_any _ n _ _ h0 h1 hn (hv.below HB)).mono ?_; rintro e w' ⟨rfl, rfl⟩)
  go_ret
  exact ⟨rfl, HB⟩

end Go.Proofs.Ytlahmdnlamifnaa
