/- The harness of the laws on floats: marks; channels and tables. -/
import Derived.Test.YtjobgobeiiakgaaHrf
namespace Go.Proofs.Ytjobgobeiiakgaa
set_option linter.unusedSimpArgs false
set_option linter.unusedVariables false
open Go.RowKit

set_option maxHeartbeats 400000 in
theorem szChannel_le (i j : Int) (a : Option Addr) (n c : Nat) (left : Int) (w : World) (h0 : 0 ≤ left) (h1 : left ≤ 1048576) (hn : n ≤ 9223372036854775807) (h : n ≤ left) :
    Calls Try.prog 20 #[.agg #[.int .i64 i, .int .i64 j, .slice a n c], .int .i64 left] w fun e w' => e = .returned (.int .i64 (left - n)) ∧ Below w.heap.size w w' := by
  have HB : Below w.heap.size w (w.alloc (.cells #[.int .i64 i, .int .i64 j, .slice a n c] 40)) := (Below.refl _ _).alloc (Nat.le_refl _) _
  have hx : ¬ left - (n : Int) < 0 := by omega
  go_enter Try.func20, Try.ntmps20
  go_wp2_with (go_at_call 59; refine (szFloat32S_le _ _ _ _ _ h0 h1 hn h).mono ?_; rintro e w' ⟨rfl, rfl⟩)
  go_ret
  exact ⟨rfl, HB⟩
set_option maxHeartbeats 400000 in
theorem szChannel_gt (i j : Int) (a : Option Addr) (n c : Nat) (left : Int) (w : World) (h0 : 0 ≤ left) (h1 : left ≤ 1048576) (hn : n ≤ 9223372036854775807) (h : left < n) :
    Calls Try.prog 20 #[.agg #[.int .i64 i, .int .i64 j, .slice a n c], .int .i64 left] w fun e w' => e = .returned (.int .i64 (-1)) ∧ Below w.heap.size w w' := by
  have HB : Below w.heap.size w (w.alloc (.cells #[.int .i64 i, .int .i64 j, .slice a n c] 40)) := (Below.refl _ _).alloc (Nat.le_refl _) _
  go_enter Try.func20, Try.ntmps20
  go_wp2_with (go_at_call 59; refine (szFloat32S_gt _ _ _ _ _ h0 h1 hn h).mono ?_; rintro e w' ⟨rfl, rfl⟩)
  go_ret
  exact ⟨rfl, HB⟩

set_option maxHeartbeats 400000 in
theorem eqChannel_same (i j : Int) (v u : Value) (xs : List Nat) (w : World) (hv : SlR w v (xs.map (Value.float .f32))) (hu : SlR w u (xs.map (Value.float .f32))) :
    Calls Try.prog 24 #[.agg #[.int .i64 i, .int .i64 j, v], .agg #[.int .i64 i, .int .i64 j, u]] w fun e w' => e = .returned (.bool true) ∧ Below w.heap.size w w' := by
  have h1 : (i != i) = false := by simp
  have h2 : (j != j) = false := by simp
  go_enter Try.func24, Try.ntmps24
  go_wp2_with (go_at_call 16; refine (eqFloat32S_same _ _ xs _ (hv.below (by go_grown)) (hu.below (by go_grown))).mono ?_; rintro e w' ⟨rfl, m, rfl⟩)
  go_ret
  exact ⟨rfl, below_drewN (by go_grown) m⟩

set_option maxHeartbeats 400000 in
theorem toChannel_any (i j : Int) (v : Value) (zs : List Nat) (w : World) (hv : SlR w v (zs.map (Value.float .f32))) (hn : zs.length ≤ 1048576) :
    Calls Try.prog 22 #[.agg #[.int .i64 i, .int .i64 j, v]] w (RetSl w 33 zs.length (zs.map (Value.float .f32)) (fun v => .agg #[.int .i64 i, .int .i64 j, v])) := by
  go_enter Try.func22, Try.ntmps22
  go_wp2_with (go_at_call 14; refine (toFloat32S_any _ zs _ (hv.below (by go_grown)) hn).mono ?_; rintro e w1 ⟨a, c, rfl, hown, hb⟩; obtain ⟨hc, hf⟩ := bcell hb; have hz := hb.size; simp only [World.size_alloc, World.size_setCell] at hown hc hf hz)
  refine bodyPost_ret (v := .agg #[.int .i64 i, .int .i64 j, .slice a zs.length c]) (by simp [results, Try.results22, go_sem, *]) rfl ?_
  have o1 := ownsRow_setCell_below (a := ⟨w.heap.size + 1 + 1, 2, none⟩) hown (show w.heap.size + 1 + 1 < w.heap.size + 1 + 1 + 1 by omega) (.slice a zs.length c)
  have o2 := ownsRow_setCell_below (a := ⟨w.heap.size + 1, 0, none⟩) o1 (show w.heap.size + 1 < w.heap.size + 1 + 1 + 1 by omega) (.int .i64 i)
  have o3 := ownsRow_setCell_below (a := ⟨w.heap.size + 1, 1, none⟩) o2 (show w.heap.size + 1 < w.heap.size + 1 + 1 + 1 by omega) (.int .i64 j)
  have o4 := ownsRow_setCell_below (a := ⟨w.heap.size + 1, 2, none⟩) o3 (show w.heap.size + 1 < w.heap.size + 1 + 1 + 1 by omega) (.slice a zs.length c)
  have b0 : Below w.heap.size w w1 := (show Below w.heap.size w _ by go_grown).trans (hb.mono (by simp; omega))
  have b1 := b0.setCell (p := ⟨w.heap.size + 1 + 1, 2, none⟩) (show w.heap.size ≤ w.heap.size + 1 + 1 by omega) (.slice a zs.length c)
  have b2 := b1.setCell (p := ⟨w.heap.size + 1, 0, none⟩) (show w.heap.size ≤ w.heap.size + 1 by omega) (.int .i64 i)
  have b3 := b2.setCell (p := ⟨w.heap.size + 1, 1, none⟩) (show w.heap.size ≤ w.heap.size + 1 by omega) (.int .i64 j)
  have b4 := b3.setCell (p := ⟨w.heap.size + 1, 2, none⟩) (show w.heap.size ≤ w.heap.size + 1 by omega) (.slice a zs.length c)
  exact RetSl.mk (f := fun v => .agg #[.int .i64 i, .int .i64 j, v]) (ownsRow_base o4 (by omega)) b4

end Go.Proofs.Ytjobgobeiiakgaa
