/- A new variable that holds a channel's zero, kept along calls and then stored into. -/
import Derived.Test.YtlahmdnlamifnaaSis
import Derived.Test.YtlahmdnlamifnaaHrg
import Derived.Test.YtlahmdnlamifnaaMbg
import Derived.Deep.RegionHeld3
namespace Go.Proofs.Ytlahmdnlamifnaa
set_option linter.unusedSimpArgs false
set_option linter.unusedVariables false
open Go.RowKit

/-- Block k is the new variable, still zero. -/
def ZP (k : Nat) (W : World) : Prop := ∃ T, W.heap[k]? = some (.cells #[.int .i64 0, .int .i64 0, .slice none 0 0] T (0, 0))
theorem ZP.lt {k : Nat} {W : World} (h : ZP k W) : k < W.heap.size := by
  obtain ⟨T, h⟩ := h
  rcases Nat.lt_or_ge k W.heap.size with h1 | h1
  · exact h1
  · rw [Array.getElem?_eq_none h1] at h; cases h
theorem ZP.new {X V : World} {T : TypeId} (hb : Below (X.alloc (.cells #[.int .i64 0, .int .i64 0, .slice none 0 0] T)).heap.size (X.alloc (.cells #[.int .i64 0, .int .i64 0, .slice none 0 0] T)) V) : ZP X.heap.size V := by
  refine ⟨T, ?_⟩
  rw [hb.block _ (by simp only [World.size_alloc]; omega)]
  show (X.heap.push _)[X.heap.size]? = _
  simp
theorem ZP.newd {X V : World} {T : TypeId} (hb : Below (X.alloc (.cells #[.int .i64 0, .int .i64 0, .slice none 0 0] T)).drew.heap.size (X.alloc (.cells #[.int .i64 0, .int .i64 0, .slice none 0 0] T)).drew V) : ZP X.heap.size V := by
  refine ⟨T, ?_⟩
  rw [hb.block _ (by show X.heap.size < (X.heap.push _).size; simp)]
  show (X.heap.push _)[X.heap.size]? = _
  simp
theorem ZP.step {k : Nat} {W V : World} (h : ZP k W) (hb : Below W.heap.size W V) : ZP k V := by
  have := h.lt
  obtain ⟨T, h⟩ := h
  exact ⟨T, by rw [hb.block k this]; exact h⟩
theorem ZP.cells {k : Nat} {W : World} (h : ZP k W) : (W.cell? ⟨k, 0, none⟩ = some (.int .i64 0) ∧ W.cell? ⟨k, 1, none⟩ = some (.int .i64 0) ∧ W.cell? ⟨k, 2, none⟩ = some (.slice none 0 0)) ∧ W.frozen? ⟨k, 0, none⟩ = false ∧ W.frozen? ⟨k, 1, none⟩ = false ∧ W.frozen? ⟨k, 2, none⟩ = false := by
  obtain ⟨T, h⟩ := h
  refine ⟨⟨?_, ?_, ?_⟩, ?_, ?_, ?_⟩
  · rw [cell_of_row _ _ _ _ _ _ h]; rfl
  · rw [cell_of_row _ _ _ _ _ _ h]; rfl
  · rw [cell_of_row _ _ _ _ _ _ h]; rfl
  all_goals simp [World.frozen?, h]
theorem ZP.apart {k : Nat} {W : World} (h : ZP k W) {b o x : Nat} (hc : W.cell? ⟨b, o, none⟩ = some (.float .f32 x)) : b ≠ k := by
  rintro rfl
  obtain ⟨T, h⟩ := h
  rw [cell_of_row _ _ _ _ _ _ h] at hc
  match o with
  | 0 => simp at hc
  | 1 => simp at hc
  | 2 => simp at hc
  | _ + 3 => simp at hc
/-- What is so of the world behind the stores into the variable. -/
def FP (W2 W : World) (k : Nat) (i j : Int) (v : Value) (xs : List Nat) : Prop :=
  W2.heap.size ≤ k ∧ k < W.heap.size ∧ (W.cell? ⟨k, 0, none⟩ = some (.int .i64 i) ∧ W.cell? ⟨k, 1, none⟩ = some (.int .i64 j) ∧ W.cell? ⟨k, 2, none⟩ = some v) ∧ SlR W v (xs.map (Value.float .f32)) ∧ Fr W2 W
theorem FP.alloc {W2 V : World} {i j : Int} {v : Value} {xs : List Nat} {T : TypeId} (hF : Fr W2 V) (hs : SlR V v (xs.map (Value.float .f32))) : FP W2 (V.alloc (.cells #[.int .i64 i, .int .i64 j, v] T)) V.heap.size i j v xs :=
  ⟨hF.size, by simp, ⟨by simp, by simp, by simp⟩, hs.below (by go_grown), Below.alloc hF hF.size _⟩
theorem SlR.far {W W' : World} {k : Nat} {v : Value} {xs : List Nat} (hfar : ∀ a : Addr, a.block ≠ k → W'.cell? a = W.cell? a) (hz : ZP k W) (hs : SlR W v (xs.map (Value.float .f32))) : SlR W' v (xs.map (Value.float .f32)) := by
  obtain ⟨a, c, h1, h2, h3, h4⟩ := hs
  refine ⟨a, c, h1, h2, h3, fun i y hy => ?_⟩
  obtain ⟨b, off, ha, hc⟩ := h4 i y hy
  refine ⟨b, off, ha, ?_⟩
  obtain ⟨x, -, rfl⟩ := List.mem_map.1 (List.mem_of_getElem? hy)
  rw [hfar _ (hz.apart hc)]
  exact hc
theorem FP.set {W2 V : World} {k : Nat} {i j : Int} {v : Value} {xs : List Nat} (hF : Fr W2 V) (hk : W2.heap.size ≤ k) (hz : ZP k V) (hs : SlR V v (xs.map (Value.float .f32))) :
    FP W2 (((V.setCell ⟨k, 0, none⟩ (.int .i64 i)).setCell ⟨k, 1, none⟩ (.int .i64 j)).setCell ⟨k, 2, none⟩ v) k i j v xs := by
  obtain ⟨⟨c0, c1, c2⟩, -⟩ := hz.cells
  have e1 : ∀ (X : World) (p q : Addr) (u : Value), p ≠ q → (X.setCell p u).cell? q = X.cell? q := fun X p q u h => World.cell?_setCell_other _ _ _ _ h
  refine ⟨hk, ?_, ⟨?_, ?_, ?_⟩, SlR.far (k := k) ?_ hz hs, ((hF.setCell (p := ⟨k, 0, none⟩) hk _).setCell (p := ⟨k, 1, none⟩) hk _).setCell (p := ⟨k, 2, none⟩) hk _⟩
  · simpa using hz.lt
  · rw [e1 _ ⟨k, 2, none⟩ ⟨k, 0, none⟩ v (by intro e; cases e), e1 _ ⟨k, 1, none⟩ ⟨k, 0, none⟩ _ (by intro e; cases e), World.cell?_setCell_same _ _ _ c0]
  · rw [e1 _ ⟨k, 2, none⟩ ⟨k, 1, none⟩ v (by intro e; cases e)]
    exact World.cell?_setCell_same _ _ _ (u := .int .i64 0) (by rw [e1 _ ⟨k, 0, none⟩ ⟨k, 1, none⟩ _ (by intro e; cases e)]; exact c1)
  · exact World.cell?_setCell_same _ _ _ (u := .slice none 0 0) (by rw [e1 _ ⟨k, 1, none⟩ ⟨k, 2, none⟩ _ (by intro e; cases e), e1 _ ⟨k, 0, none⟩ ⟨k, 2, none⟩ _ (by intro e; cases e)]; exact c2)
  · intro a ha
    rw [e1 _ ⟨k, 2, none⟩ a v (fun e => ha (by rw [← e])), e1 _ ⟨k, 1, none⟩ a _ (fun e => ha (by rw [← e])), e1 _ ⟨k, 0, none⟩ a _ (fun e => ha (by rw [← e]))]
theorem keepF6 {w0 W : World} {a1 a2 a3 a4 a5 a6 : Addr} {v1 v2 v3 v4 v5 v6 : Value} (h1 : w0.cell? a1 = some v1) (h2 : w0.cell? a2 = some v2) (h3 : w0.cell? a3 = some v3) (h4 : w0.cell? a4 = some v4) (h5 : w0.cell? a5 = some v5) (h6 : w0.cell? a6 = some v6) (h : Fr w0 W) :
    W.cell? a1 = some v1 ∧ W.cell? a2 = some v2 ∧ W.cell? a3 = some v3 ∧ W.cell? a4 = some v4 ∧ W.cell? a5 = some v5 ∧ W.cell? a6 = some v6 ∧ Fr w0 W :=
  ⟨cell_step h1 h, cell_step h2 h, cell_step h3 h, cell_step h4 h, cell_step h5 h, cell_step h6 h, h⟩

set_option maxHeartbeats 400000 in
theorem markChannel_big (i j : Int) (a : Option Addr) (n c : Nat) (xs : List Value) (k : Int) (B : Nat) (w : World) (h0 : 0 ≤ k) (h1 : k ≤ 4194304) (hn : n ≤ 1048576) (hown : w.ownsRow B 22 1 (.slice a n c) n xs) :
    Calls Try.prog 14 #[.agg #[.int .i64 i, .int .i64 j, .slice a n c], .int .i64 k] w fun e w' => e = .returned (.int .i64 (k + n)) ∧ w'.ownsRow B 22 1 (.slice a n c) n ((marks k n).map (fun q => Value.float .f32 (floatOfInt .f32 q))) ∧ w.grownBy w' (Value.slice a n c).ownBlock := by
  have hg0 := World.grownBy_alloc w (.cells #[.int .i64 i, .int .i64 j, .slice a n c] 25) (Value.slice a n c).ownBlock
  go_enter Try.func14, Try.ntmps14
  go_wp2_with (go_at_call 29; refine (markFloat32S_big _ _ _ xs _ B _ h0 h1 hn (hown.alloc _)).mono ?_; rintro e w1 ⟨rfl, ho, hg⟩)
  go_ret
  exact ⟨rfl, ho, grownBy_trans hg0 hg⟩

set_option maxHeartbeats 400000 in
theorem markTable_big (i j : Int) (a : Option Addr) (n c : Nat) (xs : List Value) (k : Int) (B : Nat) (w : World) (h0 : 0 ≤ k) (h1 : k ≤ 4194304) (hn : n ≤ 1048576) (hown : w.ownsRow B 22 1 (.slice a n c) n xs) :
    Calls Try.prog 30 #[.agg #[.int .i64 i, .int .i64 j, .slice a n c], .int .i64 k] w fun e w' => e = .returned (.int .i64 (k + n)) ∧ w'.ownsRow B 22 1 (.slice a n c) n ((marks k n).map (fun q => Value.float .f32 (floatOfInt .f32 q))) ∧ w.grownBy w' (Value.slice a n c).ownBlock := by
  have hg0 := World.grownBy_alloc w (.cells #[.int .i64 i, .int .i64 j, .slice a n c] 37) (Value.slice a n c).ownBlock
  go_enter Try.func30, Try.ntmps30
  go_wp2_with (go_at_call 29; refine (markFloat32S_big _ _ _ xs _ B _ h0 h1 hn (hown.alloc _)).mono ?_; rintro e w1 ⟨rfl, ho, hg⟩)
  go_ret
  exact ⟨rfl, ho, grownBy_trans hg0 hg⟩

end Go.Proofs.Ytlahmdnlamifnaa
