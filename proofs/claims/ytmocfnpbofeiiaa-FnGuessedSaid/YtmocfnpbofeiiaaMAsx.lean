/- A table or a channel that is handed on if it is valid. -/
import Derived.Test.YtmocfnpbofeiiaaMTrn
namespace Go.Proofs.Ytmocfnpbofeiiaa
set_option linter.unusedSimpArgs false
set_option linter.unusedVariables false
open Go.RowKit

set_option maxHeartbeats 1000000 in
theorem asTable_yes (i j : Int) (hi : I64 i) (hj : I64 j) (v : Value) (xs : List Nat) (w : World) (hv : SlR w v (xs.map (Value.float .f32))) (hx : ∀ x ∈ xs, x < 4294967296) (hd : validTb i j xs = true) :
    Calls Try.prog 79 #[.agg #[.int .i64 i, .int .i64 j, v]] w fun e w' => e = .returned (.tuple #[.agg #[.int .i64 i, .int .i64 j, v], .bool true]) ∧ Below w.heap.size w w' := by
  have HX := Lib.hid hx
  have HD := Lib.hid hd
  clear hx hd
  obtain ⟨ad, n, c, rfl, -⟩ := SlR.opened 0 hv
  have hb0 : Below w.heap.size w ((w.alloc (.cells #[.int .i64 i, .int .i64 j, .slice ad n c] 47)).alloc (.cells #[.int .i64 0, .int .i64 0, .slice none 0 0] 47)) := by go_grown
  have hv1 := hv.below hb0
  have c0 : World.cell? ((w.alloc (.cells #[.int .i64 i, .int .i64 j, .slice ad n c] 47)).alloc (.cells #[.int .i64 0, .int .i64 0, .slice none 0 0] 47)) ⟨w.heap.size, 0, none⟩ = some (.int .i64 i) := by go_cell
  have c1 : World.cell? ((w.alloc (.cells #[.int .i64 i, .int .i64 j, .slice ad n c] 47)).alloc (.cells #[.int .i64 0, .int .i64 0, .slice none 0 0] 47)) ⟨w.heap.size, 1, none⟩ = some (.int .i64 j) := by go_cell
  have c2 : World.cell? ((w.alloc (.cells #[.int .i64 i, .int .i64 j, .slice ad n c] 47)).alloc (.cells #[.int .i64 0, .int .i64 0, .slice none 0 0] 47)) ⟨w.heap.size, 2, none⟩ = some (.slice ad n c) := by go_cell
  have d0 : World.cell? ((w.alloc (.cells #[.int .i64 i, .int .i64 j, .slice ad n c] 47)).alloc (.cells #[.int .i64 0, .int .i64 0, .slice none 0 0] 47)) ⟨w.heap.size + 1, 0, none⟩ = some (.int .i64 0) := by go_cell
  have d1 : World.cell? ((w.alloc (.cells #[.int .i64 i, .int .i64 j, .slice ad n c] 47)).alloc (.cells #[.int .i64 0, .int .i64 0, .slice none 0 0] 47)) ⟨w.heap.size + 1, 1, none⟩ = some (.int .i64 0) := by go_cell
  have d2 : World.cell? ((w.alloc (.cells #[.int .i64 i, .int .i64 j, .slice ad n c] 47)).alloc (.cells #[.int .i64 0, .int .i64 0, .slice none 0 0] 47)) ⟨w.heap.size + 1, 2, none⟩ = some (.slice none 0 0) := by go_cell
  have hD : ∀ o, World.frozen? ((w.alloc (.cells #[.int .i64 i, .int .i64 j, .slice ad n c] 47)).alloc (.cells #[.int .i64 0, .int .i64 0, .slice none 0 0] 47)) ⟨w.heap.size + 1, o, none⟩ = false := by
    intro o
    rw [World.frozen?_alloc_at]; simp
  have hsz : (World.heap ((w.alloc (.cells #[.int .i64 i, .int .i64 j, .slice ad n c] 47)).alloc (.cells #[.int .i64 0, .int .i64 0, .slice none 0 0] 47))).size = w.heap.size + 2 := by simp
  go_enter Try.func79, Try.ntmps79
  go_wp2_with ((go_at_call 34; refine (implValidTable_any i j _ xs _ hv1 HX.out).mono ?_; rw [HD.out]; rintro e w1 ⟨rfl, hb⟩); have e0 := cell_step c0 hb; have e1 := cell_step c1 hb; have e2 := cell_step c2 hb; have g0 := cell_step d0 hb; have g1 := cell_step d1 hb; have g2 := cell_step d2 hb; have z0 := (hb.frozen (p := ⟨w.heap.size + 1, 0, none⟩) (by show _ < _; rw [hsz]; simp)).trans (hD 0); have z1 := (hb.frozen (p := ⟨w.heap.size + 1, 1, none⟩) (by show _ < _; rw [hsz]; simp)).trans (hD 1); have z2 := (hb.frozen (p := ⟨w.heap.size + 1, 2, none⟩) (by show _ < _; rw [hsz]; simp)).trans (hD 2); have hb1 := hb0.trans (hb.mono hb0.size))
  refine bodyPost_ret (v := .tuple #[.agg #[.int .i64 i, .int .i64 j, (.slice ad n c)], .bool true]) (by simp [results, Try.results79, go_sem, *]) rfl ⟨rfl, ?_⟩
  exact ((hb1.setCell (p := ⟨w.heap.size + 1, 0, none⟩) (show w.heap.size ≤ w.heap.size + 1 by omega) _).setCell (p := ⟨w.heap.size + 1, 1, none⟩) (show w.heap.size ≤ w.heap.size + 1 by omega) _).setCell (p := ⟨w.heap.size + 1, 2, none⟩) (show w.heap.size ≤ w.heap.size + 1 by omega) _

set_option maxHeartbeats 1000000 in
theorem asTable_no (i j : Int) (hi : I64 i) (hj : I64 j) (v : Value) (xs : List Nat) (w : World) (hv : SlR w v (xs.map (Value.float .f32))) (hx : ∀ x ∈ xs, x < 4294967296) (hd : validTb i j xs = false) :
    Calls Try.prog 79 #[.agg #[.int .i64 i, .int .i64 j, v]] w fun e w' => e = .returned (.tuple #[.agg #[.int .i64 0, .int .i64 0, (.slice none 0 0)], .bool false]) ∧ Below w.heap.size w w' := by
  have HX := Lib.hid hx
  have HD := Lib.hid hd
  clear hx hd
  obtain ⟨ad, n, c, rfl, -⟩ := SlR.opened 0 hv
  have hb0 : Below w.heap.size w ((w.alloc (.cells #[.int .i64 i, .int .i64 j, .slice ad n c] 47)).alloc (.cells #[.int .i64 0, .int .i64 0, .slice none 0 0] 47)) := by go_grown
  have hv1 := hv.below hb0
  have c0 : World.cell? ((w.alloc (.cells #[.int .i64 i, .int .i64 j, .slice ad n c] 47)).alloc (.cells #[.int .i64 0, .int .i64 0, .slice none 0 0] 47)) ⟨w.heap.size, 0, none⟩ = some (.int .i64 i) := by go_cell
  have c1 : World.cell? ((w.alloc (.cells #[.int .i64 i, .int .i64 j, .slice ad n c] 47)).alloc (.cells #[.int .i64 0, .int .i64 0, .slice none 0 0] 47)) ⟨w.heap.size, 1, none⟩ = some (.int .i64 j) := by go_cell
  have c2 : World.cell? ((w.alloc (.cells #[.int .i64 i, .int .i64 j, .slice ad n c] 47)).alloc (.cells #[.int .i64 0, .int .i64 0, .slice none 0 0] 47)) ⟨w.heap.size, 2, none⟩ = some (.slice ad n c) := by go_cell
  have d0 : World.cell? ((w.alloc (.cells #[.int .i64 i, .int .i64 j, .slice ad n c] 47)).alloc (.cells #[.int .i64 0, .int .i64 0, .slice none 0 0] 47)) ⟨w.heap.size + 1, 0, none⟩ = some (.int .i64 0) := by go_cell
  have d1 : World.cell? ((w.alloc (.cells #[.int .i64 i, .int .i64 j, .slice ad n c] 47)).alloc (.cells #[.int .i64 0, .int .i64 0, .slice none 0 0] 47)) ⟨w.heap.size + 1, 1, none⟩ = some (.int .i64 0) := by go_cell
  have d2 : World.cell? ((w.alloc (.cells #[.int .i64 i, .int .i64 j, .slice ad n c] 47)).alloc (.cells #[.int .i64 0, .int .i64 0, .slice none 0 0] 47)) ⟨w.heap.size + 1, 2, none⟩ = some (.slice none 0 0) := by go_cell
  have hD : ∀ o, World.frozen? ((w.alloc (.cells #[.int .i64 i, .int .i64 j, .slice ad n c] 47)).alloc (.cells #[.int .i64 0, .int .i64 0, .slice none 0 0] 47)) ⟨w.heap.size + 1, o, none⟩ = false := by
    intro o
    rw [World.frozen?_alloc_at]; simp
  have hsz : (World.heap ((w.alloc (.cells #[.int .i64 i, .int .i64 j, .slice ad n c] 47)).alloc (.cells #[.int .i64 0, .int .i64 0, .slice none 0 0] 47))).size = w.heap.size + 2 := by simp
  go_enter Try.func79, Try.ntmps79
  go_wp2_with ((go_at_call 34; refine (implValidTable_any i j _ xs _ hv1 HX.out).mono ?_; rw [HD.out]; rintro e w1 ⟨rfl, hb⟩); have e0 := cell_step c0 hb; have e1 := cell_step c1 hb; have e2 := cell_step c2 hb; have g0 := cell_step d0 hb; have g1 := cell_step d1 hb; have g2 := cell_step d2 hb; have z0 := (hb.frozen (p := ⟨w.heap.size + 1, 0, none⟩) (by show _ < _; rw [hsz]; simp)).trans (hD 0); have z1 := (hb.frozen (p := ⟨w.heap.size + 1, 1, none⟩) (by show _ < _; rw [hsz]; simp)).trans (hD 1); have z2 := (hb.frozen (p := ⟨w.heap.size + 1, 2, none⟩) (by show _ < _; rw [hsz]; simp)).trans (hD 2); have hb1 := hb0.trans (hb.mono hb0.size))
  refine bodyPost_ret (v := .tuple #[.agg #[.int .i64 0, .int .i64 0, (.slice none 0 0)], .bool false]) (by simp [results, Try.results79, go_sem, *]) rfl ⟨rfl, ?_⟩
  exact ((hb1.setCell (p := ⟨w.heap.size + 1, 0, none⟩) (show w.heap.size ≤ w.heap.size + 1 by omega) _).setCell (p := ⟨w.heap.size + 1, 1, none⟩) (show w.heap.size ≤ w.heap.size + 1 by omega) _).setCell (p := ⟨w.heap.size + 1, 2, none⟩) (show w.heap.size ≤ w.heap.size + 1 by omega) _

set_option maxHeartbeats 1000000 in
theorem l02GiveTable_yes (i j : Int) (hi : I64 i) (hj : I64 j) (v : Value) (xs : List Nat) (w : World) (hv : SlR w v (xs.map (Value.float .f32))) (hx : ∀ x ∈ xs, x < 4294967296) (hd : validTb i j xs = true) :
    Calls Try.prog 91 #[.agg #[.int .i64 i, .int .i64 j, v]] w fun e w' => e = .returned (.tuple #[.agg #[.int .i64 i, .int .i64 j, v], .bool true]) ∧ Below w.heap.size w w' := by
  have HX := Lib.hid hx
  have HD := Lib.hid hd
  clear hx hd
  obtain ⟨ad, n, c, rfl, -⟩ := SlR.opened 0 hv
  have hb0 : Below w.heap.size w ((w.alloc (.cells #[.int .i64 i, .int .i64 j, .slice ad n c] 47)).alloc (.cells #[.int .i64 0, .int .i64 0, .slice none 0 0] 47)) := by go_grown
  have hv1 := hv.below hb0
  have c0 : World.cell? ((w.alloc (.cells #[.int .i64 i, .int .i64 j, .slice ad n c] 47)).alloc (.cells #[.int .i64 0, .int .i64 0, .slice none 0 0] 47)) ⟨w.heap.size, 0, none⟩ = some (.int .i64 i) := by go_cell
  have c1 : World.cell? ((w.alloc (.cells #[.int .i64 i, .int .i64 j, .slice ad n c] 47)).alloc (.cells #[.int .i64 0, .int .i64 0, .slice none 0 0] 47)) ⟨w.heap.size, 1, none⟩ = some (.int .i64 j) := by go_cell
  have c2 : World.cell? ((w.alloc (.cells #[.int .i64 i, .int .i64 j, .slice ad n c] 47)).alloc (.cells #[.int .i64 0, .int .i64 0, .slice none 0 0] 47)) ⟨w.heap.size, 2, none⟩ = some (.slice ad n c) := by go_cell
  have d0 : World.cell? ((w.alloc (.cells #[.int .i64 i, .int .i64 j, .slice ad n c] 47)).alloc (.cells #[.int .i64 0, .int .i64 0, .slice none 0 0] 47)) ⟨w.heap.size + 1, 0, none⟩ = some (.int .i64 0) := by go_cell
  have d1 : World.cell? ((w.alloc (.cells #[.int .i64 i, .int .i64 j, .slice ad n c] 47)).alloc (.cells #[.int .i64 0, .int .i64 0, .slice none 0 0] 47)) ⟨w.heap.size + 1, 1, none⟩ = some (.int .i64 0) := by go_cell
  have d2 : World.cell? ((w.alloc (.cells #[.int .i64 i, .int .i64 j, .slice ad n c] 47)).alloc (.cells #[.int .i64 0, .int .i64 0, .slice none 0 0] 47)) ⟨w.heap.size + 1, 2, none⟩ = some (.slice none 0 0) := by go_cell
  have hD : ∀ o, World.frozen? ((w.alloc (.cells #[.int .i64 i, .int .i64 j, .slice ad n c] 47)).alloc (.cells #[.int .i64 0, .int .i64 0, .slice none 0 0] 47)) ⟨w.heap.size + 1, o, none⟩ = false := by
    intro o
    rw [World.frozen?_alloc_at]; simp
  have hsz : (World.heap ((w.alloc (.cells #[.int .i64 i, .int .i64 j, .slice ad n c] 47)).alloc (.cells #[.int .i64 0, .int .i64 0, .slice none 0 0] 47))).size = w.heap.size + 2 := by simp
  go_enter Try.func91, Try.ntmps91
  go_wp2_with ((go_at_call 90; refine (l02Table_any _ i j _ xs _ c0 c1 c2 hv1 HX.out).mono ?_; rw [HD.out]; rintro e w1 ⟨rfl, hqu⟩; have hb := hqu.keep; clear hqu); have e0 := cell_step c0 hb; have e1 := cell_step c1 hb; have e2 := cell_step c2 hb; have g0 := cell_step d0 hb; have g1 := cell_step d1 hb; have g2 := cell_step d2 hb; have z0 := (hb.frozen (p := ⟨w.heap.size + 1, 0, none⟩) (by show _ < _; rw [hsz]; simp)).trans (hD 0); have z1 := (hb.frozen (p := ⟨w.heap.size + 1, 1, none⟩) (by show _ < _; rw [hsz]; simp)).trans (hD 1); have z2 := (hb.frozen (p := ⟨w.heap.size + 1, 2, none⟩) (by show _ < _; rw [hsz]; simp)).trans (hD 2); have hb1 := hb0.trans (hb.mono hb0.size))
  refine bodyPost_ret (v := .tuple #[.agg #[.int .i64 i, .int .i64 j, (.slice ad n c)], .bool true]) (by simp [results, Try.results91, go_sem, *]) rfl ⟨rfl, ?_⟩
  exact ((hb1.setCell (p := ⟨w.heap.size + 1, 0, none⟩) (show w.heap.size ≤ w.heap.size + 1 by omega) _).setCell (p := ⟨w.heap.size + 1, 1, none⟩) (show w.heap.size ≤ w.heap.size + 1 by omega) _).setCell (p := ⟨w.heap.size + 1, 2, none⟩) (show w.heap.size ≤ w.heap.size + 1 by omega) _

set_option maxHeartbeats 1000000 in
theorem l02GiveTable_no (i j : Int) (hi : I64 i) (hj : I64 j) (v : Value) (xs : List Nat) (w : World) (hv : SlR w v (xs.map (Value.float .f32))) (hx : ∀ x ∈ xs, x < 4294967296) (hd : validTb i j xs = false) :
    Calls Try.prog 91 #[.agg #[.int .i64 i, .int .i64 j, v]] w fun e w' => e = .returned (.tuple #[.agg #[.int .i64 0, .int .i64 0, (.slice none 0 0)], .bool false]) ∧ Below w.heap.size w w' := by
  have HX := Lib.hid hx
  have HD := Lib.hid hd
  clear hx hd
  obtain ⟨ad, n, c, rfl, -⟩ := SlR.opened 0 hv
  have hb0 : Below w.heap.size w ((w.alloc (.cells #[.int .i64 i, .int .i64 j, .slice ad n c] 47)).alloc (.cells #[.int .i64 0, .int .i64 0, .slice none 0 0] 47)) := by go_grown
  have hv1 := hv.below hb0
  have c0 : World.cell? ((w.alloc (.cells #[.int .i64 i, .int .i64 j, .slice ad n c] 47)).alloc (.cells #[.int .i64 0, .int .i64 0, .slice none 0 0] 47)) ⟨w.heap.size, 0, none⟩ = some (.int .i64 i) := by go_cell
  have c1 : World.cell? ((w.alloc (.cells #[.int .i64 i, .int .i64 j, .slice ad n c] 47)).alloc (.cells #[.int .i64 0, .int .i64 0, .slice none 0 0] 47)) ⟨w.heap.size, 1, none⟩ = some (.int .i64 j) := by go_cell
  have c2 : World.cell? ((w.alloc (.cells #[.int .i64 i, .int .i64 j, .slice ad n c] 47)).alloc (.cells #[.int .i64 0, .int .i64 0, .slice none 0 0] 47)) ⟨w.heap.size, 2, none⟩ = some (.slice ad n c) := by go_cell
  have d0 : World.cell? ((w.alloc (.cells #[.int .i64 i, .int .i64 j, .slice ad n c] 47)).alloc (.cells #[.int .i64 0, .int .i64 0, .slice none 0 0] 47)) ⟨w.heap.size + 1, 0, none⟩ = some (.int .i64 0) := by go_cell
  have d1 : World.cell? ((w.alloc (.cells #[.int .i64 i, .int .i64 j, .slice ad n c] 47)).alloc (.cells #[.int .i64 0, .int .i64 0, .slice none 0 0] 47)) ⟨w.heap.size + 1, 1, none⟩ = some (.int .i64 0) := by go_cell
  have d2 : World.cell? ((w.alloc (.cells #[.int .i64 i, .int .i64 j, .slice ad n c] 47)).alloc (.cells #[.int .i64 0, .int .i64 0, .slice none 0 0] 47)) ⟨w.heap.size + 1, 2, none⟩ = some (.slice none 0 0) := by go_cell
  have hD : ∀ o, World.frozen? ((w.alloc (.cells #[.int .i64 i, .int .i64 j, .slice ad n c] 47)).alloc (.cells #[.int .i64 0, .int .i64 0, .slice none 0 0] 47)) ⟨w.heap.size + 1, o, none⟩ = false := by
    intro o
    rw [World.frozen?_alloc_at]; simp
  have hsz : (World.heap ((w.alloc (.cells #[.int .i64 i, .int .i64 j, .slice ad n c] 47)).alloc (.cells #[.int .i64 0, .int .i64 0, .slice none 0 0] 47))).size = w.heap.size + 2 := by simp
  go_enter Try.func91, Try.ntmps91
  go_wp2_with ((go_at_call 90; refine (l02Table_any _ i j _ xs _ c0 c1 c2 hv1 HX.out).mono ?_; rw [HD.out]; rintro e w1 ⟨rfl, hqu⟩; have hb := hqu.keep; clear hqu); have e0 := cell_step c0 hb; have e1 := cell_step c1 hb; have e2 := cell_step c2 hb; have g0 := cell_step d0 hb; have g1 := cell_step d1 hb; have g2 := cell_step d2 hb; have z0 := (hb.frozen (p := ⟨w.heap.size + 1, 0, none⟩) (by show _ < _; rw [hsz]; simp)).trans (hD 0); have z1 := (hb.frozen (p := ⟨w.heap.size + 1, 1, none⟩) (by show _ < _; rw [hsz]; simp)).trans (hD 1); have z2 := (hb.frozen (p := ⟨w.heap.size + 1, 2, none⟩) (by show _ < _; rw [hsz]; simp)).trans (hD 2); have hb1 := hb0.trans (hb.mono hb0.size))
  refine bodyPost_ret (v := .tuple #[.agg #[.int .i64 0, .int .i64 0, (.slice none 0 0)], .bool false]) (by simp [results, Try.results91, go_sem, *]) rfl ⟨rfl, ?_⟩
  exact ((hb1.setCell (p := ⟨w.heap.size + 1, 0, none⟩) (show w.heap.size ≤ w.heap.size + 1 by omega) _).setCell (p := ⟨w.heap.size + 1, 1, none⟩) (show w.heap.size ≤ w.heap.size + 1 by omega) _).setCell (p := ⟨w.heap.size + 1, 2, none⟩) (show w.heap.size ≤ w.heap.size + 1 by omega) _

end Go.Proofs.Ytmocfnpbofeiiaa
