/- A code that is handed on if it is valid (for seats without SurpriseCode). -/
import Derived.Test.YtcgenmkgdhaejaaCtr2
namespace Go.Proofs.Ytcgenmkgdhaejaa
set_option linter.unusedSimpArgs false
set_option linter.unusedVariables false
open Go.RowKit

set_option maxHeartbeats 1000000 in
theorem asCode_yes (v : Value) (xs : List Int) (w : World) (hv : SlR w v (xs.map (Value.int .i64))) (ht : validC xs = true) :
    Calls Try.prog 38 #[v] w fun e w' => e = .returned (.tuple #[.agg #[v], .bool true]) ∧ Below w.heap.size w w' := by
  have HT := Lib.hid ht
  clear ht
  obtain ⟨a, n, c, rfl, -⟩ := SlR.opened 0 hv
  have hb0 : Below w.heap.size w ((w.alloc (.cells #[.slice none 0 0] 24)).alloc (.cells #[.slice a n c] 24)) := by go_grown
  have hv1 := hv.below hb0
  have c0 : World.cell? ((w.alloc (.cells #[.slice none 0 0] 24)).alloc (.cells #[.slice a n c] 24)) ⟨w.heap.size + 1, 0, none⟩ = some (.slice a n c) := by go_cell
  have d0 : World.cell? ((w.alloc (.cells #[.slice none 0 0] 24)).alloc (.cells #[.slice a n c] 24)) ⟨w.heap.size, 0, none⟩ = some (.slice none 0 0) := by go_cell
  have hD : World.frozen? ((w.alloc (.cells #[.slice none 0 0] 24)).alloc (.cells #[.slice a n c] 24)) ⟨w.heap.size, 0, none⟩ = false := by simp
  have hsz : (World.heap ((w.alloc (.cells #[.slice none 0 0] 24)).alloc (.cells #[.slice a n c] 24))).size = w.heap.size + 2 := by simp
  go_enter Try.func38, Try.ntmps38
  go_wp2_with (go_at_call 76; refine (implValidCode_any _ xs _ hv1).mono ?_; rw [HT.out]; rintro e w1 ⟨rfl, hb⟩; skip; have e0 := cell_step c0 hb; have g0 := cell_step d0 hb; have z0 := (hb.frozen (p := ⟨w.heap.size, 0, none⟩) (by show _ < _; rw [hsz]; simp)).trans hD; have hb1 := hb0.trans (hb.mono hb0.size))
  refine bodyPost_ret (v := .tuple #[.agg #[.slice a n c], .bool true]) (by simp [results, Try.results38, go_sem, *]) rfl ⟨rfl, ?_⟩
  exact hb1.setCell (p := ⟨w.heap.size, 0, none⟩) (Nat.le_refl _) _

set_option maxHeartbeats 1000000 in
theorem asCode_no (v : Value) (xs : List Int) (w : World) (hv : SlR w v (xs.map (Value.int .i64))) (ht : validC xs = false) :
    Calls Try.prog 38 #[v] w fun e w' => e = .returned (.tuple #[.agg #[.slice none 0 0], .bool false]) ∧ Below w.heap.size w w' := by
  have HT := Lib.hid ht
  clear ht
  obtain ⟨a, n, c, rfl, -⟩ := SlR.opened 0 hv
  have hb0 : Below w.heap.size w ((w.alloc (.cells #[.slice none 0 0] 24)).alloc (.cells #[.slice a n c] 24)) := by go_grown
  have hv1 := hv.below hb0
  have c0 : World.cell? ((w.alloc (.cells #[.slice none 0 0] 24)).alloc (.cells #[.slice a n c] 24)) ⟨w.heap.size + 1, 0, none⟩ = some (.slice a n c) := by go_cell
  have d0 : World.cell? ((w.alloc (.cells #[.slice none 0 0] 24)).alloc (.cells #[.slice a n c] 24)) ⟨w.heap.size, 0, none⟩ = some (.slice none 0 0) := by go_cell
  have hD : World.frozen? ((w.alloc (.cells #[.slice none 0 0] 24)).alloc (.cells #[.slice a n c] 24)) ⟨w.heap.size, 0, none⟩ = false := by simp
  have hsz : (World.heap ((w.alloc (.cells #[.slice none 0 0] 24)).alloc (.cells #[.slice a n c] 24))).size = w.heap.size + 2 := by simp
  go_enter Try.func38, Try.ntmps38
  go_wp2_with (go_at_call 76; refine (implValidCode_any _ xs _ hv1).mono ?_; rw [HT.out]; rintro e w1 ⟨rfl, hb⟩; skip; have e0 := cell_step c0 hb; have g0 := cell_step d0 hb; have z0 := (hb.frozen (p := ⟨w.heap.size, 0, none⟩) (by show _ < _; rw [hsz]; simp)).trans hD; have hb1 := hb0.trans (hb.mono hb0.size))
  refine bodyPost_ret (v := .tuple #[.agg #[.slice none 0 0], .bool false]) (by simp [results, Try.results38, go_sem, *]) rfl ⟨rfl, ?_⟩
  exact hb1.setCell (p := ⟨w.heap.size, 0, none⟩) (Nat.le_refl _) _

set_option maxHeartbeats 1000000 in
theorem l04Give_yes (v : Value) (xs : List Int) (w : World) (hv : SlR w v (xs.map (Value.int .i64))) (ht : validC xs = true) :
    Calls Try.prog 34 #[v] w fun e w' => e = .returned (.tuple #[.agg #[v], .bool true]) ∧ Below w.heap.size w w' := by
  have HT := Lib.hid ht
  clear ht
  obtain ⟨a, n, c, rfl, -⟩ := SlR.opened 0 hv
  have hb0 : Below w.heap.size w ((w.alloc (.cells #[.slice none 0 0] 24)).alloc (.cells #[.slice a n c] 24)) := by go_grown
  have hv1 := hv.below hb0
  have c0 : World.cell? ((w.alloc (.cells #[.slice none 0 0] 24)).alloc (.cells #[.slice a n c] 24)) ⟨w.heap.size + 1, 0, none⟩ = some (.slice a n c) := by go_cell
  have d0 : World.cell? ((w.alloc (.cells #[.slice none 0 0] 24)).alloc (.cells #[.slice a n c] 24)) ⟨w.heap.size, 0, none⟩ = some (.slice none 0 0) := by go_cell
  have hD : World.frozen? ((w.alloc (.cells #[.slice none 0 0] 24)).alloc (.cells #[.slice a n c] 24)) ⟨w.heap.size, 0, none⟩ = false := by simp
  have hsz : (World.heap ((w.alloc (.cells #[.slice none 0 0] 24)).alloc (.cells #[.slice a n c] 24))).size = w.heap.size + 2 := by simp
  go_enter Try.func34, Try.ntmps34
  go_wp2_with (go_at_call 74; refine (l04Is_any _ _ xs _ c0 hv1).mono ?_; rw [HT.out]; rintro e w1 ⟨rfl, hqu⟩; have hb := hqu.keep; have e0 := cell_step c0 hb; have g0 := cell_step d0 hb; have z0 := (hb.frozen (p := ⟨w.heap.size, 0, none⟩) (by show _ < _; rw [hsz]; simp)).trans hD; have hb1 := hb0.trans (hb.mono hb0.size))
  refine bodyPost_ret (v := .tuple #[.agg #[.slice a n c], .bool true]) (by simp [results, Try.results34, go_sem, *]) rfl ⟨rfl, ?_⟩
  exact hb1.setCell (p := ⟨w.heap.size, 0, none⟩) (Nat.le_refl _) _

set_option maxHeartbeats 1000000 in
theorem l04Give_no (v : Value) (xs : List Int) (w : World) (hv : SlR w v (xs.map (Value.int .i64))) (ht : validC xs = false) :
    Calls Try.prog 34 #[v] w fun e w' => e = .returned (.tuple #[.agg #[.slice none 0 0], .bool false]) ∧ Below w.heap.size w w' := by
  have HT := Lib.hid ht
  clear ht
  obtain ⟨a, n, c, rfl, -⟩ := SlR.opened 0 hv
  have hb0 : Below w.heap.size w ((w.alloc (.cells #[.slice none 0 0] 24)).alloc (.cells #[.slice a n c] 24)) := by go_grown
  have hv1 := hv.below hb0
  have c0 : World.cell? ((w.alloc (.cells #[.slice none 0 0] 24)).alloc (.cells #[.slice a n c] 24)) ⟨w.heap.size + 1, 0, none⟩ = some (.slice a n c) := by go_cell
  have d0 : World.cell? ((w.alloc (.cells #[.slice none 0 0] 24)).alloc (.cells #[.slice a n c] 24)) ⟨w.heap.size, 0, none⟩ = some (.slice none 0 0) := by go_cell
  have hD : World.frozen? ((w.alloc (.cells #[.slice none 0 0] 24)).alloc (.cells #[.slice a n c] 24)) ⟨w.heap.size, 0, none⟩ = false := by simp
  have hsz : (World.heap ((w.alloc (.cells #[.slice none 0 0] 24)).alloc (.cells #[.slice a n c] 24))).size = w.heap.size + 2 := by simp
  go_enter Try.func34, Try.ntmps34
  go_wp2_with (go_at_call 74; refine (l04Is_any _ _ xs _ c0 hv1).mono ?_; rw [HT.out]; rintro e w1 ⟨rfl, hqu⟩; have hb := hqu.keep; have e0 := cell_step c0 hb; have g0 := cell_step d0 hb; have z0 := (hb.frozen (p := ⟨w.heap.size, 0, none⟩) (by show _ < _; rw [hsz]; simp)).trans hD; have hb1 := hb0.trans (hb.mono hb0.size))
  refine bodyPost_ret (v := .tuple #[.agg #[.slice none 0 0], .bool false]) (by simp [results, Try.results34, go_sem, *]) rfl ⟨rfl, ?_⟩
  exact hb1.setCell (p := ⟨w.heap.size, 0, none⟩) (Nat.le_refl _) _

end Go.Proofs.Ytcgenmkgdhaejaa
