/- Tables turned, and the sums of columns. -/
import Derived.Test.YtmocfnpbofeiiaaMAsx
namespace Go.Proofs.Ytmocfnpbofeiiaa
set_option linter.unusedSimpArgs false
set_option linter.unusedVariables false
open Go.RowKit

def ttOk (i j : Int) (xs : List Nat) : Bool := validTb i j xs && validTb j i (turnOf xs j.toNat i.toNat j.toNat)
def out_TurnTable (i j : Int) (xs : List Nat) : Int × Int × List Nat × Bool := if ttOk i j xs then (j, i, turnOf xs j.toNat i.toNat j.toNat, true) else (0, 0, [], false)
theorem outTT_no {i j : Int} {xs : List Nat} (h : ttOk i j xs = false) : out_TurnTable i j xs = (0, 0, [], false) := by unfold out_TurnTable; rw [h]; rfl
theorem outTT_yes {a m : Nat} {xs : List Nat} (h : ttOk a m xs = true) : out_TurnTable a m xs = ((m : Int), (a : Int), turnOf xs m a m, true) := by unfold out_TurnTable; rw [h, Int.toNat_natCast, Int.toNat_natCast]; rfl
theorem len_TurnTable (i j : Int) (hi : I64 i) (hj : I64 j) (xs : List Nat) (_ : ∀ x ∈ xs, x < 4294967296) (_ : xs.length ≤ 1048576) : (out_TurnTable i j xs).2.2.1.length ≤ 1048576 := by
  unfold out_TurnTable
  split
  · rename_i h
    unfold ttOk at h
    rw [Bool.and_eq_true] at h
    obtain ⟨a, m, rfl, rfl, _, a2, _, m2, _, _⟩ := validTb_nat h.1
    show (turnOf _ _ _ _).length ≤ _
    rw [turnOf_length, Int.toNat_natCast, Int.toNat_natCast]
    have := prod_le m2 a2
    omega
  · exact Nat.zero_le _
theorem i64_nat {a : Nat} (h : a ≤ 8) : I64 a := ⟨by omega, by omega⟩
theorem turn_lt {xs : List Nat} {a m : Nat} (hx : ∀ x ∈ xs, x < 4294967296) (hl : xs.length = a * m) : ∀ x ∈ turnOf xs m a m, x < 4294967296 := fun x h => hx x (turnOf_mem (by omega) (Nat.le_refl _) h)

set_option maxHeartbeats 4000000 in
theorem impl_TurnTable (w : World) (i j : Int) (hi : I64 i) (hj : I64 j) (v : Value) (xs : List Nat) (hv : SlR w v (xs.map (Value.float .f32))) (hx : ∀ x ∈ xs, x < 4294967296) (_ : xs.length ≤ 1048576) :
    Calls Try.prog 29 #[.agg #[.int .i64 i, .int .i64 j, v]] w (RetSl w 32 (out_TurnTable i j xs).2.2.1.length ((out_TurnTable i j xs).2.2.1.map (Value.float .f32)) (fun v => .tuple #[.agg #[.int .i64 (out_TurnTable i j xs).1, .int .i64 (out_TurnTable i j xs).2.1, v], .bool (out_TurnTable i j xs).2.2.2])) := by
  have HX := Lib.hid hx
  obtain ⟨ad, n, c, rfl, -⟩ := SlR.opened 0 hv
  have hb0 : Below w.heap.size w ((w.alloc (.cells #[.int .i64 i, .int .i64 j, .slice ad n c] 47)).alloc (.cells #[.int .i64 0, .int .i64 0, .slice none 0 0] 47)) := by go_grown
  have hv1 := hv.below hb0
  have c0 : World.cell? ((w.alloc (.cells #[.int .i64 i, .int .i64 j, .slice ad n c] 47)).alloc (.cells #[.int .i64 0, .int .i64 0, .slice none 0 0] 47)) ⟨w.heap.size, 0, none⟩ = some (.int .i64 i) := by go_cell
  have c1 : World.cell? ((w.alloc (.cells #[.int .i64 i, .int .i64 j, .slice ad n c] 47)).alloc (.cells #[.int .i64 0, .int .i64 0, .slice none 0 0] 47)) ⟨w.heap.size, 1, none⟩ = some (.int .i64 j) := by go_cell
  have c2 : World.cell? ((w.alloc (.cells #[.int .i64 i, .int .i64 j, .slice ad n c] 47)).alloc (.cells #[.int .i64 0, .int .i64 0, .slice none 0 0] 47)) ⟨w.heap.size, 2, none⟩ = some (.slice ad n c) := by go_cell
  have d0 : World.cell? ((w.alloc (.cells #[.int .i64 i, .int .i64 j, .slice ad n c] 47)).alloc (.cells #[.int .i64 0, .int .i64 0, .slice none 0 0] 47)) ⟨w.heap.size + 1, 0, none⟩ = some (.int .i64 0) := by go_cell
  have d1 : World.cell? ((w.alloc (.cells #[.int .i64 i, .int .i64 j, .slice ad n c] 47)).alloc (.cells #[.int .i64 0, .int .i64 0, .slice none 0 0] 47)) ⟨w.heap.size + 1, 1, none⟩ = some (.int .i64 0) := by go_cell
  have d2 : World.cell? ((w.alloc (.cells #[.int .i64 i, .int .i64 j, .slice ad n c] 47)).alloc (.cells #[.int .i64 0, .int .i64 0, .slice none 0 0] 47)) ⟨w.heap.size + 1, 2, none⟩ = some (.slice none 0 0) := by go_cell
  have hD : ∀ o, World.frozen? ((w.alloc (.cells #[.int .i64 i, .int .i64 j, .slice ad n c] 47)).alloc (.cells #[.int .i64 0, .int .i64 0, .slice none 0 0] 47)) ⟨w.heap.size + 1, o, none⟩ = false := by
    intro o
    rw [World.frozen?_alloc_at]; simp
  have hsz : (World.heap ((w.alloc (.cells #[.int .i64 i, .int .i64 j, .slice ad n c] 47)).alloc (.cells #[.int .i64 0, .int .i64 0, .slice none 0 0] 47))).size = w.heap.size + 2 := by simp
  generalize hd : validTb i j xs = d
  have HD := Lib.hid hd
  cases d
  · rw [outTT_no (by unfold ttOk; rw [hd]; rfl)]
    clear hd hx
    go_enter Try.func29, Try.ntmps29
    go_wp2_with (go_at_call 34; refine (implValidTable_any _ _ _ xs _ hv1 HX.out).mono ?_; rw [HD.out]; rintro e w1 ⟨rfl, hb⟩; have e0 := cell_step c0 hb; have e1 := cell_step c1 hb; have e2 := cell_step c2 hb; have g0 := cell_step d0 hb; have g1 := cell_step d1 hb; have g2 := cell_step d2 hb; have z0 := (hb.frozen (p := ⟨w.heap.size + 1, 0, none⟩) (by show _ < _; rw [hsz]; simp)).trans (hD 0); have z1 := (hb.frozen (p := ⟨w.heap.size + 1, 1, none⟩) (by show _ < _; rw [hsz]; simp)).trans (hD 1); have z2 := (hb.frozen (p := ⟨w.heap.size + 1, 2, none⟩) (by show _ < _; rw [hsz]; simp)).trans (hD 2); have hb1 := hb0.trans (hb.mono hb0.size); have hv2 := hv1.below hb; have hs1 : w.heap.size + 2 ≤ w1.heap.size := (by have := hb.size; rw [hsz] at this; exact this); clear hb)
    refine bodyPost_ret (v := .tuple #[.agg #[.int .i64 0, .int .i64 0, .slice none 0 0], .bool false]) (by simp [results, Try.results29, go_sem, *]) rfl ?_
    exact RetSl.none (f := fun v => .tuple #[.agg #[.int .i64 0, .int .i64 0, v], .bool false]) (((hb1.setCell (p := ⟨w.heap.size + 1, 0, none⟩) (show w.heap.size ≤ w.heap.size + 1 by omega) _).setCell (p := ⟨w.heap.size + 1, 1, none⟩) (show w.heap.size ≤ w.heap.size + 1 by omega) _).setCell (p := ⟨w.heap.size + 1, 2, none⟩) (show w.heap.size ≤ w.heap.size + 1 by omega) _)
  · obtain ⟨a, m, rfl, rfl, a1, a2, m1, m2, hl, ho⟩ := validTb_nat hd
    have HL := Lib.hid hl
    have HTL := Lib.hid (turn_lt hx hl)
    cases hr : validTb (m : Int) (a : Int) (turnOf xs m a m)
    · rw [outTT_no (by unfold ttOk; rw [Int.toNat_natCast, Int.toNat_natCast, hr]; simp)]
      have HR := Lib.hid hr
      clear hd ho hr hl hx
      go_enter Try.func29, Try.ntmps29
      go_wp2_with (first | (go_at_call 34; refine (implValidTable_any _ _ _ xs _ hv1 HX.out).mono ?_; rw [HD.out]; rintro e w1 ⟨rfl, hb⟩; have e0 := cell_step c0 hb; have e1 := cell_step c1 hb; have e2 := cell_step c2 hb; have g0 := cell_step d0 hb; have g1 := cell_step d1 hb; have g2 := cell_step d2 hb; have z0 := (hb.frozen (p := ⟨w.heap.size + 1, 0, none⟩) (by show _ < _; rw [hsz]; simp)).trans (hD 0); have z1 := (hb.frozen (p := ⟨w.heap.size + 1, 1, none⟩) (by show _ < _; rw [hsz]; simp)).trans (hD 1); have z2 := (hb.frozen (p := ⟨w.heap.size + 1, 2, none⟩) (by show _ < _; rw [hsz]; simp)).trans (hD 2); have hb1 := hb0.trans (hb.mono hb0.size); have hv2 := hv1.below hb; have hs1 : w.heap.size + 2 ≤ w1.heap.size := (by have := hb.size; rw [hsz] at this; exact this); clear hb) | (go_at_call 78; refine (turned_any a m _ xs _ hv2 a1 a2 m1 m2 HL.out).mono ?_; rintro e w2 ⟨at2, ct2, rfl, hop, hb2⟩; have g0 := cell_step g0 hb2; have g1 := cell_step g1 hb2; have g2 := cell_step g2 hb2; have z0 := (hb2.frozen (p := ⟨w.heap.size + 1, 0, none⟩) (show w.heap.size + 1 < w1.heap.size by omega)).trans z0; have z1 := (hb2.frozen (p := ⟨w.heap.size + 1, 1, none⟩) (show w.heap.size + 1 < w1.heap.size by omega)).trans z1; have z2 := (hb2.frozen (p := ⟨w.heap.size + 1, 2, none⟩) (show w.heap.size + 1 < w1.heap.size by omega)).trans z2; have hb3 := hb1.trans (hb2.mono hb1.size); have hs2 := hb2.size) | (go_at_call 79; refine (asTable_no (m : Int) (a : Int) (i64_nat m2) (i64_nat a2) _ (turnOf xs m a m) _ (SlR.own hop) HTL.out HR.out).mono ?_; rintro e w3 ⟨rfl, hb4⟩; have g0 := cell_step g0 hb4; have g1 := cell_step g1 hb4; have g2 := cell_step g2 hb4; have z0 := (hb4.frozen (p := ⟨w.heap.size + 1, 0, none⟩) (show w.heap.size + 1 < w2.heap.size by omega)).trans z0; have z1 := (hb4.frozen (p := ⟨w.heap.size + 1, 1, none⟩) (show w.heap.size + 1 < w2.heap.size by omega)).trans z1; have z2 := (hb4.frozen (p := ⟨w.heap.size + 1, 2, none⟩) (show w.heap.size + 1 < w2.heap.size by omega)).trans z2; have hb5 := hb3.trans (hb4.mono hb3.size); have hop5 := ownsRow_below hop hb4))
      refine bodyPost_ret (v := .tuple #[.agg #[.int .i64 0, .int .i64 0, .slice none 0 0], .bool false]) (by simp [results, Try.results29, go_sem, *]) rfl ?_
      exact RetSl.none (f := fun v => .tuple #[.agg #[.int .i64 0, .int .i64 0, v], .bool false]) (((hb5.setCell (p := ⟨w.heap.size + 1, 0, none⟩) (show w.heap.size ≤ w.heap.size + 1 by omega) _).setCell (p := ⟨w.heap.size + 1, 1, none⟩) (show w.heap.size ≤ w.heap.size + 1 by omega) _).setCell (p := ⟨w.heap.size + 1, 2, none⟩) (show w.heap.size ≤ w.heap.size + 1 by omega) _)
    · rw [outTT_yes (by unfold ttOk; rw [hd, Int.toNat_natCast, Int.toNat_natCast, hr]; rfl)]
      have HR := Lib.hid hr
      clear hd ho hr hl hx
      dsimp only
      go_enter Try.func29, Try.ntmps29
      go_wp2_with (first | (go_at_call 34; refine (implValidTable_any _ _ _ xs _ hv1 HX.out).mono ?_; rw [HD.out]; rintro e w1 ⟨rfl, hb⟩; have e0 := cell_step c0 hb; have e1 := cell_step c1 hb; have e2 := cell_step c2 hb; have g0 := cell_step d0 hb; have g1 := cell_step d1 hb; have g2 := cell_step d2 hb; have z0 := (hb.frozen (p := ⟨w.heap.size + 1, 0, none⟩) (by show _ < _; rw [hsz]; simp)).trans (hD 0); have z1 := (hb.frozen (p := ⟨w.heap.size + 1, 1, none⟩) (by show _ < _; rw [hsz]; simp)).trans (hD 1); have z2 := (hb.frozen (p := ⟨w.heap.size + 1, 2, none⟩) (by show _ < _; rw [hsz]; simp)).trans (hD 2); have hb1 := hb0.trans (hb.mono hb0.size); have hv2 := hv1.below hb; have hs1 : w.heap.size + 2 ≤ w1.heap.size := (by have := hb.size; rw [hsz] at this; exact this); clear hb) | (go_at_call 78; refine (turned_any a m _ xs _ hv2 a1 a2 m1 m2 HL.out).mono ?_; rintro e w2 ⟨at2, ct2, rfl, hop, hb2⟩; have g0 := cell_step g0 hb2; have g1 := cell_step g1 hb2; have g2 := cell_step g2 hb2; have z0 := (hb2.frozen (p := ⟨w.heap.size + 1, 0, none⟩) (show w.heap.size + 1 < w1.heap.size by omega)).trans z0; have z1 := (hb2.frozen (p := ⟨w.heap.size + 1, 1, none⟩) (show w.heap.size + 1 < w1.heap.size by omega)).trans z1; have z2 := (hb2.frozen (p := ⟨w.heap.size + 1, 2, none⟩) (show w.heap.size + 1 < w1.heap.size by omega)).trans z2; have hb3 := hb1.trans (hb2.mono hb1.size); have hs2 := hb2.size) | (go_at_call 79; refine (asTable_yes (m : Int) (a : Int) (i64_nat m2) (i64_nat a2) _ (turnOf xs m a m) _ (SlR.own hop) HTL.out HR.out).mono ?_; rintro e w3 ⟨rfl, hb4⟩; have g0 := cell_step g0 hb4; have g1 := cell_step g1 hb4; have g2 := cell_step g2 hb4; have z0 := (hb4.frozen (p := ⟨w.heap.size + 1, 0, none⟩) (show w.heap.size + 1 < w2.heap.size by omega)).trans z0; have z1 := (hb4.frozen (p := ⟨w.heap.size + 1, 1, none⟩) (show w.heap.size + 1 < w2.heap.size by omega)).trans z1; have z2 := (hb4.frozen (p := ⟨w.heap.size + 1, 2, none⟩) (show w.heap.size + 1 < w2.heap.size by omega)).trans z2; have hb5 := hb3.trans (hb4.mono hb3.size); have hop5 := ownsRow_below hop hb4))
      refine bodyPost_ret (v := .tuple #[.agg #[.int .i64 (m : Int), .int .i64 (a : Int), .slice at2 (turnOf xs m a m).length ct2], .bool true]) (by simp [results, Try.results29, go_sem, *]) rfl ?_
      have o1 := ownsRow_setCell_below (a := ⟨w.heap.size + 1, 0, none⟩) hop5 (show w.heap.size + 1 < w1.heap.size by omega) (.int .i64 (m : Int))
      have o2 := ownsRow_setCell_below (a := ⟨w.heap.size + 1, 1, none⟩) o1 (show w.heap.size + 1 < w1.heap.size by omega) (.int .i64 (a : Int))
      have o3 := ownsRow_setCell_below (a := ⟨w.heap.size + 1, 2, none⟩) o2 (show w.heap.size + 1 < w1.heap.size by omega) (.slice at2 (turnOf xs m a m).length ct2)
      exact RetSl.mk (f := fun v => .tuple #[.agg #[.int .i64 (m : Int), .int .i64 (a : Int), v], .bool true]) (ownsRow_base o3 (by omega)) (((hb5.setCell (p := ⟨w.heap.size + 1, 0, none⟩) (show w.heap.size ≤ w.heap.size + 1 by omega) _).setCell (p := ⟨w.heap.size + 1, 1, none⟩) (show w.heap.size ≤ w.heap.size + 1 by omega) _).setCell (p := ⟨w.heap.size + 1, 2, none⟩) (show w.heap.size ≤ w.heap.size + 1 by omega) _)

set_option maxHeartbeats 4000000 in
theorem spec_TurnTable (w : World) (i j : Int) (hi : I64 i) (hj : I64 j) (v : Value) (xs : List Nat) (hv : SlR w v (xs.map (Value.float .f32))) (hx : ∀ x ∈ xs, x < 4294967296) (_ : xs.length ≤ 1048576) :
    Calls Try.prog 42 #[.agg #[.int .i64 i, .int .i64 j, v]] w (RetRd w (out_TurnTable i j xs).2.2.1.length ((out_TurnTable i j xs).2.2.1.map (Value.float .f32)) (fun v => .tuple #[.agg #[.int .i64 (out_TurnTable i j xs).1, .int .i64 (out_TurnTable i j xs).2.1, v], .bool (out_TurnTable i j xs).2.2.2])) := by
  refine Calls.mono (R := RetSl w 32 (out_TurnTable i j xs).2.2.1.length ((out_TurnTable i j xs).2.2.1.map (Value.float .f32)) (fun v => .tuple #[.agg #[.int .i64 (out_TurnTable i j xs).1, .int .i64 (out_TurnTable i j xs).2.1, v], .bool (out_TurnTable i j xs).2.2.2])) ?_ (fun e w' h => RetSl.rd h)
  have HX := Lib.hid hx
  obtain ⟨ad, n, c, rfl, -⟩ := SlR.opened 0 hv
  have hb0 : Below w.heap.size w ((w.alloc (.cells #[.int .i64 i, .int .i64 j, .slice ad n c] 47)).alloc (.cells #[.int .i64 0, .int .i64 0, .slice none 0 0] 47)) := by go_grown
  have hv1 := hv.below hb0
  have c0 : World.cell? ((w.alloc (.cells #[.int .i64 i, .int .i64 j, .slice ad n c] 47)).alloc (.cells #[.int .i64 0, .int .i64 0, .slice none 0 0] 47)) ⟨w.heap.size, 0, none⟩ = some (.int .i64 i) := by go_cell
  have c1 : World.cell? ((w.alloc (.cells #[.int .i64 i, .int .i64 j, .slice ad n c] 47)).alloc (.cells #[.int .i64 0, .int .i64 0, .slice none 0 0] 47)) ⟨w.heap.size, 1, none⟩ = some (.int .i64 j) := by go_cell
  have c2 : World.cell? ((w.alloc (.cells #[.int .i64 i, .int .i64 j, .slice ad n c] 47)).alloc (.cells #[.int .i64 0, .int .i64 0, .slice none 0 0] 47)) ⟨w.heap.size, 2, none⟩ = some (.slice ad n c) := by go_cell
  have d0 : World.cell? ((w.alloc (.cells #[.int .i64 i, .int .i64 j, .slice ad n c] 47)).alloc (.cells #[.int .i64 0, .int .i64 0, .slice none 0 0] 47)) ⟨w.heap.size + 1, 0, none⟩ = some (.int .i64 0) := by go_cell
  have d1 : World.cell? ((w.alloc (.cells #[.int .i64 i, .int .i64 j, .slice ad n c] 47)).alloc (.cells #[.int .i64 0, .int .i64 0, .slice none 0 0] 47)) ⟨w.heap.size + 1, 1, none⟩ = some (.int .i64 0) := by go_cell
  have d2 : World.cell? ((w.alloc (.cells #[.int .i64 i, .int .i64 j, .slice ad n c] 47)).alloc (.cells #[.int .i64 0, .int .i64 0, .slice none 0 0] 47)) ⟨w.heap.size + 1, 2, none⟩ = some (.slice none 0 0) := by go_cell
  have hD : ∀ o, World.frozen? ((w.alloc (.cells #[.int .i64 i, .int .i64 j, .slice ad n c] 47)).alloc (.cells #[.int .i64 0, .int .i64 0, .slice none 0 0] 47)) ⟨w.heap.size + 1, o, none⟩ = false := by
    intro o
    rw [World.frozen?_alloc_at]; simp
  have hsz : (World.heap ((w.alloc (.cells #[.int .i64 i, .int .i64 j, .slice ad n c] 47)).alloc (.cells #[.int .i64 0, .int .i64 0, .slice none 0 0] 47))).size = w.heap.size + 2 := by simp
  generalize hd : validTb i j xs = d
  have HD := Lib.hid hd
  cases d
  · rw [outTT_no (by unfold ttOk; rw [hd]; rfl)]
    clear hd hx
    go_enter Try.func42, Try.ntmps42
    go_wp2_with (go_at_call 90; refine (l02Table_any _ _ _ _ xs _ c0 c1 c2 hv1 HX.out).mono ?_; rw [HD.out]; rintro e w1 ⟨rfl, hqu⟩; have hb := hqu.keep; clear hqu; have e0 := cell_step c0 hb; have e1 := cell_step c1 hb; have e2 := cell_step c2 hb; have g0 := cell_step d0 hb; have g1 := cell_step d1 hb; have g2 := cell_step d2 hb; have z0 := (hb.frozen (p := ⟨w.heap.size + 1, 0, none⟩) (by show _ < _; rw [hsz]; simp)).trans (hD 0); have z1 := (hb.frozen (p := ⟨w.heap.size + 1, 1, none⟩) (by show _ < _; rw [hsz]; simp)).trans (hD 1); have z2 := (hb.frozen (p := ⟨w.heap.size + 1, 2, none⟩) (by show _ < _; rw [hsz]; simp)).trans (hD 2); have hb1 := hb0.trans (hb.mono hb0.size); have hv2 := hv1.below hb; have hs1 : w.heap.size + 2 ≤ w1.heap.size := (by have := hb.size; rw [hsz] at this; exact this); clear hb)
    refine bodyPost_ret (v := .tuple #[.agg #[.int .i64 0, .int .i64 0, .slice none 0 0], .bool false]) (by simp [results, Try.results42, go_sem, *]) rfl ?_
    exact RetSl.none (f := fun v => .tuple #[.agg #[.int .i64 0, .int .i64 0, v], .bool false]) (((hb1.setCell (p := ⟨w.heap.size + 1, 0, none⟩) (show w.heap.size ≤ w.heap.size + 1 by omega) _).setCell (p := ⟨w.heap.size + 1, 1, none⟩) (show w.heap.size ≤ w.heap.size + 1 by omega) _).setCell (p := ⟨w.heap.size + 1, 2, none⟩) (show w.heap.size ≤ w.heap.size + 1 by omega) _)
  · obtain ⟨a, m, rfl, rfl, a1, a2, m1, m2, hl, ho⟩ := validTb_nat hd
    have HL := Lib.hid hl
    have HTL := Lib.hid (turn_lt hx hl)
    cases hr : validTb (m : Int) (a : Int) (turnOf xs m a m)
    · rw [outTT_no (by unfold ttOk; rw [Int.toNat_natCast, Int.toNat_natCast, hr]; simp)]
      have HR := Lib.hid hr
      clear hd ho hr hl hx
      go_enter Try.func42, Try.ntmps42
      go_wp2_with (first | (go_at_call 90; refine (l02Table_any _ _ _ _ xs _ c0 c1 c2 hv1 HX.out).mono ?_; rw [HD.out]; rintro e w1 ⟨rfl, hqu⟩; have hb := hqu.keep; clear hqu; have e0 := cell_step c0 hb; have e1 := cell_step c1 hb; have e2 := cell_step c2 hb; have g0 := cell_step d0 hb; have g1 := cell_step d1 hb; have g2 := cell_step d2 hb; have z0 := (hb.frozen (p := ⟨w.heap.size + 1, 0, none⟩) (by show _ < _; rw [hsz]; simp)).trans (hD 0); have z1 := (hb.frozen (p := ⟨w.heap.size + 1, 1, none⟩) (by show _ < _; rw [hsz]; simp)).trans (hD 1); have z2 := (hb.frozen (p := ⟨w.heap.size + 1, 2, none⟩) (by show _ < _; rw [hsz]; simp)).trans (hD 2); have hb1 := hb0.trans (hb.mono hb0.size); have hv2 := hv1.below hb; have hs1 : w.heap.size + 2 ≤ w1.heap.size := (by have := hb.size; rw [hsz] at this; exact this); clear hb) | (go_at_call 92; refine (l02Turn_any _ a m _ xs _ e0 e1 e2 hv2 a1 a2 m1 m2 HL.out).mono ?_; rintro e w2 ⟨at2, ct2, rfl, hop, hb2⟩; have g0 := cell_step g0 hb2; have g1 := cell_step g1 hb2; have g2 := cell_step g2 hb2; have z0 := (hb2.frozen (p := ⟨w.heap.size + 1, 0, none⟩) (show w.heap.size + 1 < w1.heap.size by omega)).trans z0; have z1 := (hb2.frozen (p := ⟨w.heap.size + 1, 1, none⟩) (show w.heap.size + 1 < w1.heap.size by omega)).trans z1; have z2 := (hb2.frozen (p := ⟨w.heap.size + 1, 2, none⟩) (show w.heap.size + 1 < w1.heap.size by omega)).trans z2; have hb3 := hb1.trans (hb2.mono hb1.size); have hs2 := hb2.size) | (go_at_call 91; refine (l02GiveTable_no (m : Int) (a : Int) (i64_nat m2) (i64_nat a2) _ (turnOf xs m a m) _ (SlR.own hop) HTL.out HR.out).mono ?_; rintro e w3 ⟨rfl, hb4⟩; have g0 := cell_step g0 hb4; have g1 := cell_step g1 hb4; have g2 := cell_step g2 hb4; have z0 := (hb4.frozen (p := ⟨w.heap.size + 1, 0, none⟩) (show w.heap.size + 1 < w2.heap.size by omega)).trans z0; have z1 := (hb4.frozen (p := ⟨w.heap.size + 1, 1, none⟩) (show w.heap.size + 1 < w2.heap.size by omega)).trans z1; have z2 := (hb4.frozen (p := ⟨w.heap.size + 1, 2, none⟩) (show w.heap.size + 1 < w2.heap.size by omega)).trans z2; have hb5 := hb3.trans (hb4.mono hb3.size); have hop5 := ownsRow_below hop hb4))
      refine bodyPost_ret (v := .tuple #[.agg #[.int .i64 0, .int .i64 0, .slice none 0 0], .bool false]) (by simp [results, Try.results42, go_sem, *]) rfl ?_
      exact RetSl.none (f := fun v => .tuple #[.agg #[.int .i64 0, .int .i64 0, v], .bool false]) (((hb5.setCell (p := ⟨w.heap.size + 1, 0, none⟩) (show w.heap.size ≤ w.heap.size + 1 by omega) _).setCell (p := ⟨w.heap.size + 1, 1, none⟩) (show w.heap.size ≤ w.heap.size + 1 by omega) _).setCell (p := ⟨w.heap.size + 1, 2, none⟩) (show w.heap.size ≤ w.heap.size + 1 by omega) _)
    · rw [outTT_yes (by unfold ttOk; rw [hd, Int.toNat_natCast, Int.toNat_natCast, hr]; rfl)]
      have HR := Lib.hid hr
      clear hd ho hr hl hx
      dsimp only
      go_enter Try.func42, Try.ntmps42
      go_wp2_with (first | (go_at_call 90; refine (l02Table_any _ _ _ _ xs _ c0 c1 c2 hv1 HX.out).mono ?_; rw [HD.out]; rintro e w1 ⟨rfl, hqu⟩; have hb := hqu.keep; clear hqu; have e0 := cell_step c0 hb; have e1 := cell_step c1 hb; have e2 := cell_step c2 hb; have g0 := cell_step d0 hb; have g1 := cell_step d1 hb; have g2 := cell_step d2 hb; have z0 := (hb.frozen (p := ⟨w.heap.size + 1, 0, none⟩) (by show _ < _; rw [hsz]; simp)).trans (hD 0); have z1 := (hb.frozen (p := ⟨w.heap.size + 1, 1, none⟩) (by show _ < _; rw [hsz]; simp)).trans (hD 1); have z2 := (hb.frozen (p := ⟨w.heap.size + 1, 2, none⟩) (by show _ < _; rw [hsz]; simp)).trans (hD 2); have hb1 := hb0.trans (hb.mono hb0.size); have hv2 := hv1.below hb; have hs1 : w.heap.size + 2 ≤ w1.heap.size := (by have := hb.size; rw [hsz] at this; exact this); clear hb) | (go_at_call 92; refine (l02Turn_any _ a m _ xs _ e0 e1 e2 hv2 a1 a2 m1 m2 HL.out).mono ?_; rintro e w2 ⟨at2, ct2, rfl, hop, hb2⟩; have g0 := cell_step g0 hb2; have g1 := cell_step g1 hb2; have g2 := cell_step g2 hb2; have z0 := (hb2.frozen (p := ⟨w.heap.size + 1, 0, none⟩) (show w.heap.size + 1 < w1.heap.size by omega)).trans z0; have z1 := (hb2.frozen (p := ⟨w.heap.size + 1, 1, none⟩) (show w.heap.size + 1 < w1.heap.size by omega)).trans z1; have z2 := (hb2.frozen (p := ⟨w.heap.size + 1, 2, none⟩) (show w.heap.size + 1 < w1.heap.size by omega)).trans z2; have hb3 := hb1.trans (hb2.mono hb1.size); have hs2 := hb2.size) | (go_at_call 91; refine (l02GiveTable_yes (m : Int) (a : Int) (i64_nat m2) (i64_nat a2) _ (turnOf xs m a m) _ (SlR.own hop) HTL.out HR.out).mono ?_; rintro e w3 ⟨rfl, hb4⟩; have g0 := cell_step g0 hb4; have g1 := cell_step g1 hb4; have g2 := cell_step g2 hb4; have z0 := (hb4.frozen (p := ⟨w.heap.size + 1, 0, none⟩) (show w.heap.size + 1 < w2.heap.size by omega)).trans z0; have z1 := (hb4.frozen (p := ⟨w.heap.size + 1, 1, none⟩) (show w.heap.size + 1 < w2.heap.size by omega)).trans z1; have z2 := (hb4.frozen (p := ⟨w.heap.size + 1, 2, none⟩) (show w.heap.size + 1 < w2.heap.size by omega)).trans z2; have hb5 := hb3.trans (hb4.mono hb3.size); have hop5 := ownsRow_below hop hb4))
      refine bodyPost_ret (v := .tuple #[.agg #[.int .i64 (m : Int), .int .i64 (a : Int), .slice at2 (turnOf xs m a m).length ct2], .bool true]) (by simp [results, Try.results42, go_sem, *]) rfl ?_
      have o1 := ownsRow_setCell_below (a := ⟨w.heap.size + 1, 0, none⟩) hop5 (show w.heap.size + 1 < w1.heap.size by omega) (.int .i64 (m : Int))
      have o2 := ownsRow_setCell_below (a := ⟨w.heap.size + 1, 1, none⟩) o1 (show w.heap.size + 1 < w1.heap.size by omega) (.int .i64 (a : Int))
      have o3 := ownsRow_setCell_below (a := ⟨w.heap.size + 1, 2, none⟩) o2 (show w.heap.size + 1 < w1.heap.size by omega) (.slice at2 (turnOf xs m a m).length ct2)
      exact RetSl.mk (f := fun v => .tuple #[.agg #[.int .i64 (m : Int), .int .i64 (a : Int), v], .bool true]) (ownsRow_base o3 (by omega)) (((hb5.setCell (p := ⟨w.heap.size + 1, 0, none⟩) (show w.heap.size ≤ w.heap.size + 1 by omega) _).setCell (p := ⟨w.heap.size + 1, 1, none⟩) (show w.heap.size ≤ w.heap.size + 1 by omega) _).setCell (p := ⟨w.heap.size + 1, 2, none⟩) (show w.heap.size ≤ w.heap.size + 1 by omega) _)

end Go.Proofs.Ytmocfnpbofeiiaa
