/- Draws of whole complex numbers. -/
import Derived.Test.YtimhljcebeiofaaGreatDoorPrD
import Derived.Test.YtimhljcebeiofaaGreatDoorSrc
import Derived.Deep.RegionHeld3
import Derived.Deep.Cut
namespace Go.Proofs.YtimhljcebeiofaaGreatDoor
set_option linter.unusedSimpArgs false
set_option linter.unusedVariables false
open Go.RowKit

set_option maxHeartbeats 1000000 in
theorem pickW_any (w0 W : World) (b m n : Nat) (sv : Value) (l : List UInt8) (hl : l.length ≤ 1048576) (hm : m ≤ 1000000) (hn1 : 201 ≤ n) (hn : n ≤ 100000) (hv : SlR w0 sv (byv l)) (h : Src w0 b sv m W) :
    Calls Tryz.prog 28 #[.pointer (some ⟨b, 0, none⟩), .int .i64 (n : Int)] W fun e w' => (∃ x : Nat, x < n ∧ e = .returned (.int .i64 (x : Int))) ∧ Src w0 b sv (m + 2) w' ∧ W.grownBy w' (some b) := by
  have HN := Lib.hid (next_any w0 W b m sv l hl (by omega) hv h)
  have HM : Hid (∀ W', Src w0 b sv (m + 1) W' → Calls Tryz.prog 52 #[.pointer (some ⟨b, 0, none⟩)] W' fun e w' => (∃ x : Nat, x ≤ 255 ∧ e = .returned (.int .i64 (x : Int))) ∧ Src w0 b sv (m + 1 + 1) w' ∧ W'.grownBy w' (some b)) := Lib.hid fun W' h' => next_any w0 W' b (m + 1) sv l hl (by omega) hv h'
  clear hv h
  have hn0 : ¬ n = 0 := by omega
  go_enter Tryz.func28, Tryz.ntmps28
  go_wp2_with (first
    | (go_at_call 52; refine (HM.out _ hs).mono ?_; rintro e w2 ⟨⟨y, hy, rfl⟩, hs2, hg2⟩)
    | (go_at_call 52; refine HN.out.mono ?_; rintro e w1 ⟨⟨x, hx, rfl⟩, hs, hg⟩))
  go_ret
  exact ⟨⟨(x * 256 + y) % n, Nat.mod_lt _ (by omega), by rw [Int.natCast_emod, Int.natCast_add, Int.natCast_mul]; rfl⟩, hs2, grownBy_trans hg hg2⟩
theorem Src.lower {w0 W W' : World} {b m : Nat} {sv : Value} (h : Src w0 b sv m W) (hb : Below (b + 1) W W') : Src w0 b sv m W' := by
  obtain ⟨h1, h2, h3, k, s, h4, h5, h6, h7, h8, h9⟩ := h
  have hs := hb.size
  exact ⟨h1, by omega, h3.trans (hb.mono (by omega)), k, s, h4, (hb.cell (p := ⟨b, 0, none⟩) (Nat.lt_succ_self b)).trans h5, (hb.cell (p := ⟨b, 1, none⟩) (Nat.lt_succ_self b)).trans h6, (hb.cell (p := ⟨b, 2, none⟩) (Nat.lt_succ_self b)).trans h7, (hb.frozen (Nat.lt_succ_self b)).trans h8, (hb.frozen (Nat.lt_succ_self b)).trans h9⟩
theorem info_ComplexS : (Tryz.prog.info? 24).map (fun i => (i.zero, i.size, i.bytes)) = some (some (.complex .f32 0 0), 1, 8) := by kernel_rfl

set_option maxRecDepth 4000 in
set_option maxHeartbeats 4000000 in
theorem B10Whole_any (w : World) (sv : Value) (l : List UInt8) (hl : l.length ≤ 1048576) (hv : SlR w sv (byv l)) :
    Calls Tryz.prog 5 #[sv, .int .i64 1, .int .i64 200] w fun e w' => (∃ (p q : Int) (v : Value), p.natAbs ≤ 200 ∧ q.natAbs ≤ 200 ∧ e = .returned v ∧ SlR w' v [.complex .f32 (fi p) (fi q)]) ∧ Below w.heap.size w w' := by
  obtain ⟨i0, hi0, hz00, hz01, hz02⟩ := info_parts info_ComplexS
  have HF := Lib.hid (from_any w sv l hv)
  have HP : Hid (∀ (W : World) (j : Nat), j ≤ 10 → Src w w.heap.size sv j W → Calls Tryz.prog 28 #[.pointer (some ⟨w.heap.size, 0, none⟩), .int .i64 ((401 : Nat) : Int)] W fun e w' => (∃ x : Nat, x < 401 ∧ e = .returned (.int .i64 (x : Int))) ∧ Src w w.heap.size sv (j + 2) w' ∧ W.grownBy w' (some w.heap.size)) := Lib.hid fun W j hj h => pickW_any w W w.heap.size j 401 sv l hl (by omega) (by omega) (by omega) hv h
  obtain ⟨a, k0, c0, rfl, -, -, -, -⟩ := SlR.opened (0 : UInt8) hv
  clear hv
  have HFI : Hid (∀ x : Nat, floatOfInt .f32 ((x : Int) - 200) = fi ((x : Int) - 200)) := fun x => rfl
  go_enter Tryz.func5, Tryz.ntmps5
  go_upto_region 2 with (go_at_call 27; refine HF.out.mono ?_; rintro e w1 ⟨rfl, hs0, hz0⟩)
  have hown0 : (w1.alloc (.cells #[] 24)).ownsRow w1.heap.size 24 1 (.slice (some ⟨w1.heap.size, 0, none⟩) 0 0) 0 [] := World.ownsRow_made w1 #[] 0 (Nat.le_refl _) (Nat.zero_le _) rfl
  have hb0 : Below w1.heap.size w1 (w1.alloc (.cells #[] 24)) := by go_grown
  have hs0 := hs0.lower (hb0.mono (by omega))
  have hsz : w1.heap.size ≤ (w1.alloc (.cells #[] 24)).heap.size := hb0.size
  have hz1 : w.heap.size < w1.heap.size := by omega
  clear hb0 HF hz0
  go_wp2_with fail
  go_loopw [1, 8, 9] (fun q v _ W => (q = .int .i64 1 ∧ W.ownsRow w1.heap.size 24 1 v 0 [] ∧ Src w w.heap.size (.slice a k0 c0) 0 W ∧ w1.heap.size ≤ W.heap.size) ∨ (q = .int .i64 0 ∧ ∃ p r : Int, p.natAbs ≤ 200 ∧ r.natAbs ≤ 200 ∧ W.ownsRow w1.heap.size 24 1 v 1 [.complex .f32 (fi p) (fi r)] ∧ Src w w.heap.size (.slice a k0 c0) 4 W)) (fun q _ _ _ => intOf q)
  case atStart => exact .inl ⟨rfl, hown0, hs0, hsz⟩
  case round =>
    clear hown0 hs0 hsz
    rcases hrel with ⟨rfl, hown, hs, hsz⟩ | ⟨rfl, p, r, hp, hr, hown, hs⟩
    · go_wp2_with (first
        | (go_at_call 28; refine (HP.out _ 2 (by omega) hs1).mono ?_; rintro e wB ⟨⟨y, hy, rfl⟩, hs2, hg2⟩; have hownB := own_apart (u := .slice (some ⟨w.heap.size, 0, none⟩) 0 0) hownA hg2 (fun k hk => by simp [Value.ownBlock] at hk; omega); have hszB := hg2.size; have hbr := Below.refl w1.heap.size wB; have hFy := HFI.out y; have hFx := HFI.out x)
        | (go_at_call 28; refine (HP.out _ 0 (by omega) hs).mono ?_; rintro e wA ⟨⟨x, hx, rfl⟩, hs1, hg1⟩; have hownA := own_apart (u := .slice (some ⟨w.heap.size, 0, none⟩) 0 0) hown hg1 (fun k hk => by simp [Value.ownBlock] at hk; omega); have hszA := hg1.size)
        | (at_builtin; refine wpList_append_own _ rfl _ _ 25 rfl w1.heap.size 24 i0 (.complex .f32 0 0) 1 8 Tryz.underlying25 hi0 hz00 hz01 hz02 rfl (by decide) u8 _ _ rfl (hownB.alloc _) ⟨(World.heap wB).size, 0, none⟩ 1 1 [.complex .f32 (floatOfInt .f32 ((x : Int) - 200)) (floatOfInt .f32 ((y : Int) - 200))] rfl rfl (cell_one_new _ _ _) (one_oneCell rfl) (by unfold maxLen; omega) (by omega) (by simp only [World.size_alloc]; have := hbr.size; omega) ?_; intro v1 w2 hown2 hgx _; have hb2 := app_below hbr (by have := hbr.size; omega) _ hgx hownB (by omega)))
      go_roundw
      case rel => exact .inr ⟨rfl, (x : Int) - 200, (y : Int) - 200, by omega, by omega, hown2, hs2.lower (hb2.mono (by omega))⟩
      case measure => simp [intOf]
    · go_wp2
      go_ret
      exact ⟨⟨p, r, _, hp, hr, rfl, SlR.own hown⟩, hs.2.2.1⟩

end Go.Proofs.YtimhljcebeiofaaGreatDoor
