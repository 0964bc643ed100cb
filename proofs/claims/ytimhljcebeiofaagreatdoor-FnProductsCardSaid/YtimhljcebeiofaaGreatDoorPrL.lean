/- Lists of any complex numbers drawn. -/
import Derived.Test.YtimhljcebeiofaaGreatDoorPrK
import Derived.Deep.RegionHeld3
import Derived.Deep.Cut
namespace Go.Proofs.YtimhljcebeiofaaGreatDoor
set_option linter.unusedSimpArgs false
set_option linter.unusedVariables false
open Go.RowKit
/-- Complex numbers as values. -/
abbrev cV (c : Nat × Nat) : Value := .complex .f32 c.1 c.2
theorem Wd.snoc {cs : List (Nat × Nat)} (h : Wd cs) {x y : Nat} (hx : x < 4294967296) (hy : y < 4294967296) : Wd (cs ++ [(x, y)]) := by
  intro c hc
  rcases List.mem_append.1 hc with h1 | h1
  · exact h c h1
  · rw [List.mem_singleton.1 h1]; exact ⟨hx, hy⟩

set_option maxRecDepth 4000 in
set_option maxHeartbeats 4000000 in
theorem drawComplexes_any (w0 W : World) (b m n : Nat) (sv : Value) (l : List UInt8) (hl : l.length ≤ 1048576) (hm : m ≤ 1000) (hn : n ≤ 1000) (hv : SlR w0 sv (byv l)) (h : Src w0 b sv m W) :
    Calls Tryz.prog 35 #[.pointer (some ⟨b, 0, none⟩), .int .i64 (n : Int)] W fun e w' => (∃ (v : Value) (cs : List (Nat × Nat)), cs.length = n ∧ Wd cs ∧ e = .returned v ∧ SlR w' v (cs.map cV)) ∧ Below w0.heap.size w0 w' := by
  obtain ⟨i0, hi0, hz00, hz01, hz02⟩ := info_parts info_ComplexS
  have HO := Lib.hid (one_any w0 W b m 5 sv l hl (by omega) (by omega) (by omega) hv h)
  have HD : Hid (∀ (W' : World) (m' : Nat), Src w0 b sv m' W' → m' ≤ 30000 → Calls Tryz.prog 46 #[.pointer (some ⟨b, 0, none⟩)] W' fun e w' => (∃ x y : Nat, x < 4294967296 ∧ y < 4294967296 ∧ e = .returned (.complex .f32 x y)) ∧ Src w0 b sv (m' + 20) w' ∧ W'.grownBy w' (some b)) := Lib.hid fun W' m' h' hm' => drawComplex_any w0 W' b m' sv l hl (by omega) hv h'
  have HE : Hid (∀ (W' : World) (m' : Nat), Src w0 b sv m' W' → m' ≤ 30000 → Calls Tryz.prog 47 #[.pointer (some ⟨b, 0, none⟩)] W' fun e w' => (∃ x y : Nat, x < 4294967296 ∧ y < 4294967296 ∧ e = .returned (.complex .f32 x y)) ∧ Src w0 b sv (m' + 4) w' ∧ W'.grownBy w' (some b)) := Lib.hid fun W' m' h' hm' => drawFine_any w0 W' b m' sv l hl (by omega) hv h'
  have HSO : Hid (∀ W', Src w0 b sv m W' → Calls Tryz.prog 40 #[.pointer (some ⟨b, 0, none⟩), .int .i64 5] W' fun e w' => (∃ t : Bool, e = .returned (.bool t)) ∧ Src w0 b sv (m + 2) w' ∧ W'.grownBy w' (some b)) := Lib.hid fun W' h' => one_any w0 W' b m 5 sv l hl (by omega) (by omega) (by omega) hv h'
  have hbW := h.2.1
  have hown0 : (W.alloc (.cells #[] 24)).ownsRow W.heap.size 24 1 (.slice (some ⟨W.heap.size, 0, none⟩) 0 0) 0 [] := World.ownsRow_made W #[] 0 (Nat.le_refl _) (Nat.zero_le _) rfl
  have hs0 := h.alloc (.cells #[] 24)
  have hz0 : W.heap.size ≤ (W.alloc (.cells #[] 24)).heap.size := by simp
  clear hv h HO
  go_enter Tryz.func35, Tryz.ntmps35
  go_upto_region 3 with (go_at_call 40; refine (HSO.out _ hs0).mono ?_; rintro e w1 ⟨⟨t, rfl⟩, hs1, hg1⟩; have hown1 := own_apart (u := .slice (some ⟨b, 0, none⟩) 0 0) hown0 hg1 (fun k hk => by simp [Value.ownBlock] at hk; omega); have hz1 : W.heap.size ≤ w1.heap.size := by have := hg1.size; omega)
  clear hs0 hg1 hown0 HSO
  go_loopw [1, 5] (fun q v V => ∃ (k : Nat) (cs : List (Nat × Nat)), q = .int .i64 (k : Int) ∧ cs.length + k = n ∧ Wd cs ∧ V.ownsRow W.heap.size 24 1 v cs.length (cs.map cV) ∧ Src w0 b sv (m + 2 + 20 * cs.length) V ∧ W.heap.size ≤ V.heap.size) (fun q _ _ => intOf q)
  case atStart => exact ⟨n, [], rfl, by simp, fun c hc => by (cases hc), hown1, hs1, hz1⟩
  case round =>
    clear hown1 hs1 hz1
    obtain ⟨k, cs, rfl, hlen, hwd, hown, hs, hz⟩ := hrel
    by_cases h0 : 0 < k
    · cases t
      · go_wp2_with (first
          | (go_at_call 47; refine (HE.out _ _ hs (by omega)).mono ?_; rintro e wB ⟨⟨x, y, hx, hy, rfl⟩, hs2, hg2⟩; have hownB := own_apart (u := .slice (some ⟨b, 0, none⟩) 0 0) hown hg2 (fun k hk => by simp [Value.ownBlock] at hk; omega); have hszB := hg2.size; have hbr := Below.refl W.heap.size wB)
          | (at_builtin; refine wpList_append_own _ rfl _ _ 25 rfl W.heap.size 24 i0 (.complex .f32 0 0) 1 8 Tryz.underlying25 hi0 hz00 hz01 hz02 rfl (by decide) u5 _ _ rfl (hownB.alloc _) ⟨(World.heap wB).size, 0, none⟩ 1 1 [.complex .f32 x y] rfl rfl (cell_one_new _ _ _) (one_oneCell rfl) (by unfold maxLen; omega) (by omega) (by simp only [World.size_alloc]; have := hbr.size; omega) ?_; intro v1 w2 hown2 hgx _; have hb2 := app_below hbr (by have := hbr.size; omega) _ hgx hownB (by omega)))
        go_roundw
        case rel => exact ⟨k - 1, cs ++ [(x, y)], by congr 1; omega, by rw [List.length_append, List.length_singleton]; omega, hwd.snoc hx hy, by rw [List.length_append, List.length_singleton, List.map_append]; exact hown2, (hs2.lower (hb2.mono (by omega))).mono (by rw [List.length_append, List.length_singleton]; omega), by have := hb2.size; omega⟩
        case measure => simp [intOf]; omega
      · go_wp2_with (first
          | (go_at_call 46; refine (HD.out _ _ hs (by omega)).mono ?_; rintro e wB ⟨⟨x, y, hx, hy, rfl⟩, hs2, hg2⟩; have hownB := own_apart (u := .slice (some ⟨b, 0, none⟩) 0 0) hown hg2 (fun k hk => by simp [Value.ownBlock] at hk; omega); have hszB := hg2.size; have hbr := Below.refl W.heap.size wB)
          | (at_builtin; refine wpList_append_own _ rfl _ _ 25 rfl W.heap.size 24 i0 (.complex .f32 0 0) 1 8 Tryz.underlying25 hi0 hz00 hz01 hz02 rfl (by decide) u5 _ _ rfl (hownB.alloc _) ⟨(World.heap wB).size, 0, none⟩ 1 1 [.complex .f32 x y] rfl rfl (cell_one_new _ _ _) (one_oneCell rfl) (by unfold maxLen; omega) (by omega) (by simp only [World.size_alloc]; have := hbr.size; omega) ?_; intro v1 w2 hown2 hgx _; have hb2 := app_below hbr (by have := hbr.size; omega) _ hgx hownB (by omega)))
        go_roundw
        case rel => exact ⟨k - 1, cs ++ [(x, y)], by congr 1; omega, by rw [List.length_append, List.length_singleton]; omega, hwd.snoc hx hy, by rw [List.length_append, List.length_singleton, List.map_append]; exact hown2, (hs2.lower (hb2.mono (by omega))).mono (by rw [List.length_append, List.length_singleton]; omega), by have := hb2.size; omega⟩
        case measure => simp [intOf]; omega
    · obtain rfl : k = 0 := by omega
      go_wp2
      go_ret
      exact ⟨⟨_, cs, by omega, hwd, rfl, SlR.own hown⟩, hs.2.2.1⟩

set_option maxHeartbeats 2000000 in
theorem B10Any_any (w : World) (sv : Value) (l : List UInt8) (n : Nat) (hl : l.length ≤ 1048576) (hn : n ≤ 1000) (hv : SlR w sv (byv l)) :
    Calls Tryz.prog 14 #[sv, .int .i64 (n : Int)] w fun e w' => (∃ (v : Value) (cs : List (Nat × Nat)), cs.length = n ∧ Wd cs ∧ e = .returned v ∧ SlR w' v (cs.map cV)) ∧ Below w.heap.size w w' := by
  have HF := Lib.hid (from_any w sv l hv)
  have HD : Hid (∀ (W' : World), Src w w.heap.size sv 0 W' → Calls Tryz.prog 35 #[.pointer (some ⟨w.heap.size, 0, none⟩), .int .i64 (n : Int)] W' fun e w' => (∃ (v : Value) (cs : List (Nat × Nat)), cs.length = n ∧ Wd cs ∧ e = .returned v ∧ SlR w' v (cs.map cV)) ∧ Below w.heap.size w w') := Lib.hid fun W' h' => drawComplexes_any w W' w.heap.size 0 n sv l hl (by omega) hn hv h'
  obtain ⟨a, k0, c0, rfl, -, -, -, -⟩ := SlR.opened (0 : UInt8) hv
  clear hv
  go_enter Tryz.func14, Tryz.ntmps14
  go_wp2_with (first
    | (go_at_call 27; refine HF.out.mono ?_; rintro e w1 ⟨rfl, hs, -⟩)
    | (go_at_call 35; refine (HD.out _ hs).mono ?_; rintro e w2 ⟨⟨v, cs, hc, hwd, rfl, hr⟩, hb⟩))
  go_ret
  exact ⟨⟨v, cs, hc, hwd, rfl, hr⟩, hb⟩

end Go.Proofs.YtimhljcebeiofaaGreatDoor
