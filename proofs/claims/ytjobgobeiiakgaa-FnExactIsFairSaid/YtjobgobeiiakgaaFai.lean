/- Channels that are fair: the program. -/
import Derived.Test.YtjobgobeiiakgaaFaiP
import Derived.Test.YtjobgobeiiakgaaMev
namespace Go.Proofs.Ytjobgobeiiakgaa
set_option linter.unusedSimpArgs false
set_option linter.unusedVariables false
open Go.RowKit
open Ieee
/-- A list of words with a place, opened. -/
theorem sl_cells {w : World} {v : Value} {us : List Nat} {n : Nat} (hv : SlR w v (us.map (Value.float .f32))) (hn : us.length = n) (h1 : 1 ≤ n) : ∃ b off c, v = .slice (some ⟨b, off, none⟩) n c ∧ n ≤ c ∧ c ≤ maxLen ∧ ∀ W, Below w.heap.size w W → ∀ k, k < n → W.cell? ⟨b, off + k, none⟩ = some (.float .f32 (us[k]?.getD 0)) := by
  obtain ⟨a, c, rfl, hnc, hcm, hcell⟩ := hv
  rw [List.length_map, hn] at hnc ⊢
  obtain ⟨b, off, rfl, -⟩ := hcell 0 (.float .f32 (us[0]?.getD 0)) (by rw [List.getElem?_map, List.getElem?_eq_getElem (by omega)]; rfl)
  refine ⟨b, off, c, rfl, hnc, hcm, fun W hW k hk => ?_⟩
  obtain ⟨b', o', e, h⟩ := hcell k (.float .f32 (us[k]?.getD 0)) (by rw [List.getElem?_map, List.getElem?_eq_getElem (by omega)]; rfl)
  cases e
  exact cell_step h hW
/-- How words compare that are chances. -/
theorem ord_abW {x y : Nat} (hx : Ch x) (hy : Ch y) : (abW x = abW y ∧ FloatKind.f32.format.order x y = some .eq) ∨ (abW x ≠ abW y ∧ FloatKind.f32.format.order x y = some .lt) ∨ (abW x ≠ abW y ∧ FloatKind.f32.format.order x y = some .gt) := by
  have h := order_ch hx hy
  unfold abW
  by_cases h1 : x % 2147483648 < y % 2147483648
  · rw [Nat.compare_eq_lt.2 h1] at h; exact .inr (.inl ⟨by omega, h⟩)
  · by_cases h2 : x % 2147483648 = y % 2147483648
    · rw [Nat.compare_eq_eq.2 h2] at h; exact .inl ⟨h2, h⟩
    · rw [Nat.compare_eq_gt.2 (by omega)] at h; exact .inr (.inr ⟨h2, h⟩)

set_option maxHeartbeats 2000000 in
theorem equalF_any (v u : Value) (us vs : List Nat) (n : Nat) (h1 : us.length = n) (h2 : vs.length = n) (hn : 1 ≤ n) (hm : n ≤ 4096) (c1 : ∀ x ∈ us, Ch x) (c2 : ∀ x ∈ vs, Ch x) (w : World) (hv : SlR w v (us.map (Value.float .f32))) (hu : SlR w u (vs.map (Value.float .f32))) :
    Calls Try.prog 98 #[v, u] w fun e w' => e = .returned (.bool (decide (us.map abW = vs.map abW))) ∧ Qu w w' := by
  obtain ⟨b, off, c, rfl, hnc, hcm, hcell⟩ := sl_cells hv h1 hn
  obtain ⟨b', off', c', rfl, hnc', hcm', hcell'⟩ := sl_cells hu h2 hn
  have HA := Lib.hid hcell
  have HB := Lib.hid hcell'
  have HO : Hid (∀ k, k < n → (abW (us[k]?.getD 0) = abW (vs[k]?.getD 0) ∧ FloatKind.f32.format.order (us[k]?.getD 0) (vs[k]?.getD 0) = some .eq) ∨ (abW (us[k]?.getD 0) ≠ abW (vs[k]?.getD 0) ∧ FloatKind.f32.format.order (us[k]?.getD 0) (vs[k]?.getD 0) = some .lt) ∨ (abW (us[k]?.getD 0) ≠ abW (vs[k]?.getD 0) ∧ FloatKind.f32.format.order (us[k]?.getD 0) (vs[k]?.getD 0) = some .gt)) := Lib.hid fun k hk =>
    ord_abW (by rw [List.getElem?_eq_getElem (by omega)]; exact c1 _ (List.getElem_mem _)) (by rw [List.getElem?_eq_getElem (by omega)]; exact c2 _ (List.getElem_mem _))
  have HNO : Hid (∀ k, k < n → abW (us[k]?.getD 0) ≠ abW (vs[k]?.getD 0) → decide (us.map abW = vs.map abW) = false) := Lib.hid fun k hk h => decide_eq_false (map_ne (by omega) (by omega) h)
  have HYE : Hid ((∀ k, k < n → abW (us[k]?.getD 0) = abW (vs[k]?.getD 0)) → decide (us.map abW = vs.map abW) = true) := Lib.hid fun h => decide_eq_true (map_eq_of h1 h2 h)
  generalize decide (us.map abW = vs.map abW) = r at *
  unfold maxLen at hcm hcm'
  clear hcell hcell' hv hu h1 h2 c1 c2
  go_enter Try.func98, Try.ntmps98
  go_wp2
  go_loopw [13] (fun i wr => ∃ k : Nat, k ≤ n ∧ i = .int .i64 (k : Int) ∧ Hid (∀ j, j < k → abW (us[j]?.getD 0) = abW (vs[j]?.getD 0)) ∧ Qu w wr) (fun i _ => n - (intOf i).toNat)
  case atStart => exact ⟨0, Nat.zero_le _, rfl, Lib.hid (fun j h => by omega), Qu.refl _⟩
  case round =>
    obtain ⟨k, hk, rfl, hall, hq⟩ := hrel
    by_cases hlt : k < n
    · have d1 := HA.out wr hq.keep k hlt
      have d2 := HB.out wr hq.keep k hlt
      have ho := HO.out k hlt
      have hno := HNO.out k hlt
      have HAL : Hid (abW (us[k]?.getD 0) = abW (vs[k]?.getD 0) → ∀ j, j < k + 1 → abW (us[j]?.getD 0) = abW (vs[j]?.getD 0)) := Lib.hid fun h j hj => by
        by_cases e : j = k
        · rw [e]; exact h
        · exact hall.out j (by omega)
      generalize us[k]?.getD 0 = x at *
      generalize vs[k]?.getD 0 = y at *
      rcases ho with ⟨h1, ho⟩ | ⟨h1, ho⟩ | ⟨h1, ho⟩
      · have HAL2 := Lib.hid (HAL.out h1)
        clear hno HAL h1
        go_wp2
        go_quiet (fail)
        go_wp2
        go_roundw
        case rel => exact ⟨k + 1, by omega, by go_num, HAL2, hq.drewN _⟩
        case measure => simp [intOf]; omega
      · have HR := Lib.hid (hno h1)
        clear hno HAL h1
        go_wp2
        go_quiet (fail)
        go_wp2
        go_ret
        exact ⟨ret_bool HR.out.symm, hq.drewN _⟩
      · have HR := Lib.hid (hno h1)
        clear hno HAL h1
        go_wp2
        go_quiet (fail)
        go_wp2
        go_ret
        exact ⟨ret_bool HR.out.symm, hq.drewN _⟩
    · obtain rfl : k = n := by omega
      have HR := Lib.hid (HYE.out hall.out)
      go_wp2
      go_ret
      exact ⟨ret_bool HR.out.symm, hq⟩

set_option maxHeartbeats 2000000 in
theorem areAlikeCh_any (i : Int) (a m : Nat) (v : Value) (xs : List Nat) (w : World) (hv : SlR w v (xs.map (Value.float .f32))) (a1 : 1 ≤ a) (a2 : a ≤ 8) (m1 : 1 ≤ m) (m2 : m ≤ 8) (hl : xs.length = a * m) (hch : ∀ x ∈ xs, Ch x) :
    Calls Try.prog 66 #[.int .i64 (a : Int), .int .i64 (m : Int), .func (.func 67) #[.agg #[.int .i64 i, .int .i64 (m : Int), v]] #[]] w fun e w' => e = .returned (.bool (alAll (fun k => rowOf xs m k) a)) ∧ Below w.heap.size w w' := by
  have HRW : Hid (∀ W, Below w.heap.size w W → ∀ k, k < a → Calls Try.prog 67 #[.agg #[.int .i64 i, .int .i64 (m : Int), v], .int .i64 (k : Int)] W fun e w' => ∃ u, e = .returned u ∧ SlR w' u ((rowOf xs m k).map (Value.float .f32)) ∧ Below W.heap.size W w') := Lib.hid fun W hW k hk => by
    refine (chRow_any i m k v xs W (hv.below hW) m1 (by omega) (by omega) (by rw [hl]; exact row_le hk)).mono ?_
    rintro e w' ⟨⟨a', c', rfl, h⟩, rfl⟩
    have hb : Below W.heap.size W (W.alloc (.cells #[.int .i64 i, .int .i64 (m : Int), v] 43)) := by go_grown
    exact ⟨_, rfl, h _ ((hv.below hW).below (by go_grown)), by go_grown⟩
  have HLN : Hid (∀ k, k < a → (rowOf xs m k).length = m) := Lib.hid fun k hk => rowOf_length (by rw [hl]; exact row_le hk)
  have HFA : Hid (∀ W u k, k < a → SlR W u ((rowOf xs m k).map (Value.float .f32)) → Calls Try.prog 50 #[u] W (RetSl W 33 m ((falF (rowOf xs m k)).map (Value.float .f32)) id)) := Lib.hid fun W u k hk hu =>
    falling_any u (rowOf xs m k) m (HLN.out k hk) m1 (by omega) (fun x hx => hch x (rowOf_mem hx)) W hu
  have HEQ : Hid (∀ W u1 u2 k, k < a → SlR W u1 ((falF (rowOf xs m 0)).map (Value.float .f32)) → SlR W u2 ((falF (rowOf xs m k)).map (Value.float .f32)) → Calls Try.prog 98 #[u1, u2] W fun e w' => e = .returned (.bool (alk (rowOf xs m 0) (rowOf xs m k))) ∧ Below W.heap.size W w') := Lib.hid fun W u1 u2 k hk h1 h2 => by
    refine (equalF_any u1 u2 _ _ m (by rw [falF_length, HLN.out 0 (by omega)]) (by rw [falF_length, HLN.out k hk]) m1 (by omega) (fun x hx => hch x (rowOf_mem (falF_mem hx))) (fun x hx => hch x (rowOf_mem (falF_mem hx))) W h1 h2).mono ?_
    rintro e w' ⟨rfl, hq⟩
    exact ⟨rfl, hq.keep⟩
  have HNO : Hid (∀ k, k < a → alk (rowOf xs m 0) (rowOf xs m k) = false → alAll (fun k => rowOf xs m k) a = false) := Lib.hid fun k hk h => alAll_no hk h
  have HYE : Hid ((∀ k, k < a → alk (rowOf xs m 0) (rowOf xs m k) = true) → alAll (fun k => rowOf xs m k) a = true) := Lib.hid fun h => alAll_yes h
  generalize alAll (fun k => rowOf xs m k) a = r at *
  have HR0 := Lib.hid (HRW.out w (Below.refl _ _) 0 (by omega))
  have HF0 : Hid (∀ W u, SlR W u ((rowOf xs m 0).map (Value.float .f32)) → Calls Try.prog 50 #[u] W (RetSl W 33 m ((falF (rowOf xs m 0)).map (Value.float .f32)) id)) := Lib.hid fun W u h => HFA.out W u 0 (by omega) h
  clear hv hl hch
  go_enter Try.func66, Try.ntmps66
  go_wp2_with (first | (go_at_call 50; refine (HF0.out _ _ hs1).mono ?_; rintro e w2 ⟨a3, c3, rfl, hO3, hb3⟩; replace hO3 := SlR.own hO3; replace hb3 := hb1.trans (hb3.mono hb1.size)) | (go_at_call 67; refine HR0.out.mono ?_; rintro e w1 ⟨u1, rfl, hs1, hb1⟩))
  go_loopw [13] (fun i wr => ∃ k : Nat, k ≤ a ∧ i = .int .i64 (k : Int) ∧ Hid (∀ j, j < k → alk (rowOf xs m 0) (rowOf xs m j) = true) ∧ Below w2.heap.size w2 wr) (fun i _ => a - (intOf i).toNat)
  case atStart => exact ⟨0, Nat.zero_le _, rfl, Lib.hid (fun j h => by omega), Below.refl _ _⟩
  case round =>
    obtain ⟨k, hk, rfl, hall, hq⟩ := hrel
    have hbw := hb3.trans (hq.mono hb3.size)
    by_cases hlt : k < a
    · have HRK := Lib.hid (HRW.out wr hbw k hlt)
      have HFK : Hid (∀ W u, SlR W u ((rowOf xs m k).map (Value.float .f32)) → Calls Try.prog 50 #[u] W (RetSl W 33 m ((falF (rowOf xs m k)).map (Value.float .f32)) id)) := Lib.hid fun W u h => HFA.out W u k hlt h
      have HEK : Hid (∀ W u1 u2, SlR W u1 ((falF (rowOf xs m 0)).map (Value.float .f32)) → SlR W u2 ((falF (rowOf xs m k)).map (Value.float .f32)) → Calls Try.prog 98 #[u1, u2] W fun e w' => e = .returned (.bool (alk (rowOf xs m 0) (rowOf xs m k))) ∧ Below W.heap.size W w') := Lib.hid fun W u1 u2 h1 h2 => HEQ.out W u1 u2 k hlt h1 h2
      have HAL : Hid (alk (rowOf xs m 0) (rowOf xs m k) = true → ∀ j, j < k + 1 → alk (rowOf xs m 0) (rowOf xs m j) = true) := Lib.hid fun h j hj => by
        by_cases e : j = k
        · rw [e]; exact h
        · exact hall.out j (by omega)
      have hno := HNO.out k hlt
      have hs3 := hO3.below hq
      generalize alk (rowOf xs m 0) (rowOf xs m k) = z at *
      cases z
      · have HRR := Lib.hid (hno rfl)
        clear hno HAL
        go_wp2_with (first
          | (go_at_call 98; refine (HEK.out _ _ _ (hs3.below (hb4.trans (hb5'.mono hb4.size))) hO5).mono ?_; rintro e w6 ⟨rfl, hb6⟩)
          | (go_at_call 50; refine (HFK.out _ _ hs4).mono ?_; rintro e w5 ⟨a5, c5, rfl, hO5, hb5'⟩; replace hO5 := SlR.own hO5)
          | (go_at_call 67; refine HRK.out.mono ?_; rintro e w4 ⟨u4, rfl, hs4, hb4⟩))
        go_ret
        have hb5 := hb4.trans (hb5'.mono hb4.size)
        have hb6' := hb5.trans (hb6.mono hb5.size)
        exact ⟨ret_bool HRR.out.symm, hbw.trans (hb6'.mono hbw.size)⟩
      · have HAL2 := Lib.hid (HAL.out rfl)
        clear hno HAL
        go_wp2_with (first
          | (go_at_call 98; refine (HEK.out _ _ _ (hs3.below (hb4.trans (hb5'.mono hb4.size))) hO5).mono ?_; rintro e w6 ⟨rfl, hb6⟩)
          | (go_at_call 50; refine (HFK.out _ _ hs4).mono ?_; rintro e w5 ⟨a5, c5, rfl, hO5, hb5'⟩; replace hO5 := SlR.own hO5)
          | (go_at_call 67; refine HRK.out.mono ?_; rintro e w4 ⟨u4, rfl, hs4, hb4⟩))
        have hb5 := hb4.trans (hb5'.mono hb4.size)
        have hb6' := hb5.trans (hb6.mono hb5.size)
        go_roundw
        case rel => exact ⟨k + 1, by omega, by go_num, HAL2, hq.trans (hb6'.mono hq.size)⟩
        case measure => simp [intOf]; omega
    · obtain rfl : k = a := by omega
      have HR := Lib.hid (HYE.out hall.out)
      go_wp2
      go_ret
      exact ⟨ret_bool HR.out.symm, hbw⟩

set_option maxHeartbeats 2000000 in
theorem areAlikeTb_any (i : Int) (a m : Nat) (v : Value) (xs : List Nat) (w : World) (hv : SlR w v (xs.map (Value.float .f32))) (a1 : 1 ≤ a) (a2 : a ≤ 8) (m1 : 1 ≤ m) (m2 : m ≤ 8) (hl : xs.length = a * m) (hch : ∀ x ∈ xs, Ch x) :
    Calls Try.prog 66 #[.int .i64 (a : Int), .int .i64 (m : Int), .func (.func 68) #[.agg #[.int .i64 i, .int .i64 (m : Int), v]] #[]] w fun e w' => e = .returned (.bool (alAll (fun k => rowOf xs m k) a)) ∧ Below w.heap.size w w' := by
  have HRW : Hid (∀ W, Below w.heap.size w W → ∀ k, k < a → Calls Try.prog 68 #[.agg #[.int .i64 i, .int .i64 (m : Int), v], .int .i64 (k : Int)] W fun e w' => ∃ u, e = .returned u ∧ SlR w' u ((rowOf xs m k).map (Value.float .f32)) ∧ Below W.heap.size W w') := Lib.hid fun W hW k hk => by
    refine (tbRow_any i m k v xs W (hv.below hW) m1 (by omega) (by omega) (by rw [hl]; exact row_le hk)).mono ?_
    rintro e w' ⟨⟨a', c', rfl, h⟩, rfl⟩
    have hb : Below W.heap.size W (W.alloc (.cells #[.int .i64 i, .int .i64 (m : Int), v] 43)) := by go_grown
    exact ⟨_, rfl, h _ ((hv.below hW).below (by go_grown)), by go_grown⟩
  have HLN : Hid (∀ k, k < a → (rowOf xs m k).length = m) := Lib.hid fun k hk => rowOf_length (by rw [hl]; exact row_le hk)
  have HFA : Hid (∀ W u k, k < a → SlR W u ((rowOf xs m k).map (Value.float .f32)) → Calls Try.prog 50 #[u] W (RetSl W 33 m ((falF (rowOf xs m k)).map (Value.float .f32)) id)) := Lib.hid fun W u k hk hu =>
    falling_any u (rowOf xs m k) m (HLN.out k hk) m1 (by omega) (fun x hx => hch x (rowOf_mem hx)) W hu
  have HEQ : Hid (∀ W u1 u2 k, k < a → SlR W u1 ((falF (rowOf xs m 0)).map (Value.float .f32)) → SlR W u2 ((falF (rowOf xs m k)).map (Value.float .f32)) → Calls Try.prog 98 #[u1, u2] W fun e w' => e = .returned (.bool (alk (rowOf xs m 0) (rowOf xs m k))) ∧ Below W.heap.size W w') := Lib.hid fun W u1 u2 k hk h1 h2 => by
    refine (equalF_any u1 u2 _ _ m (by rw [falF_length, HLN.out 0 (by omega)]) (by rw [falF_length, HLN.out k hk]) m1 (by omega) (fun x hx => hch x (rowOf_mem (falF_mem hx))) (fun x hx => hch x (rowOf_mem (falF_mem hx))) W h1 h2).mono ?_
    rintro e w' ⟨rfl, hq⟩
    exact ⟨rfl, hq.keep⟩
  have HNO : Hid (∀ k, k < a → alk (rowOf xs m 0) (rowOf xs m k) = false → alAll (fun k => rowOf xs m k) a = false) := Lib.hid fun k hk h => alAll_no hk h
  have HYE : Hid ((∀ k, k < a → alk (rowOf xs m 0) (rowOf xs m k) = true) → alAll (fun k => rowOf xs m k) a = true) := Lib.hid fun h => alAll_yes h
  generalize alAll (fun k => rowOf xs m k) a = r at *
  have HR0 := Lib.hid (HRW.out w (Below.refl _ _) 0 (by omega))
  have HF0 : Hid (∀ W u, SlR W u ((rowOf xs m 0).map (Value.float .f32)) → Calls Try.prog 50 #[u] W (RetSl W 33 m ((falF (rowOf xs m 0)).map (Value.float .f32)) id)) := Lib.hid fun W u h => HFA.out W u 0 (by omega) h
  clear hv hl hch
  go_enter Try.func66, Try.ntmps66
  go_wp2_with (first | (go_at_call 50; refine (HF0.out _ _ hs1).mono ?_; rintro e w2 ⟨a3, c3, rfl, hO3, hb3⟩; replace hO3 := SlR.own hO3; replace hb3 := hb1.trans (hb3.mono hb1.size)) | (go_at_call 68; refine HR0.out.mono ?_; rintro e w1 ⟨u1, rfl, hs1, hb1⟩))
  go_loopw [13] (fun i wr => ∃ k : Nat, k ≤ a ∧ i = .int .i64 (k : Int) ∧ Hid (∀ j, j < k → alk (rowOf xs m 0) (rowOf xs m j) = true) ∧ Below w2.heap.size w2 wr) (fun i _ => a - (intOf i).toNat)
  case atStart => exact ⟨0, Nat.zero_le _, rfl, Lib.hid (fun j h => by omega), Below.refl _ _⟩
  case round =>
    obtain ⟨k, hk, rfl, hall, hq⟩ := hrel
    have hbw := hb3.trans (hq.mono hb3.size)
    by_cases hlt : k < a
    · have HRK := Lib.hid (HRW.out wr hbw k hlt)
      have HFK : Hid (∀ W u, SlR W u ((rowOf xs m k).map (Value.float .f32)) → Calls Try.prog 50 #[u] W (RetSl W 33 m ((falF (rowOf xs m k)).map (Value.float .f32)) id)) := Lib.hid fun W u h => HFA.out W u k hlt h
      have HEK : Hid (∀ W u1 u2, SlR W u1 ((falF (rowOf xs m 0)).map (Value.float .f32)) → SlR W u2 ((falF (rowOf xs m k)).map (Value.float .f32)) → Calls Try.prog 98 #[u1, u2] W fun e w' => e = .returned (.bool (alk (rowOf xs m 0) (rowOf xs m k))) ∧ Below W.heap.size W w') := Lib.hid fun W u1 u2 h1 h2 => HEQ.out W u1 u2 k hlt h1 h2
      have HAL : Hid (alk (rowOf xs m 0) (rowOf xs m k) = true → ∀ j, j < k + 1 → alk (rowOf xs m 0) (rowOf xs m j) = true) := Lib.hid fun h j hj => by
        by_cases e : j = k
        · rw [e]; exact h
        · exact hall.out j (by omega)
      have hno := HNO.out k hlt
      have hs3 := hO3.below hq
      generalize alk (rowOf xs m 0) (rowOf xs m k) = z at *
      cases z
      · have HRR := Lib.hid (hno rfl)
        clear hno HAL
        go_wp2_with (first
          | (go_at_call 98; refine (HEK.out _ _ _ (hs3.below (hb4.trans (hb5'.mono hb4.size))) hO5).mono ?_; rintro e w6 ⟨rfl, hb6⟩)
          | (go_at_call 50; refine (HFK.out _ _ hs4).mono ?_; rintro e w5 ⟨a5, c5, rfl, hO5, hb5'⟩; replace hO5 := SlR.own hO5)
          | (go_at_call 68; refine HRK.out.mono ?_; rintro e w4 ⟨u4, rfl, hs4, hb4⟩))
        go_ret
        have hb5 := hb4.trans (hb5'.mono hb4.size)
        have hb6' := hb5.trans (hb6.mono hb5.size)
        exact ⟨ret_bool HRR.out.symm, hbw.trans (hb6'.mono hbw.size)⟩
      · have HAL2 := Lib.hid (HAL.out rfl)
        clear hno HAL
        go_wp2_with (first
          | (go_at_call 98; refine (HEK.out _ _ _ (hs3.below (hb4.trans (hb5'.mono hb4.size))) hO5).mono ?_; rintro e w6 ⟨rfl, hb6⟩)
          | (go_at_call 50; refine (HFK.out _ _ hs4).mono ?_; rintro e w5 ⟨a5, c5, rfl, hO5, hb5'⟩; replace hO5 := SlR.own hO5)
          | (go_at_call 68; refine HRK.out.mono ?_; rintro e w4 ⟨u4, rfl, hs4, hb4⟩))
        have hb5 := hb4.trans (hb5'.mono hb4.size)
        have hb6' := hb5.trans (hb6.mono hb5.size)
        go_roundw
        case rel => exact ⟨k + 1, by omega, by go_num, HAL2, hq.trans (hb6'.mono hq.size)⟩
        case measure => simp [intOf]; omega
    · obtain rfl : k = a := by omega
      have HR := Lib.hid (HYE.out hall.out)
      go_wp2
      go_ret
      exact ⟨ret_bool HR.out.symm, hbw⟩

end Go.Proofs.Ytjobgobeiiakgaa
