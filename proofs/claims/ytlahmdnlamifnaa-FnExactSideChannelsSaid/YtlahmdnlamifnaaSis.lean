/- Channels side by side: the reference's contract. -/
import Derived.Test.YtlahmdnlamifnaaSii
import Derived.Test.YtlahmdnlamifnaaTee
import Derived.StillTactics
namespace Go.Proofs.Ytlahmdnlamifnaa
set_option linter.unusedSimpArgs false
set_option linter.unusedVariables false
open Go.RowKit
theorem dm_div {a b m : Nat} (h : b < m) : (a * m + b) / m = a := by
  rw [Nat.add_comm, Nat.add_mul_div_right _ _ (by omega), Nat.div_eq_of_lt h, Nat.zero_add]
theorem dm_mod {a b m : Nat} (h : b < m) : (a * m + b) % m = b := by
  rw [Nat.add_comm, Nat.add_mul_mod_self_right, Nat.mod_eq_of_lt h]
theorem fSide_at (xs ys : List Nat) {a2 m1 m2 i j k l : Nat} (hj : j < a2) (hl : l < m2) : fSide xs ys a2 m1 m2 (i * a2 + j) (k * m2 + l) = fA .mul .f32 (xs[i * m1 + k]?.getD 0) (ys[j * m2 + l]?.getD 0) := by
  unfold fSide
  rw [dm_div hj, dm_mod hj, dm_div hl, dm_mod hl]

set_option maxRecDepth 100000 in
set_option maxHeartbeats 8000000 in
theorem spec_SideChannels (w : World) (i j : Int) (hi : I64 i) (hj : I64 j) (v : Value) (xs : List Nat) (hv : SlR w v (xs.map (Value.float .f32))) (hx : ∀ x ∈ xs, x < 4294967296) (_ : xs.length ≤ 1048576) (i2 j2 : Int) (hi2 : I64 i2) (hj2 : I64 j2) (u : Value) (ys : List Nat) (hu : SlR w u (ys.map (Value.float .f32))) (hy : ∀ x ∈ ys, x < 4294967296) (_ : ys.length ≤ 1048576) :
    Calls Try.prog 21 #[.agg #[.int .i64 i, .int .i64 j, v], .agg #[.int .i64 i2, .int .i64 j2, u]] w (RetRd w (out_SideChannels i j xs i2 j2 ys).2.2.1.length ((out_SideChannels i j xs i2 j2 ys).2.2.1.map (Value.float .f32)) (fun v => .tuple #[.agg #[.int .i64 (out_SideChannels i j xs i2 j2 ys).1, .int .i64 (out_SideChannels i j xs i2 j2 ys).2.1, v], .bool (out_SideChannels i j xs i2 j2 ys).2.2.2])) := by
  obtain ⟨res, hres⟩ : ∃ res, res = out_SideChannels i j xs i2 j2 ys := ⟨_, rfl⟩
  rw [← hres]
  obtain ⟨W3, hW3⟩ : ∃ W3, W3 = ((w.alloc (.cells #[.int .i64 i, .int .i64 j, v] 25)).alloc (.cells #[.int .i64 i2, .int .i64 j2, u] 25)).alloc (.cells #[.int .i64 0, .int .i64 0, .slice none 0 0] 25) := ⟨_, rfl⟩
  have hsz : W3.heap.size = w.heap.size + 3 := by rw [hW3]; simp
  have hbw : Below w.heap.size w W3 := by rw [hW3]; go_grown
  have a0 : World.cell? W3 ⟨w.heap.size, 0, none⟩ = some (.int .i64 i) := by rw [hW3]; go_cell
  have a1 : World.cell? W3 ⟨w.heap.size, 1, none⟩ = some (.int .i64 j) := by rw [hW3]; go_cell
  have a2 : World.cell? W3 ⟨w.heap.size, 2, none⟩ = some v := by rw [hW3]; go_cell
  have b0 : World.cell? W3 ⟨w.heap.size + 1, 0, none⟩ = some (.int .i64 i2) := by rw [hW3]; go_cell
  have b1 : World.cell? W3 ⟨w.heap.size + 1, 1, none⟩ = some (.int .i64 j2) := by rw [hW3]; go_cell
  have b2 : World.cell? W3 ⟨w.heap.size + 1, 2, none⟩ = some u := by rw [hW3]; go_cell
  have d0 : World.cell? W3 ⟨w.heap.size + 1 + 1, 0, none⟩ = some (.int .i64 0) := by rw [hW3]; go_cell
  have d1 : World.cell? W3 ⟨w.heap.size + 1 + 1, 1, none⟩ = some (.int .i64 0) := by rw [hW3]; go_cell
  have d2 : World.cell? W3 ⟨w.heap.size + 1 + 1, 2, none⟩ = some (.slice none 0 0) := by rw [hW3]; go_cell
  have z0 : World.frozen? W3 ⟨w.heap.size + 1 + 1, 0, none⟩ = false := by rw [hW3, World.frozen?_alloc_at]; simp
  have z1 : World.frozen? W3 ⟨w.heap.size + 1 + 1, 1, none⟩ = false := by rw [hW3, World.frozen?_alloc_at]; simp
  have z2 : World.frozen? W3 ⟨w.heap.size + 1 + 1, 2, none⟩ = false := by rw [hW3, World.frozen?_alloc_at]; simp
  have HX := Lib.hid hx
  have HY := Lib.hid hy
  have hv3 := hv.below hbw
  have hu3 := hu.below hbw
  have KEEP : Hid (∀ W, Below (w.heap.size + 3) W3 W → (W.cell? ⟨w.heap.size, 0, none⟩ = some (.int .i64 i) ∧ W.cell? ⟨w.heap.size, 1, none⟩ = some (.int .i64 j) ∧ W.cell? ⟨w.heap.size, 2, none⟩ = some v) ∧ (W.cell? ⟨w.heap.size + 1, 0, none⟩ = some (.int .i64 i2) ∧ W.cell? ⟨w.heap.size + 1, 1, none⟩ = some (.int .i64 j2) ∧ W.cell? ⟨w.heap.size + 1, 2, none⟩ = some u) ∧
      (W.cell? ⟨w.heap.size + 1 + 1, 0, none⟩ = some (.int .i64 0) ∧ W.cell? ⟨w.heap.size + 1 + 1, 1, none⟩ = some (.int .i64 0) ∧ W.cell? ⟨w.heap.size + 1 + 1, 2, none⟩ = some (.slice none 0 0)) ∧ (W.frozen? ⟨w.heap.size + 1 + 1, 0, none⟩ = false ∧ W.frozen? ⟨w.heap.size + 1 + 1, 1, none⟩ = false ∧ W.frozen? ⟨w.heap.size + 1 + 1, 2, none⟩ = false)) := by
    show ∀ W, _
    intro W hW
    have hl : w.heap.size + 1 + 1 < W3.heap.size := by omega
    rw [← hsz] at hW
    exact ⟨⟨cell_step a0 hW, cell_step a1 hW, cell_step a2 hW⟩, ⟨cell_step b0 hW, cell_step b1 hW, cell_step b2 hW⟩, ⟨cell_step d0 hW, cell_step d1 hW, cell_step d2 hW⟩, ⟨(hW.frozen (p := ⟨w.heap.size + 1 + 1, 0, none⟩) hl).trans z0, (hW.frozen (p := ⟨w.heap.size + 1 + 1, 1, none⟩) hl).trans z1, (hW.frozen (p := ⟨w.heap.size + 1 + 1, 2, none⟩) hl).trans z2⟩⟩
  have ZERO : Hid (∀ W, Below w.heap.size w W → RetRd w ([] : List Nat).length (([] : List Nat).map (Value.float .f32)) (fun v => .tuple #[.agg #[.int .i64 0, .int .i64 0, v], .bool false]) (.returned (.tuple #[.agg #[.int .i64 0, .int .i64 0, .slice none 0 0], .bool false])) (((W.setCell ⟨w.heap.size + 1 + 1, 0, none⟩ (.int .i64 0)).setCell ⟨w.heap.size + 1 + 1, 1, none⟩ (.int .i64 0)).setCell ⟨w.heap.size + 1 + 1, 2, none⟩ (.slice none 0 0))) := by
    show ∀ W, _
    intro W hW
    exact RetSl.rd (RetSl.nul (T := 22) (f := fun v => .tuple #[.agg #[.int .i64 0, .int .i64 0, v], .bool false]) (((hW.setCell (p := ⟨w.heap.size + 1 + 1, 0, none⟩) (show w.heap.size ≤ w.heap.size + 1 + 1 by omega) _).setCell (p := ⟨w.heap.size + 1 + 1, 1, none⟩) (show w.heap.size ≤ w.heap.size + 1 + 1 by omega) _).setCell (p := ⟨w.heap.size + 1 + 1, 2, none⟩) (show w.heap.size ≤ w.heap.size + 1 + 1 by omega) _))
  have HBW := Lib.hid hbw
  cases hva : validCh i j xs
  · have HR : Hid (res = (0, 0, [], false)) := by show res = _; rw [hres]; unfold out_SideChannels sideOk; rw [hva]; rfl
    have HA := Lib.hid hva
    clear hva hres hx hy
    go_enter Try.func21, Try.ntmps21
    go_wp2_with fail
    rw [← hW3]
    clear hW3
    go_wp2_with (go_at_call 54; refine (l03Is_any _ i j _ xs _ a0 a1 a2 hv3 HX.out).mono ?_; rw [HA.out]; rintro e w1 ⟨rfl, hq1⟩; have hb1 := hq1.below (w.heap.size + 3); obtain ⟨⟨a0, a1, a2⟩, ⟨b0, b1, b2⟩, ⟨d0, d1, d2⟩, z0, z1, z2⟩ := KEEP.out _ hb1)
    refine bodyPost_ret (v := .tuple #[.agg #[.int .i64 0, .int .i64 0, .slice none 0 0], .bool false]) (by simp [results, Try.results21, go_sem, *]) rfl ?_
    rw [HR.out]
    exact ZERO.out _ (HBW.out.trans (hb1.mono (by omega)))
  · cases hvb : validCh i2 j2 ys
    · have HR : Hid (res = (0, 0, [], false)) := by show res = _; rw [hres]; unfold out_SideChannels sideOk; rw [hva, hvb]; rfl
      have HA := Lib.hid hva
      have HB := Lib.hid hvb
      clear hva hvb hres hx hy
      go_enter Try.func21, Try.ntmps21
      go_wp2_with fail
      rw [← hW3]
      clear hW3
      go_wp2_with (first | (go_at_call 54; refine (l03Is_any _ i2 j2 _ ys _ b0 b1 b2 hu4 HY.out).mono ?_; rw [HB.out]; rintro e w2 ⟨rfl, hq2⟩; have hb12 := hb1.trans (hq2.below (w.heap.size + 3)); obtain ⟨⟨a0, a1, a2⟩, ⟨b0, b1, b2⟩, ⟨d0, d1, d2⟩, z0, z1, z2⟩ := KEEP.out _ hb12) | (go_at_call 54; refine (l03Is_any _ i j _ xs _ a0 a1 a2 hv3 HX.out).mono ?_; rw [HA.out]; rintro e w1 ⟨rfl, hq1⟩; have hb1 := hq1.below (w.heap.size + 3); have hu4 := hu3.below hq1.keep; obtain ⟨⟨a0, a1, a2⟩, ⟨b0, b1, b2⟩, ⟨d0, d1, d2⟩, z0, z1, z2⟩ := KEEP.out _ hb1))
      refine bodyPost_ret (v := .tuple #[.agg #[.int .i64 0, .int .i64 0, .slice none 0 0], .bool false]) (by simp [results, Try.results21, go_sem, *]) rfl ?_
      rw [HR.out]
      exact ZERO.out _ (HBW.out.trans (hb12.mono (by omega)))
    · obtain ⟨A1, M1, rfl, rfl, A11, A18, M11, M18, hl, hrows⟩ := validCh_nat hva
      obtain ⟨A2, M2, rfl, rfl, A21, A28, M21, M28, hl2, hrows2⟩ := validCh_nat hvb
      obtain ⟨N, hN⟩ : ∃ N, N = A1 * A2 := ⟨_, rfl⟩
      obtain ⟨M, hM⟩ : ∃ M, M = M1 * M2 := ⟨_, rfl⟩
      have hN64 : N ≤ 64 := by rw [hN]; exact prod_le A18 A28
      have hM64 : M ≤ 64 := by rw [hM]; exact prod_le M18 M28
      have i1 : (A1 : Int) * (A2 : Int) = (N : Int) := by rw [hN]; simp
      have i3 : (M1 : Int) * (M2 : Int) = (M : Int) := by rw [hM]; simp
      have i2' : IntKind.i64.wrap ((A1 : Int) * (A2 : Int)) = (N : Int) := by rw [i1]; exact IntWalk.i64_in _ (by omega)
      have i4 : IntKind.i64.wrap ((M1 : Int) * (M2 : Int)) = (M : Int) := by rw [i3]; exact IntWalk.i64_in _ (by omega)
      have HA := Lib.hid hva
      have HB := Lib.hid hvb
      by_cases hn8 : N ≤ 8
      · by_cases hm8 : M ≤ 8
        · have hR : res = outCh (N : Int) (M : Int) (chA (fSide xs ys A2 M1 M2) M N) := by
            rw [hres]; unfold out_SideChannels sideOk; rw [hva, hvb, i1, i3, decide_eq_true (show (N : Int) ≤ 8 by omega), decide_eq_true (show (M : Int) ≤ 8 by omega)]; simp
          have hN1 : 1 ≤ N := by rw [hN]; exact Nat.mul_pos A11 A21
          have hM1 : 1 ≤ M := by rw [hM]; exact Nat.mul_pos M11 M21
          obtain ⟨xb, xo, xc, rfl, hxnc, hxcm, hxb, hxk⟩ := fl_cells2 hv3 hl (Nat.mul_pos A11 M11)
          obtain ⟨yb, yo, yc, rfl, hync, hycm, hyb, hyk⟩ := fl_cells2 hu3 hl2 (Nat.mul_pos A21 M21)
          obtain ⟨nx, hnx⟩ : ∃ nx, nx = A1 * M1 := ⟨_, rfl⟩
          obtain ⟨ny, hny⟩ : ∃ ny, ny = A2 * M2 := ⟨_, rfl⟩
          rw [← hnx] at a2 hv3 KEEP hxnc hxk
          rw [← hny] at b2 hu3 KEEP hync hyk
          have HRES := Lib.hid hR
          have HN := Lib.hid hN
          have HM := Lib.hid hM
          have HNX := Lib.hid hnx
          have HNY := Lib.hid hny
          have HXK := Lib.hid hxk
          have HYK := Lib.hid hyk
          have hn9 : ¬ (8 : Int) < (N : Int) := by omega
          have hm9 : ¬ (8 : Int) < (M : Int) := by omega
          have HCX : Hid (∀ i k, i < A1 → k < M1 → Ch (xs[i * M1 + k]?.getD 0)) := fun i k h1 h2 => ch_el hl hrows h1 h2
          have HCY : Hid (∀ i k, i < A2 → k < M2 → Ch (ys[i * M2 + k]?.getD 0)) := fun i k h1 h2 => ch_el hl2 hrows2 h1 h2
          have HF : Hid (∀ y ∈ chA (fSide xs ys A2 M1 M2) M N, y < 4294967296) := by
            show ∀ y ∈ _, _
            intro y hy
            obtain ⟨q, k, hq, hk, rfl⟩ := chA_mem hy
            exact (fSide_lt hl hrows hl2 hrows2 (by rw [← hN]; exact hq) (by rw [← hM]; exact hk)).2.2
          clear hva hvb hres hx hy hR hN hM hl hl2 hrows hrows2 hxk hyk hnx hny hv hu hbw
          go_enter Try.func21, Try.ntmps21
          go_wp2_with fail
          rw [← hW3]
          clear hW3
          go_wp2_with (first | (go_at_call 54; refine (l03Is_any _ (A2 : Int) (M2 : Int) _ ys _ b0 b1 b2 hu4 HY.out).mono ?_; rw [HB.out]; rintro e w2 ⟨rfl, hq2⟩; have hb12 := hb1.trans (hq2.below (w.heap.size + 3)); have hs2 : w2.heap.size = w.heap.size + 3 := (by obtain ⟨mq, rfl⟩ := hq2; obtain ⟨mq1, rfl⟩ := hq1; exact hsz); obtain ⟨⟨a0, a1, a2⟩, ⟨b0, b1, b2⟩, ⟨d0, d1, d2⟩, z0, z1, z2⟩ := KEEP.out _ hb12) | (go_at_call 54; refine (l03Is_any _ (A1 : Int) (M1 : Int) _ xs _ a0 a1 a2 hv3 HX.out).mono ?_; rw [HA.out]; rintro e w1 ⟨rfl, hq1⟩; have hb1 := hq1.below (w.heap.size + 3); have hu4 := hu3.below hq1.keep; obtain ⟨⟨a0, a1, a2⟩, ⟨b0, b1, b2⟩, ⟨d0, d1, d2⟩, z0, z1, z2⟩ := KEEP.out _ hb1))
          obtain ⟨W2, hW2⟩ : ∃ W2, W2 = w2.alloc (.cells #[.int .i64 (N : Int), .int .i64 (M : Int), .slice none 0 0] 25) := ⟨_, rfl⟩
          have hs4 : W2.heap.size = w.heap.size + 4 := by rw [hW2]; simp [hs2]
          have hb2 : Below (w.heap.size + 3) W3 W2 := by rw [hW2]; exact hb12.alloc (by omega) _
          have hS0 : StB W2 (w.heap.size + 3) N M none 0 (chA (fSide xs ys A2 M1 M2) M 0) := by
            refine ⟨?_, ?_, ?_, ?_, rfl, .inl ⟨rfl, rfl⟩⟩
            · rw [hW2, ← hs2]; simp
            · rw [hW2, ← hs2]; simp
            · show World.cell? W2 _ = some (.slice none 0 0)
              rw [hW2, ← hs2]; simp
            · rw [hW2, ← hs2, World.frozen?_alloc_at]; simp
          have hxb3 : xb < w.heap.size + 3 := by omega
          have hyb3 : yb < w.heap.size + 3 := by omega
          rw [← hW2]
          clear hW2 hb12 hs2 hq2 hb1 hu4 hq1 hu3 hv3 a0 a1 a2 b0 b1 b2 d0 d1 d2 z0 z1 z2 hsz hs4 hn9 hm9 i1 i2' i3 i4 hxb hyb
          have HB2 := Lib.hid hb2
          clear hb2
          go_loopw [7] (fun q wr => ∃ i : Nat, i ≤ A1 ∧ q = .int .i64 i ∧ (∃ ad cd, StB wr (w.heap.size + 3) N M ad cd (chA (fSide xs ys A2 M1 M2) M (i * A2))) ∧ Below (w.heap.size + 3) W2 wr) (fun q _ => A1 - (intOf q).toNat)
          case atStart => exact ⟨0, Nat.zero_le _, rfl, ⟨none, 0, by rw [Nat.zero_mul]; exact hS0⟩, Below.refl _ _⟩
          case round =>
            clear hS0
            obtain ⟨i, hi1, rfl, ⟨ad, cd, hS⟩, hb⟩ := hrel
            obtain ⟨⟨a0, a1, a2⟩, ⟨b0, b1, b2⟩, ⟨d0, d1, d2⟩, z0, z1, z2⟩ := KEEP.out _ (HB2.out.trans hb)
            by_cases hlt : i < A1
            · clear d0 d1 d2 z0 z1 z2 a1 a2 b0 b1 b2
              go_wp2
              obtain ⟨wo, hwo⟩ : ∃ wo : World, wo = wr := ⟨_, rfl⟩
              rw [← hwo] at hS hb a0 ⊢
              clear hwo wr
              go_loopw [8] (fun q wr => ∃ j : Nat, j ≤ A2 ∧ q = .int .i64 j ∧ (∃ ad cd, StB wr (w.heap.size + 3) N M ad cd (chA (fSide xs ys A2 M1 M2) M (i * A2 + j))) ∧ Below (w.heap.size + 3) W2 wr) (fun q _ => A2 - (intOf q).toNat)
              case atStart => exact ⟨0, Nat.zero_le _, rfl, ⟨ad, cd, hS⟩, hb⟩
              case round =>
                clear hS hb a0
                obtain ⟨j, hj1, rfl, ⟨ad, cd, hS⟩, hb⟩ := hrel
                obtain ⟨-, ⟨b0, -, -⟩, -, -⟩ := KEEP.out _ (HB2.out.trans hb)
                by_cases hlt2 : j < A2
                · go_wp2
                  obtain ⟨wo2, hwo⟩ : ∃ wo2 : World, wo2 = wr := ⟨_, rfl⟩
                  rw [← hwo] at hS hb b0 ⊢
                  clear hwo wr
                  go_loopw [9] (fun q wr => ∃ k : Nat, k ≤ M1 ∧ q = .int .i64 k ∧ (∃ ad cd, StB wr (w.heap.size + 3) N M ad cd (chA (fSide xs ys A2 M1 M2) M (i * A2 + j) ++ chR (fSide xs ys A2 M1 M2) (i * A2 + j) (k * M2))) ∧ Below (w.heap.size + 3) W2 wr) (fun q _ => M1 - (intOf q).toNat)
                  case atStart => exact ⟨0, Nat.zero_le _, rfl, ⟨ad, cd, by rw [Nat.zero_mul]; simpa [chR] using hS⟩, hb⟩
                  case round =>
                    clear hS hb b0
                    obtain ⟨k, hk1, rfl, ⟨ad, cd, hS⟩, hb⟩ := hrel
                    obtain ⟨⟨-, a1, -⟩, -, -, -⟩ := KEEP.out _ (HB2.out.trans hb)
                    by_cases hlt3 : k < M1
                    · go_wp2
                      obtain ⟨wo3, hwo⟩ : ∃ wo3 : World, wo3 = wr := ⟨_, rfl⟩
                      rw [← hwo] at hS hb a1 ⊢
                      clear hwo wr
                      go_loopw [10] (fun q wr => ∃ l : Nat, l ≤ M2 ∧ q = .int .i64 l ∧ (∃ ad cd, StB wr (w.heap.size + 3) N M ad cd (chA (fSide xs ys A2 M1 M2) M (i * A2 + j) ++ chR (fSide xs ys A2 M1 M2) (i * A2 + j) (k * M2 + l))) ∧ Below (w.heap.size + 3) W2 wr) (fun q _ => M2 - (intOf q).toNat)
                      case atStart => exact ⟨0, Nat.zero_le _, rfl, ⟨ad, cd, hS⟩, hb⟩
                      case round =>
                        clear hS hb a1
                        obtain ⟨l, hl1, rfl, ⟨ad, cd, hS⟩, hb⟩ := hrel
                        obtain ⟨⟨-, a1, a2⟩, ⟨-, b1, b2⟩, -, -⟩ := KEEP.out _ (HB2.out.trans hb)
                        by_cases hlt4 : l < M2
                        · obtain ⟨P, hP⟩ : ∃ P, P = i * M1 := ⟨_, rfl⟩
                          obtain ⟨R, hR⟩ : ∃ R, R = j * M2 := ⟨_, rfl⟩
                          have hPn : P + M1 ≤ nx := by rw [hP, HNX.out]; have := row_le (m := M1) hlt; rw [Nat.add_mul, Nat.one_mul] at this; exact this
                          have hRn : R + M2 ≤ ny := by rw [hR, HNY.out]; have := row_le (m := M2) hlt2; rw [Nat.add_mul, Nat.one_mul] at this; exact this
                          have hn64 : nx ≤ 64 := by rw [HNX.out]; exact prod_le A18 M18
                          have hm64 : ny ≤ 64 := by rw [HNY.out]; exact prod_le A28 M28
                          have hmul := (mul_ch (HCX.out i k hlt hlt3) (HCY.out j l hlt2 hlt4)).1
                          have x0 := HXK.out (P + k) (by omega)
                          have y0 := HYK.out (R + l) (by omega)
                          have hxc := ((HB2.out.trans hb).cell (p := ⟨xb, xo + (P + k), none⟩) hxb3).trans x0
                          have hyc := ((HB2.out.trans hb).cell (p := ⟨yb, yo + (R + l), none⟩) hyb3).trans y0
                          have HCS := Lib.hid (chR_succ (fSide xs ys A2 M1 M2) (i * A2 + j) (k * M2 + l))
                          rw [fSide_at xs ys hlt2 hlt4] at HCS
                          rw [← hP, ← hR] at HCS hmul
                          generalize xs[P + k]?.getD 0 = z at *
                          generalize ys[R + l]?.getD 0 = s at *
                          obtain ⟨p1, hp1⟩ : ∃ p1, p1 = P + k := ⟨_, rfl⟩
                          obtain ⟨p2, hp2⟩ : ∃ p2, p2 = R + l := ⟨_, rfl⟩
                          rw [← hp1] at hxc
                          rw [← hp2] at hyc
                          obtain ⟨y, hyy⟩ : ∃ y, y = fA .mul .f32 z s := ⟨_, rfl⟩
                          rw [← hyy] at HCS
                          have hrun := fun W : World => run_fA (P := Try.prog) (w := W) .mul 22 .f32 _ _ hmul
                          rw [← hyy] at hrun
                          have e1 : (i : Int) * (M1 : Int) = (P : Int) := by rw [hP]; simp
                          have e2 : IntKind.i64.wrap ((i : Int) * (M1 : Int)) = (P : Int) := by rw [e1]; exact IntWalk.i64_in _ (by omega)
                          have e3 : (P : Int) + (k : Int) = (p1 : Int) := by rw [hp1]; simp
                          have e4 : IntKind.i64.wrap ((P : Int) + (k : Int)) = (p1 : Int) := by rw [e3]; exact IntWalk.i64_in _ (by omega)
                          have f1 : (j : Int) * (M2 : Int) = (R : Int) := by rw [hR]; simp
                          have f2' : IntKind.i64.wrap ((j : Int) * (M2 : Int)) = (R : Int) := by rw [f1]; exact IntWalk.i64_in _ (by omega)
                          have f3 : (R : Int) + (l : Int) = (p2 : Int) := by rw [hp2]; simp
                          have f4 : IntKind.i64.wrap ((R : Int) + (l : Int)) = (p2 : Int) := by rw [f3]; exact IntWalk.i64_in _ (by omega)
                          have j1 : IntKind.i64.wrap (P : Int) = (P : Int) := IntWalk.i64_in _ (by omega)
                          have j2 : IntKind.i64.wrap (p1 : Int) = (p1 : Int) := IntWalk.i64_in _ (by omega)
                          have j3 : IntKind.i64.wrap (R : Int) = (R : Int) := IntWalk.i64_in _ (by omega)
                          have j4 : IntKind.i64.wrap (p2 : Int) = (p2 : Int) := IntWalk.i64_in _ (by omega)
                          have l1 : (0 : Int) ≤ (p1 : Int) := by omega
                          have l2 : (p1 : Int) < (nx : Int) := by omega
                          have l3 : p1 < nx := by omega
                          have l4 : (0 : Int) ≤ (p2 : Int) := by omega
                          have l5 : (p2 : Int) < (ny : Int) := by omega
                          have l6 : p2 < ny := by omega
                          obtain ⟨zs, hzs⟩ : ∃ zs, zs = chA (fSide xs ys A2 M1 M2) M (i * A2 + j) ++ chR (fSide xs ys A2 M1 M2) (i * A2 + j) (k * M2 + l) := ⟨_, rfl⟩
                          rw [← hzs] at hS
                          have HZ := Lib.hid hzs
                          have hzl : zs.length ≤ 4096 := by
                            have hq : i * A2 + j ≤ 64 := by have h1 := row_le (m := A2) hlt; rw [Nat.add_mul, Nat.one_mul] at h1; have := prod_le A18 A28; omega
                            have hr : k * M2 + l ≤ 64 := by have h1 := row_le (m := M2) hlt3; rw [Nat.add_mul, Nat.one_mul] at h1; have := prod_le M18 M28; omega
                            rw [HZ.out, List.length_append, chA_length, chR_length]
                            have : (i * A2 + j) * M ≤ 64 * 8 := Nat.mul_le_mul hq hm8
                            omega
                          have hlS := hS.lt
                          have hSd : StB (wr.alloc (.cells #[.float .f32 y] 22)).drew (w.heap.size + 3) N M ad cd zs := hS.below (by go_grown)
                          have hbd : Below (w.heap.size + 3) W2 (wr.alloc (.cells #[.float .f32 y] 22)).drew := Below.drew (hb.alloc (by omega) _)
                          have hry : World.cell? (wr.alloc (.cells #[.float .f32 y] 22)).drew ⟨wr.heap.size, 0, none⟩ = some (.float .f32 y) := by go_cell
                          have f2 := hS.2.2.1
                          have f2a : World.cell? (wr.alloc (.cells #[.float .f32 y] 22)) _ = _ := hSd.2.2.1
                          have HSD := Lib.hid hSd
                          have HBD := Lib.hid hbd
                          have X := fun (ops : Array Oper) (o : Oper) (A : Act) (K : Act → World → Prop) (Q : Exit → Act → World → Prop) (E : Prop) h1 s x h2 h3 h4 h5 => StB.law (ops := ops) (o := o) (A := A) (K := K) (Q := Q) (E := E) hSd hzl y wr.heap.size hry (wr.heap.size + 1) (by simp [World.drew]) h1 s x h2 h3 h4 h5
                          clear hzs hP hR hp1 hp2 x0 y0 hyy hSd hbd hry hS hb hmul hPn hRn hn64 hm64 e1 f1
                          go_wp2
                          refine wp_region_any (by kernel_rfl) ?_
                          change wpAny _ _ _ _ _ _ _ (World.drew _)
                          refine wpAny_take (i := 0) (v := .pointer (some ⟨w.heap.size + 3, 2, none⟩)) rfl (by kernel_rfl) (by kernel_rfl) (by kernel_rfl) (fun _ _ _ h => h) (Or.inl ⟨by rfl, by intro w; go_simp⟩) ?_
                          refine wpAny_chain (T := [0, 1]) 2 21 5 (by decide) (by kernel_rfl) (by kernel_rfl) ?_
                          simp only [List.take_succ_cons, List.take_zero, List.drop_succ_cons, List.drop_zero]
                          repeat still_step
                          refine wpStill_nil ?_
                          refine Lc_one (t := 1) (by kernel_rfl) (wpAny_two 1 23 [23, 24, 25, 26] [1, 24, 25, 26] _ _ rfl (by kernel_rfl) ?_ ?_) (stOp_pick (by decide) ?_)
                          case' refine_3 =>
                            simp only [pick, List.flatMap_cons, List.flatMap_nil, List.take_succ_cons, List.take_zero, List.drop_succ_cons, List.drop_zero, List.cons_append, List.nil_append, List.append_nil]
                            still_step
                            refine wpStill_nil (wpAny_idx [23, 24, 25, 26] _ _ _ (by kernel_rfl) ?_)
                          all_goals
                            simp only [pick, List.flatMap_cons, List.flatMap_nil, List.take_succ_cons, List.take_zero, List.drop_succ_cons, List.drop_zero, List.cons_append, List.nil_append, List.append_nil]
                            repeat (refine wpList_step (fun K hK => ?_); first | ((with_reducible refine X _ _ _ _ _ _ ?_ (.tmp 70) (.tmp 92) ?_ ?_ ?_ ?_); rfl; rfl; rfl; rfl; intro g2 c2 w2 ho2 hg2 hc2 hf2; refine hK _ _ ?_; clear hK K) | (go_simp; refine hK _ _ ?_; clear hK K))
                            clear X
                            go_wp2
                            exact ⟨⟨l + 1, by omega, by go_num, ⟨some ⟨g2, 0, none⟩, c2, by rw [← Nat.add_assoc (k * M2), HCS.out, ← List.append_assoc, ← HZ.out]; exact StB.push HSD.out hg2 ho2⟩, push_below HBD.out HSD.out (by omega) hg2⟩, by simp [intOf]; omega⟩
                        · obtain rfl : M2 = l := by omega
                          go_wp2
                          go_roundw
                          case rel => exact ⟨k + 1, by omega, by go_num, ⟨ad, cd, by rw [Nat.add_mul, Nat.one_mul]; exact hS⟩, hb⟩
                          case measure => simp [intOf]; omega
                    · obtain rfl : M1 = k := by omega
                      go_wp2
                      go_roundw
                      case rel => exact ⟨j + 1, by omega, by go_num, ⟨ad, cd, by rw [← Nat.add_assoc, chA_succ]; have h := hS; rw [← HM.out] at h; exact h⟩, hb⟩
                      case measure => simp [intOf]; omega
                · obtain rfl : A2 = j := by omega
                  go_wp2
                  go_roundw
                  case rel => exact ⟨i + 1, by omega, by go_num, ⟨ad, cd, by rw [Nat.add_mul, Nat.one_mul]; exact hS⟩, hb⟩
                  case measure => simp [intOf]; omega
            · obtain rfl : A1 = i := by omega
              rw [← HN.out] at hS
              have hbF : Below w.heap.size w wr := HBW.out.trans ((HB2.out.trans hb).mono (by omega))
              have hlS := hS.lt
              obtain ⟨s0, s1, s2, s3, s4⟩ := hS
              clear a1 a2 b0 b1 b2
              generalize chA (fSide xs ys A2 M1 M2) M N = zs at *
              cases hvv : validCh (N : Int) (M : Int) zs
              · have HV := Lib.hid hvv
                have HR : Hid (res = (0, 0, [], false)) := by show res = _; rw [HRES.out, outCh_no hvv]
                clear hvv
                go_wp2_with (go_at_call 46; refine (l03Give_no (N : Int) (M : Int) (i64_8 hn8) (i64_8 hm8) _ zs _ (SlR.own s4) HF.out HV.out).mono ?_; rintro e w4 ⟨rfl, hb4⟩; have hb24 := (HB2.out.trans hb).trans (hb4.mono (Nat.le_of_lt hlS)); obtain ⟨-, -, ⟨d0, d1, d2⟩, z0, z1, z2⟩ := KEEP.out _ hb24)
                refine bodyPost_ret (v := .tuple #[.agg #[.int .i64 0, .int .i64 0, .slice none 0 0], .bool false]) (by simp [results, Try.results21, go_sem, *]) rfl ?_
                rw [HR.out]
                exact ZERO.out _ (hbF.trans (hb4.mono hbF.size))
              · have HV := Lib.hid hvv
                have HR : Hid (res = ((N : Int), (M : Int), zs, true)) := by show res = _; rw [HRES.out, outCh_yes hvv]
                clear hvv
                go_wp2_with (go_at_call 46; refine (l03Give_yes (N : Int) (M : Int) (i64_8 hn8) (i64_8 hm8) _ zs _ (SlR.own s4) HF.out HV.out).mono ?_; rintro e w4 ⟨rfl, hb4⟩; have hb24 := (HB2.out.trans hb).trans (hb4.mono (Nat.le_of_lt hlS)); obtain ⟨-, -, ⟨d0, d1, d2⟩, z0, z1, z2⟩ := KEEP.out _ hb24; have s5 := ownsRow_below s4 hb4)
                refine bodyPost_ret (v := .tuple #[.agg #[.int .i64 (N : Int), .int .i64 (M : Int), .slice ad zs.length cd], .bool true]) (by simp [results, Try.results21, go_sem, *]) rfl ?_
                rw [HR.out]
                dsimp only
                have hb5 := hbF.trans (hb4.mono hbF.size)
                have o1 := ownsRow_setCell_below (a := ⟨w.heap.size + 1 + 1, 0, none⟩) s5 (show w.heap.size + 1 + 1 < w.heap.size + 3 + 1 by omega) (.int .i64 (N : Int))
                have o2 := ownsRow_setCell_below (a := ⟨w.heap.size + 1 + 1, 1, none⟩) o1 (show w.heap.size + 1 + 1 < w.heap.size + 3 + 1 by omega) (.int .i64 (M : Int))
                have o3 := ownsRow_setCell_below (a := ⟨w.heap.size + 1 + 1, 2, none⟩) o2 (show w.heap.size + 1 + 1 < w.heap.size + 3 + 1 by omega) (.slice ad zs.length cd)
                exact RetRd.mk (f := fun v => .tuple #[.agg #[.int .i64 (N : Int), .int .i64 (M : Int), v], .bool true]) (SlR.own o3) (((hb5.setCell (p := ⟨w.heap.size + 1 + 1, 0, none⟩) (show w.heap.size ≤ w.heap.size + 1 + 1 by omega) _).setCell (p := ⟨w.heap.size + 1 + 1, 1, none⟩) (show w.heap.size ≤ w.heap.size + 1 + 1 by omega) _).setCell (p := ⟨w.heap.size + 1 + 1, 2, none⟩) (show w.heap.size ≤ w.heap.size + 1 + 1 by omega) _)
        · have HR : Hid (res = (0, 0, [], false)) := by show res = _; rw [hres]; unfold out_SideChannels sideOk; rw [i3, decide_eq_false (show ¬ (M : Int) ≤ 8 by omega)]; simp
          have hm9 : (8 : Int) < (M : Int) := by omega
          have hn9 : ¬ (8 : Int) < (N : Int) := by omega
          clear hva hvb hres hx hy hN hM hl hl2 hrows hrows2
          go_enter Try.func21, Try.ntmps21
          go_wp2_with fail
          rw [← hW3]
          clear hW3
          go_wp2_with (first | (go_at_call 54; refine (l03Is_any _ (A2 : Int) (M2 : Int) _ ys _ b0 b1 b2 hu4 HY.out).mono ?_; rw [HB.out]; rintro e w2 ⟨rfl, hq2⟩; have hb12 := hb1.trans (hq2.below (w.heap.size + 3)); obtain ⟨⟨a0, a1, a2⟩, ⟨b0, b1, b2⟩, ⟨d0, d1, d2⟩, z0, z1, z2⟩ := KEEP.out _ hb12) | (go_at_call 54; refine (l03Is_any _ (A1 : Int) (M1 : Int) _ xs _ a0 a1 a2 hv3 HX.out).mono ?_; rw [HA.out]; rintro e w1 ⟨rfl, hq1⟩; have hb1 := hq1.below (w.heap.size + 3); have hu4 := hu3.below hq1.keep; obtain ⟨⟨a0, a1, a2⟩, ⟨b0, b1, b2⟩, ⟨d0, d1, d2⟩, z0, z1, z2⟩ := KEEP.out _ hb1))
          refine bodyPost_ret (v := .tuple #[.agg #[.int .i64 0, .int .i64 0, .slice none 0 0], .bool false]) (by simp [results, Try.results21, go_sem, *]) rfl ?_
          rw [HR.out]
          exact ZERO.out _ (HBW.out.trans (hb12.mono (by omega)))
      · have HR : Hid (res = (0, 0, [], false)) := by show res = _; rw [hres]; unfold out_SideChannels sideOk; rw [i1, decide_eq_false (show ¬ (N : Int) ≤ 8 by omega)]; simp
        have hn9 : (8 : Int) < (N : Int) := by omega
        clear hva hvb hres hx hy hN hM hl hl2 hrows hrows2
        go_enter Try.func21, Try.ntmps21
        go_wp2_with fail
        rw [← hW3]
        clear hW3
        go_wp2_with (first | (go_at_call 54; refine (l03Is_any _ (A2 : Int) (M2 : Int) _ ys _ b0 b1 b2 hu4 HY.out).mono ?_; rw [HB.out]; rintro e w2 ⟨rfl, hq2⟩; have hb12 := hb1.trans (hq2.below (w.heap.size + 3)); obtain ⟨⟨a0, a1, a2⟩, ⟨b0, b1, b2⟩, ⟨d0, d1, d2⟩, z0, z1, z2⟩ := KEEP.out _ hb12) | (go_at_call 54; refine (l03Is_any _ (A1 : Int) (M1 : Int) _ xs _ a0 a1 a2 hv3 HX.out).mono ?_; rw [HA.out]; rintro e w1 ⟨rfl, hq1⟩; have hb1 := hq1.below (w.heap.size + 3); have hu4 := hu3.below hq1.keep; obtain ⟨⟨a0, a1, a2⟩, ⟨b0, b1, b2⟩, ⟨d0, d1, d2⟩, z0, z1, z2⟩ := KEEP.out _ hb1))
        refine bodyPost_ret (v := .tuple #[.agg #[.int .i64 0, .int .i64 0, .slice none 0 0], .bool false]) (by simp [results, Try.results21, go_sem, *]) rfl ?_
        rw [HR.out]
        exact ZERO.out _ (HBW.out.trans (hb12.mono (by omega)))

end Go.Proofs.Ytlahmdnlamifnaa
