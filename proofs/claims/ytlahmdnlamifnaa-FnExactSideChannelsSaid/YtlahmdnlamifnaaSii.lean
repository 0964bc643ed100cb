/- Channels side by side: the program's contract. -/
import Derived.Test.YtlahmdnlamifnaaSid
namespace Go.Proofs.Ytlahmdnlamifnaa
set_option linter.unusedSimpArgs false
set_option linter.unusedVariables false
open Go.RowKit
theorem fl_cells2 {w : World} {v : Value} {xs : List Nat} {m : Nat} (hv : SlR w v (xs.map (Value.float .f32))) (hm : xs.length = m) (h : 1 ≤ m) : ∃ b off c, v = .slice (some ⟨b, off, none⟩) m c ∧ m ≤ c ∧ c ≤ maxLen ∧ b < w.heap.size ∧ ∀ k, k < m → w.cell? ⟨b, off + k, none⟩ = some (.float .f32 (xs[k]?.getD 0)) := by
  obtain ⟨a, n, c, rfl, hnl, hnc, hcm, hcell⟩ := SlR.opened 0 hv
  obtain rfl : n = m := by omega
  obtain ⟨b, off, rfl, -, hbl⟩ := hcell 0 h
  refine ⟨b, off, c, rfl, hnc, hcm, hbl, fun k hk => ?_⟩
  obtain ⟨b1, o1, h1, h2, _⟩ := hcell k hk
  simp only [Option.some.injEq, Addr.mk.injEq] at h1
  obtain ⟨rfl, rfl, _⟩ := h1
  rw [List.getD_eq_getElem?_getD] at h2
  exact h2

set_option maxHeartbeats 4000000 in
theorem impl_SideChannels (w : World) (i j : Int) (hi : I64 i) (hj : I64 j) (v : Value) (xs : List Nat) (hv : SlR w v (xs.map (Value.float .f32))) (hx : ∀ x ∈ xs, x < 4294967296) (_ : xs.length ≤ 1048576) (i2 j2 : Int) (hi2 : I64 i2) (hj2 : I64 j2) (u : Value) (ys : List Nat) (hu : SlR w u (ys.map (Value.float .f32))) (hy : ∀ x ∈ ys, x < 4294967296) (_ : ys.length ≤ 1048576) :
    Calls Try.prog 23 #[.agg #[.int .i64 i, .int .i64 j, v], .agg #[.int .i64 i2, .int .i64 j2, u]] w (RetSl w 22 (out_SideChannels i j xs i2 j2 ys).2.2.1.length ((out_SideChannels i j xs i2 j2 ys).2.2.1.map (Value.float .f32)) (fun v => .tuple #[.agg #[.int .i64 (out_SideChannels i j xs i2 j2 ys).1, .int .i64 (out_SideChannels i j xs i2 j2 ys).2.1, v], .bool (out_SideChannels i j xs i2 j2 ys).2.2.2])) := by
  obtain ⟨res, hres⟩ : ∃ res, res = out_SideChannels i j xs i2 j2 ys := ⟨_, rfl⟩
  rw [← hres]
  have hmf : ∀ (fn : Fn) (first cap : Array Value) (w : World), (Instr.makeFunc fn first cap).run Try.prog w = .ok (.func fn first cap) w := fun _ _ _ _ => rfl
  obtain ⟨W3, hW3⟩ : ∃ W3, W3 = ((w.alloc (.cells #[.int .i64 i, .int .i64 j, v] 25)).alloc (.cells #[.int .i64 i2, .int .i64 j2, u] 25)).alloc (.cells #[.int .i64 0, .int .i64 0, .slice none 0 0] 25) := ⟨_, rfl⟩
  have hsz : W3.heap.size = w.heap.size + 3 := by rw [hW3]; simp
  have hbw : Below w.heap.size w W3 := by rw [hW3]; go_grown
  have a0 : World.cell? W3 ⟨w.heap.size, 0, none⟩ = some (.int .i64 i) := by rw [hW3]; go_cell
  have a1 : World.cell? W3 ⟨w.heap.size, 1, none⟩ = some (.int .i64 j) := by rw [hW3]; go_cell
  have a2 : World.cell? W3 ⟨w.heap.size, 2, none⟩ = some v := by rw [hW3]; go_cell
  have b0 : World.cell? W3 ⟨w.heap.size + 1, 0, none⟩ = some (.int .i64 i2) := by rw [hW3]; go_cell
  have b1 : World.cell? W3 ⟨w.heap.size + 1, 1, none⟩ = some (.int .i64 j2) := by rw [hW3]; go_cell
  have b2 : World.cell? W3 ⟨w.heap.size + 1, 2, none⟩ = some u := by rw [hW3]; go_cell
  have d0 : World.cell? W3 ⟨w.heap.size + 1 + 1, 0, none⟩ = some (.int .i64 0) := by rw [hW3]; go_cell
  have d1 : World.cell? W3 ⟨w.heap.size + 1 + 1, 1, none⟩ = some (.int .i64 0) := by rw [hW3]; go_cell
  have d2 : World.cell? W3 ⟨w.heap.size + 1 + 1, 2, none⟩ = some (.slice none 0 0) := by rw [hW3]; go_cell
  have z0 : World.frozen? W3 ⟨w.heap.size + 1 + 1, 0, none⟩ = false := by rw [hW3, World.frozen?_alloc_at]; simp
  have z1 : World.frozen? W3 ⟨w.heap.size + 1 + 1, 1, none⟩ = false := by rw [hW3, World.frozen?_alloc_at]; simp
  have z2 : World.frozen? W3 ⟨w.heap.size + 1 + 1, 2, none⟩ = false := by rw [hW3, World.frozen?_alloc_at]; simp
  have HX := Lib.hid hx
  have HY := Lib.hid hy
  have hv3 := hv.below hbw
  have hu3 := hu.below hbw
  -- behind calls that leave what was there
  have KEEP : Hid (∀ W, Below W3.heap.size W3 W → (W.cell? ⟨w.heap.size, 0, none⟩ = some (.int .i64 i) ∧ W.cell? ⟨w.heap.size, 1, none⟩ = some (.int .i64 j) ∧ W.cell? ⟨w.heap.size, 2, none⟩ = some v) ∧ (W.cell? ⟨w.heap.size + 1, 0, none⟩ = some (.int .i64 i2) ∧ W.cell? ⟨w.heap.size + 1, 1, none⟩ = some (.int .i64 j2) ∧ W.cell? ⟨w.heap.size + 1, 2, none⟩ = some u) ∧
      (W.cell? ⟨w.heap.size + 1 + 1, 0, none⟩ = some (.int .i64 0) ∧ W.cell? ⟨w.heap.size + 1 + 1, 1, none⟩ = some (.int .i64 0) ∧ W.cell? ⟨w.heap.size + 1 + 1, 2, none⟩ = some (.slice none 0 0)) ∧ (W.frozen? ⟨w.heap.size + 1 + 1, 0, none⟩ = false ∧ W.frozen? ⟨w.heap.size + 1 + 1, 1, none⟩ = false ∧ W.frozen? ⟨w.heap.size + 1 + 1, 2, none⟩ = false)) := by
    show ∀ W, _
    intro W hW
    have hl : w.heap.size + 1 + 1 < W3.heap.size := by omega
    exact ⟨⟨cell_step a0 hW, cell_step a1 hW, cell_step a2 hW⟩, ⟨cell_step b0 hW, cell_step b1 hW, cell_step b2 hW⟩, ⟨cell_step d0 hW, cell_step d1 hW, cell_step d2 hW⟩, ⟨(hW.frozen (p := ⟨w.heap.size + 1 + 1, 0, none⟩) hl).trans z0, (hW.frozen (p := ⟨w.heap.size + 1 + 1, 1, none⟩) hl).trans z1, (hW.frozen (p := ⟨w.heap.size + 1 + 1, 2, none⟩) hl).trans z2⟩⟩
  have ZERO : Hid (∀ W, Below w.heap.size w W → RetSl w 22 ([] : List Nat).length (([] : List Nat).map (Value.float .f32)) (fun v => .tuple #[.agg #[.int .i64 0, .int .i64 0, v], .bool false]) (.returned (.tuple #[.agg #[.int .i64 0, .int .i64 0, .slice none 0 0], .bool false])) (((W.setCell ⟨w.heap.size + 1 + 1, 0, none⟩ (.int .i64 0)).setCell ⟨w.heap.size + 1 + 1, 1, none⟩ (.int .i64 0)).setCell ⟨w.heap.size + 1 + 1, 2, none⟩ (.slice none 0 0))) := by
    show ∀ W, _
    intro W hW
    exact RetSl.nul (f := fun v => .tuple #[.agg #[.int .i64 0, .int .i64 0, v], .bool false]) (((hW.setCell (p := ⟨w.heap.size + 1 + 1, 0, none⟩) (show w.heap.size ≤ w.heap.size + 1 + 1 by omega) _).setCell (p := ⟨w.heap.size + 1 + 1, 1, none⟩) (show w.heap.size ≤ w.heap.size + 1 + 1 by omega) _).setCell (p := ⟨w.heap.size + 1 + 1, 2, none⟩) (show w.heap.size ≤ w.heap.size + 1 + 1 by omega) _)
  cases hva : validCh i j xs
  · have HR : Hid (res = (0, 0, [], false)) := by show res = _; rw [hres]; unfold out_SideChannels sideOk; rw [hva]; rfl
    have HA := Lib.hid hva
    clear hva hres hx hy
    go_enter Try.func23, Try.ntmps23
    go_wp2_with fail
    rw [← hW3]
    clear hW3
    go_wp2_with (go_at_call 55; refine (implValidChannel_any i j _ xs _ hv3 HX.out hi hj).mono ?_; rw [HA.out]; rintro e w1 ⟨rfl, hb1⟩; obtain ⟨⟨a0, a1, a2⟩, ⟨b0, b1, b2⟩, ⟨d0, d1, d2⟩, z0, z1, z2⟩ := KEEP.out _ hb1)
    refine bodyPost_ret (v := .tuple #[.agg #[.int .i64 0, .int .i64 0, .slice none 0 0], .bool false]) (by simp [results, Try.results23, go_sem, *]) rfl ?_
    rw [HR.out]
    exact ZERO.out _ (hbw.trans (hb1.mono hbw.size))
  · cases hvb : validCh i2 j2 ys
    · have HR : Hid (res = (0, 0, [], false)) := by show res = _; rw [hres]; unfold out_SideChannels sideOk; rw [hva, hvb]; rfl
      have HA := Lib.hid hva
      have HB := Lib.hid hvb
      clear hva hvb hres hx hy
      go_enter Try.func23, Try.ntmps23
      go_wp2_with fail
      rw [← hW3]
      clear hW3
      go_wp2_with (first | (go_at_call 55; refine (implValidChannel_any i2 j2 _ ys _ hu4 HY.out hi2 hj2).mono ?_; rw [HB.out]; rintro e w2 ⟨rfl, hb2⟩; have hb12 := hb1.trans (hb2.mono hb1.size); obtain ⟨⟨a0, a1, a2⟩, ⟨b0, b1, b2⟩, ⟨d0, d1, d2⟩, z0, z1, z2⟩ := KEEP.out _ hb12) | (go_at_call 55; refine (implValidChannel_any i j _ xs _ hv3 HX.out hi hj).mono ?_; rw [HA.out]; rintro e w1 ⟨rfl, hb1⟩; have hu4 := hu3.below hb1; obtain ⟨⟨a0, a1, a2⟩, ⟨b0, b1, b2⟩, ⟨d0, d1, d2⟩, z0, z1, z2⟩ := KEEP.out _ hb1))
      refine bodyPost_ret (v := .tuple #[.agg #[.int .i64 0, .int .i64 0, .slice none 0 0], .bool false]) (by simp [results, Try.results23, go_sem, *]) rfl ?_
      rw [HR.out]
      exact ZERO.out _ (hbw.trans (hb12.mono hbw.size))
    · obtain ⟨A1, M1, rfl, rfl, A11, A18, M11, M18, hl, hrows⟩ := validCh_nat hva
      obtain ⟨A2, M2, rfl, rfl, A21, A28, M21, M28, hl2, hrows2⟩ := validCh_nat hvb
      obtain ⟨N, hN⟩ : ∃ N, N = A1 * A2 := ⟨_, rfl⟩
      obtain ⟨M, hM⟩ : ∃ M, M = M1 * M2 := ⟨_, rfl⟩
      have hN64 : N ≤ 64 := by rw [hN]; exact prod_le A18 A28
      have hM64 : M ≤ 64 := by rw [hM]; exact prod_le M18 M28
      have i1 : (A1 : Int) * (A2 : Int) = (N : Int) := by rw [hN]; simp
      have i3 : (M1 : Int) * (M2 : Int) = (M : Int) := by rw [hM]; simp
      have i2' : IntKind.i64.wrap ((A1 : Int) * (A2 : Int)) = (N : Int) := by rw [i1]; exact IntWalk.i64_in _ (by omega)
      have i4 : IntKind.i64.wrap ((M1 : Int) * (M2 : Int)) = (M : Int) := by rw [i3]; exact IntWalk.i64_in _ (by omega)
      have HA := Lib.hid hva
      have HB := Lib.hid hvb
      by_cases hn8 : N ≤ 8
      · by_cases hm8 : M ≤ 8
        · have hR : res = outCh (N : Int) (M : Int) (chA (fSide xs ys A2 M1 M2) M N) := by
            rw [hres]; unfold out_SideChannels sideOk; rw [hva, hvb, i1, i3, decide_eq_true (show (N : Int) ≤ 8 by omega), decide_eq_true (show (M : Int) ≤ 8 by omega)]; simp
          have hN1 : 1 ≤ N := by rw [hN]; exact Nat.mul_pos A11 A21
          have hM1 : 1 ≤ M := by rw [hM]; exact Nat.mul_pos M11 M21
          obtain ⟨xb, xo, xc, rfl, hxnc, hxcm, hxb, hxk⟩ := fl_cells2 hv3 hl (Nat.mul_pos A11 M11)
          obtain ⟨yb, yo, yc, rfl, hync, hycm, hyb, hyk⟩ := fl_cells2 hu3 hl2 (Nat.mul_pos A21 M21)
          have HMD : Hid (∀ W, Below W3.heap.size W3 W → Calls Try.prog 49 #[.int .i64 (N : Int), .int .i64 (M : Int), .func (.func 56) #[] #[.pointer (some ⟨w.heap.size, 0, none⟩), .pointer (some ⟨w.heap.size + 1, 0, none⟩)]] W (RetSl W 22 res.2.2.1.length (res.2.2.1.map (Value.float .f32)) (fun v => .tuple #[.agg #[.int .i64 res.1, .int .i64 res.2.1, v], .bool res.2.2.2]))) := by
            show ∀ W, _
            intro W hW0
            rw [hR]
            refine madeSide_any _ _ N M (fSide xs ys A2 M1 M2) W hN1 hn8 hM1 hm8 (fun i k hi hk => (fSide_lt hl hrows hl2 hrows2 (by rw [← hN]; exact hi) (by rw [← hM]; exact hk)).2.2) (fun V i k hV hi hk => ?_)
            have hVW := hW0.trans (hV.mono hW0.size)
            obtain ⟨⟨k0, k1, k2⟩, ⟨l0, l1, l2⟩, -, -⟩ := KEEP.out V hVW
            obtain ⟨c1, c2, -⟩ := fSide_lt hl hrows hl2 hrows2 (i := i) (k := k) (by rw [← hN]; exact hi) (by rw [← hM]; exact hk)
            exact clSide_any w.heap.size (w.heap.size + 1) A1 M1 A2 M2 xb xo (A1 * M1) xc yb yo (A2 * M2) yc xs ys i k V A18 M18 A28 M28 k0 k1 k2 l0 l1 l2 (fun k hk => (hVW.cell (p := ⟨xb, xo + k, none⟩) hxb).trans (hxk k hk)) (fun k hk => (hVW.cell (p := ⟨yb, yo + k, none⟩) hyb).trans (hyk k hk)) rfl rfl hxnc hync hxcm hycm (by rw [← hN]; exact hi) (by rw [← hM]; exact hk) c1 c2
          clear hva hvb hres hx hy hR hN hM hl hl2 hrows hrows2 hxk hyk
          go_enter Try.func23, Try.ntmps23
          go_wp2_with fail
          rw [← hW3]
          clear hW3
          go_wp2_with (first | (go_at_call 49; refine (HMD.out _ hb12).mono ?_; rintro e w4 ⟨a4, c4, rfl, ho4, hb4⟩; have hb14 := hb12.trans (hb4.mono hb12.size); obtain ⟨⟨a0, a1, a2⟩, ⟨b0, b1, b2⟩, ⟨d0, d1, d2⟩, z0, z1, z2⟩ := KEEP.out _ hb14) | (go_at_call 55; refine (implValidChannel_any (A2 : Int) (M2 : Int) _ ys _ hu4 HY.out hi2 hj2).mono ?_; rw [HB.out]; rintro e w2 ⟨rfl, hb2⟩; have hb12 := hb1.trans (hb2.mono hb1.size); obtain ⟨⟨a0, a1, a2⟩, ⟨b0, b1, b2⟩, ⟨d0, d1, d2⟩, z0, z1, z2⟩ := KEEP.out _ hb12) | (go_at_call 55; refine (implValidChannel_any (A1 : Int) (M1 : Int) _ xs _ hv3 HX.out hi hj).mono ?_; rw [HA.out]; rintro e w1 ⟨rfl, hb1⟩; have hu4 := hu3.below hb1; obtain ⟨⟨a0, a1, a2⟩, ⟨b0, b1, b2⟩, ⟨d0, d1, d2⟩, z0, z1, z2⟩ := KEEP.out _ hb1))
          refine bodyPost_ret (v := .tuple #[.agg #[.int .i64 res.1, .int .i64 res.2.1, .slice a4 res.2.2.1.length c4], .bool res.2.2.2]) (by simp [results, Try.results23, go_sem, *]) rfl ?_
          have hs2 := hb12.size
          have o1 := ownsRow_setCell_below (a := ⟨w.heap.size + 1 + 1, 0, none⟩) ho4 (show w.heap.size + 1 + 1 < w2.heap.size by omega) (.int .i64 res.1)
          have o2 := ownsRow_setCell_below (a := ⟨w.heap.size + 1 + 1, 1, none⟩) o1 (show w.heap.size + 1 + 1 < w2.heap.size by omega) (.int .i64 res.2.1)
          have o3 := ownsRow_setCell_below (a := ⟨w.heap.size + 1 + 1, 2, none⟩) o2 (show w.heap.size + 1 + 1 < w2.heap.size by omega) (.slice a4 res.2.2.1.length c4)
          have hb5 := hbw.trans (hb14.mono hbw.size)
          exact RetSl.mk (f := fun v => .tuple #[.agg #[.int .i64 res.1, .int .i64 res.2.1, v], .bool res.2.2.2]) (ownsRow_base o3 (by omega)) (((hb5.setCell (p := ⟨w.heap.size + 1 + 1, 0, none⟩) (show w.heap.size ≤ w.heap.size + 1 + 1 by omega) _).setCell (p := ⟨w.heap.size + 1 + 1, 1, none⟩) (show w.heap.size ≤ w.heap.size + 1 + 1 by omega) _).setCell (p := ⟨w.heap.size + 1 + 1, 2, none⟩) (show w.heap.size ≤ w.heap.size + 1 + 1 by omega) _)
        · have HR : Hid (res = (0, 0, [], false)) := by show res = _; rw [hres]; unfold out_SideChannels sideOk; rw [i3, decide_eq_false (show ¬ (M : Int) ≤ 8 by omega)]; simp
          have hm9 : (8 : Int) < (M : Int) := by omega
          have hn9 : ¬ (8 : Int) < (N : Int) := by omega
          clear hva hvb hres hx hy hN hM hl hl2 hrows hrows2
          go_enter Try.func23, Try.ntmps23
          go_wp2_with fail
          rw [← hW3]
          clear hW3
          go_wp2_with (first | (go_at_call 55; refine (implValidChannel_any (A2 : Int) (M2 : Int) _ ys _ hu4 HY.out hi2 hj2).mono ?_; rw [HB.out]; rintro e w2 ⟨rfl, hb2⟩; have hb12 := hb1.trans (hb2.mono hb1.size); obtain ⟨⟨a0, a1, a2⟩, ⟨b0, b1, b2⟩, ⟨d0, d1, d2⟩, z0, z1, z2⟩ := KEEP.out _ hb12) | (go_at_call 55; refine (implValidChannel_any (A1 : Int) (M1 : Int) _ xs _ hv3 HX.out hi hj).mono ?_; rw [HA.out]; rintro e w1 ⟨rfl, hb1⟩; have hu4 := hu3.below hb1; obtain ⟨⟨a0, a1, a2⟩, ⟨b0, b1, b2⟩, ⟨d0, d1, d2⟩, z0, z1, z2⟩ := KEEP.out _ hb1))
          refine bodyPost_ret (v := .tuple #[.agg #[.int .i64 0, .int .i64 0, .slice none 0 0], .bool false]) (by simp [results, Try.results23, go_sem, *]) rfl ?_
          rw [HR.out]
          exact ZERO.out _ (hbw.trans (hb12.mono hbw.size))
      · have HR : Hid (res = (0, 0, [], false)) := by show res = _; rw [hres]; unfold out_SideChannels sideOk; rw [i1, decide_eq_false (show ¬ (N : Int) ≤ 8 by omega)]; simp
        have hn9 : (8 : Int) < (N : Int) := by omega
        clear hva hvb hres hx hy hN hM hl hl2 hrows hrows2
        go_enter Try.func23, Try.ntmps23
        go_wp2_with fail
        rw [← hW3]
        clear hW3
        go_wp2_with (first | (go_at_call 55; refine (implValidChannel_any (A2 : Int) (M2 : Int) _ ys _ hu4 HY.out hi2 hj2).mono ?_; rw [HB.out]; rintro e w2 ⟨rfl, hb2⟩; have hb12 := hb1.trans (hb2.mono hb1.size); obtain ⟨⟨a0, a1, a2⟩, ⟨b0, b1, b2⟩, ⟨d0, d1, d2⟩, z0, z1, z2⟩ := KEEP.out _ hb12) | (go_at_call 55; refine (implValidChannel_any (A1 : Int) (M1 : Int) _ xs _ hv3 HX.out hi hj).mono ?_; rw [HA.out]; rintro e w1 ⟨rfl, hb1⟩; have hu4 := hu3.below hb1; obtain ⟨⟨a0, a1, a2⟩, ⟨b0, b1, b2⟩, ⟨d0, d1, d2⟩, z0, z1, z2⟩ := KEEP.out _ hb1))
        refine bodyPost_ret (v := .tuple #[.agg #[.int .i64 0, .int .i64 0, .slice none 0 0], .bool false]) (by simp [results, Try.results23, go_sem, *]) rfl ?_
        rw [HR.out]
        exact ZERO.out _ (hbw.trans (hb12.mono hbw.size))

end Go.Proofs.Ytlahmdnlamifnaa
