/- Marks that begin further up. -/
import Derived.Test.YtmocfnpbofeiiaaMHar
import Derived.Test.YtmocfnpbofeiiaaMJop
import Derived.Test.YtmocfnpbofeiiaaMJoi
namespace Go.Proofs.Ytmocfnpbofeiiaa
set_option linter.unusedSimpArgs false
set_option linter.unusedVariables false
open Go.RowKit

end Go.Proofs.Ytmocfnpbofeiiaa

/- The table of a row through a channel: the reference's part. -/
namespace Go.Proofs.Ytmocfnpbofeiiaa
set_option linter.unusedSimpArgs false
set_option linter.unusedVariables false
open Go.RowKit

set_option maxHeartbeats 4000000 in
theorem l03Joint_any (g : Nat) (a m : Nat) (v u : Value) (xs rs : List Nat) (w : World) (hg0 : w.cell? ⟨g, 0, none⟩ = some (.int .i64 a)) (hg1 : w.cell? ⟨g, 1, none⟩ = some (.int .i64 m)) (hg2 : w.cell? ⟨g, 2, none⟩ = some v) (hv : SlR w v (xs.map (Value.float .f32))) (hu : SlR w u (rs.map (Value.float .f32))) (a1 : 1 ≤ a) (a2 : a ≤ 8) (m1 : 1 ≤ m) (m2 : m ≤ 8) (hl : xs.length = a * m) (hrl : rs.length = a) (hx : ∀ x ∈ xs, Ch x) (hr : ∀ x ∈ rs, Ch x) :
    Calls Try.prog 89 #[.pointer (some ⟨g, 0, none⟩), u] w (RetSt w a m (jOf xs rs m a)) := by
  have hpos : 0 < a * m := Nat.mul_pos a1 m1
  obtain ⟨n, hn⟩ : ∃ n, xs.length = n := ⟨_, rfl⟩
  have hn2 : n = a * m := by omega
  obtain ⟨b, off, c, rfl, hnc, hcm, hxb, hxk⟩ := fl_cells hv hn (by omega)
  obtain ⟨rb, roff, rc, rfl, hrnc, hrcm, hrb, hrk⟩ := fl_cells hu hrl a1
  have hn64 : n ≤ 64 := by rw [hn2]; exact prod_le a2 m2
  have HC := Lib.hid hxk
  have HRC := Lib.hid hrk
  have HL := Lib.hid hn2
  have HX : Hid (∀ k, k < n → Ch (xs[k]?.getD 0)) := fun k hk => get_pn hx (by omega)
  have HR : Hid (∀ k, k < a → Ch (rs[k]?.getD 0)) := fun k hk => get_pn hr (by omega)
  have hgl : g < w.heap.size := World.block_lt_of_cell? w _ hg0
  clear hl hrl hv hu hx hr hxk hrk hn hn2 hpos
  go_enter Try.func89, Try.ntmps89
  go_wp2
  go_region_held3 (fun W => World.cell? W ⟨g, 0, none⟩ = some (.int .i64 (a : Int)) ∧ World.cell? W ⟨g, 1, none⟩ = some (.int .i64 (m : Int)) ∧ Fr w W) (exact ⟨cell_step hg0 (by go_grown), cell_step hg1 (by go_grown), (show Below _ _ _ by go_grown)⟩) (fail)
  rename_i hHold
  clear hHold
  obtain ⟨W2, hW2⟩ : ∃ W2, W2 = ((w.alloc (.cells #[.int .i64 0, .int .i64 0, .slice none 0 0] 47)).alloc (.cells #[.int .i64 (a : Int), .int .i64 (m : Int), .slice none 0 0] 47)).drew := ⟨_, rfl⟩
  have hsz : W2.heap.size = w.heap.size + 2 := by rw [hW2]; simp [World.drew]
  have hbw : Below w.heap.size w W2 := by rw [hW2]; go_grown
  have c0 := cell_step hg0 hbw
  have c1 := cell_step hg1 hbw
  have c2 := cell_step hg2 hbw
  have d0 : World.cell? W2 ⟨w.heap.size, 0, none⟩ = some (.int .i64 0) := by rw [hW2]; go_cell
  have d1 : World.cell? W2 ⟨w.heap.size, 1, none⟩ = some (.int .i64 0) := by rw [hW2]; go_cell
  have d2 : World.cell? W2 ⟨w.heap.size, 2, none⟩ = some (.slice none 0 0) := by rw [hW2]; go_cell
  have hD : ∀ o, World.frozen? W2 ⟨w.heap.size, o, none⟩ = false := by
    intro o; rw [hW2]
    show World.frozen? (World.alloc _ _) _ = false
    rw [World.frozen?_alloc_past, World.frozen?_alloc_at]
    · rfl
    · simp
  have hS0 : StB W2 (w.heap.size + 1) a m none 0 (jOf xs rs m 0) := by
    refine ⟨?_, ?_, ?_, ?_, rfl, .inl ⟨rfl, rfl⟩⟩
    · rw [hW2]; go_cell
    · rw [hW2]; go_cell
    · show World.cell? W2 _ = some (.slice none 0 0)
      rw [hW2]; go_cell
    · rw [hW2]
      show World.frozen? (World.alloc _ _) _ = false
      rw [World.frozen?_alloc_at]; simp
  rw [← hW2]
  clear hW2 hg0 hg1 hg2
  go_wp2
  go_loopw [6] (fun q wr => ∃ k : Nat, k ≤ a ∧ q = .int .i64 k ∧ (∃ ad cd, StB wr (w.heap.size + 1) a m ad cd (jOf xs rs m k)) ∧ Below (w.heap.size + 1) W2 wr) (fun q _ => a - (intOf q).toNat)
  case atStart => exact ⟨0, Nat.zero_le _, rfl, ⟨none, 0, hS0⟩, Below.refl _ _⟩
  case round =>
    clear hS0
    obtain ⟨k, hk, rfl, ⟨ad, cd, hS⟩, hb⟩ := hrel
    have e0 := (hb.cell (p := ⟨g, 0, none⟩) (show g < w.heap.size + 1 by omega)).trans c0
    have e1 := (hb.cell (p := ⟨g, 1, none⟩) (show g < w.heap.size + 1 by omega)).trans c1
    by_cases hlt : k < a
    · go_wp2
      obtain ⟨wo, hwo⟩ : ∃ wo : World, wo = wr := ⟨_, rfl⟩
      rw [← hwo] at hS hb e0 e1 ⊢
      clear hwo wr
      go_loopw [7] (fun q wr => ∃ r : Nat, r ≤ m ∧ q = .int .i64 r ∧ (∃ ad cd, StB wr (w.heap.size + 1) a m ad cd (jOf xs rs m k ++ jRow xs rs m k r)) ∧ Below (w.heap.size + 1) W2 wr) (fun q _ => m - (intOf q).toNat)
      case atStart => exact ⟨0, Nat.zero_le _, rfl, ⟨ad, cd, by simpa [jRow] using hS⟩, hb⟩
      case round =>
        clear hS hb e0 e1
        obtain ⟨r, hr, rfl, ⟨ad, cd, hS⟩, hb⟩ := hrel
        have e1 := (hb.cell (p := ⟨g, 1, none⟩) (show g < w.heap.size + 1 by omega)).trans c1
        by_cases hrlt : r < m
        · have e2 := (hb.cell (p := ⟨g, 2, none⟩) (show g < w.heap.size + 1 by omega)).trans c2
          obtain ⟨p, hp⟩ : ∃ p, p = k * m := ⟨_, rfl⟩
          have hpm : p + m ≤ n := by rw [hp, HL.out]; have := row_le (m := m) hlt; rw [Nat.add_mul, Nat.one_mul] at this; exact this
          have hx0 := HC.out (p + r) (by omega)
          have hy0 := HRC.out k hlt
          have hmul := (mul_ch (HR.out k hlt) (HX.out (p + r) (by omega))).1
          have hx := (hb.cell (p := ⟨b, off + (p + r), none⟩) (show b < w.heap.size + 1 by omega)).trans ((hbw.cell (p := ⟨b, off + (p + r), none⟩) hxb).trans hx0)
          have hy := (hb.cell (p := ⟨rb, roff + k, none⟩) (show rb < w.heap.size + 1 by omega)).trans ((hbw.cell (p := ⟨rb, roff + k, none⟩) hrb).trans hy0)
          have HCS := Lib.hid (jRow_succ xs rs m k r)
          rw [← hp] at HCS
          generalize xs[p + r]?.getD 0 = z at *
          generalize rs[k]?.getD 0 = s at *
          obtain ⟨q, hq⟩ : ∃ q, q = p + r := ⟨_, rfl⟩
          rw [← hq] at hx
          obtain ⟨y, hyy⟩ : ∃ y, y = fA .mul .f32 s z := ⟨_, rfl⟩
          rw [← hyy] at HCS
          have hys := hyy.symm
          have i1 : (k : Int) * (m : Int) = (p : Int) := by rw [hp]; simp
          have i2 : IntKind.i64.wrap ((k : Int) * (m : Int)) = (p : Int) := by rw [i1]; exact IntWalk.i64_in _ (by omega)
          have i3 : (p : Int) + (r : Int) = (q : Int) := by rw [hq]; simp
          have i4 : IntKind.i64.wrap ((p : Int) + (r : Int)) = (q : Int) := by rw [i3]; exact IntWalk.i64_in _ (by omega)
          have j1 : IntKind.i64.wrap (p : Int) = (p : Int) := IntWalk.i64_in _ (by omega)
          have j2 : IntKind.i64.wrap (q : Int) = (q : Int) := IntWalk.i64_in _ (by omega)
          have i5 : (0 : Int) ≤ (q : Int) := by omega
          have i6 : (q : Int) < (n : Int) := by omega
          have i7 : q < n := by omega
          have i8 : (0 : Int) ≤ (k : Int) := by omega
          have i9 : (k : Int) < (a : Int) := by omega
          obtain ⟨zs, hzs⟩ : ∃ zs, zs = jOf xs rs m k ++ jRow xs rs m k r := ⟨_, rfl⟩
          rw [← hzs] at hS
          have HZ := Lib.hid hzs
          have hzl : zs.length ≤ 4096 := by rw [HZ.out, List.length_append, jOf_length, jRow_length]; have : k * m ≤ 8 * 8 := Nat.mul_le_mul (by omega) (by omega); omega
          clear hzs hp hq hx0 hy0 hyy
          have hlS := hS.lt
          have hSd : StB (wr.alloc (.cells #[.float .f32 y] 32)).drew (w.heap.size + 1) a m ad cd zs := hS.below (by go_grown)
          have hbd : Below (w.heap.size + 1) W2 (wr.alloc (.cells #[.float .f32 y] 32)).drew := Below.drew (hb.alloc (by omega) _)
          have hry : World.cell? (wr.alloc (.cells #[.float .f32 y] 32)).drew ⟨wr.heap.size, 0, none⟩ = some (.float .f32 y) := by go_cell
          have f2 := hS.2.2.1
          have f2a : World.cell? (wr.alloc (.cells #[.float .f32 y] 32)) _ = _ := hSd.2.2.1
          go_wp2
          have X := fun (ops : Array Oper) (o : Oper) (A : Act) (K : Act → World → Prop) (Q : Exit → Act → World → Prop) (E : Prop) h1 s x h2 h3 h4 h5 => StB.law (ops := ops) (o := o) (A := A) (K := K) (Q := Q) (E := E) hSd hzl y wr.heap.size hry (wr.heap.size + 1) (by simp [World.drew]) h1 s x h2 h3 h4 h5
          go_region_law (((with_reducible refine X _ _ _ _ _ _ ?_ (.tmp 34) (.tmp 54) ?_ ?_ ?_ ?_); rfl; rfl; rfl; rfl; intro g2 c2 w2 ho2 hg2 hc2 hf2))
          clear X
          all_goals
            go_wp2
            exact ⟨⟨r + 1, by omega, by go_num, ⟨some ⟨g2, 0, none⟩, c2, by rw [HCS.out, ← List.append_assoc, ← HZ.out]; exact StB.push hSd hg2 ho2⟩, push_below hbd hSd (by omega) hg2⟩, by simp [intOf]; omega⟩
        · obtain rfl : m = r := by omega
          go_wp2
          go_roundw
          case rel => exact ⟨k + 1, by omega, by go_num, ⟨ad, cd, by rw [jOf_succ]; exact hS⟩, hb⟩
          case measure => simp [intOf]; omega
    · obtain rfl : a = k := by omega
      have g0 := (hb.cell (p := ⟨w.heap.size, 0, none⟩) (show w.heap.size < w.heap.size + 1 by omega)).trans d0
      have g1 := (hb.cell (p := ⟨w.heap.size, 1, none⟩) (show w.heap.size < w.heap.size + 1 by omega)).trans d1
      have g2 := (hb.cell (p := ⟨w.heap.size, 2, none⟩) (show w.heap.size < w.heap.size + 1 by omega)).trans d2
      have z0 := (hb.frozen (p := ⟨w.heap.size, 0, none⟩) (show w.heap.size < w.heap.size + 1 by omega)).trans (hD 0)
      have z1 := (hb.frozen (p := ⟨w.heap.size, 1, none⟩) (show w.heap.size < w.heap.size + 1 by omega)).trans (hD 1)
      have z2 := (hb.frozen (p := ⟨w.heap.size, 2, none⟩) (show w.heap.size < w.heap.size + 1 by omega)).trans (hD 2)
      obtain ⟨s0, s1, s2, s3, s4⟩ := hS
      clear hD c0 c1 c2 d0 d1 d2
      go_wp2
      refine bodyPost_ret (v := .agg #[.int .i64 (a : Int), .int .i64 (m : Int), .slice ad (jOf xs rs m a).length cd]) (by simp [results, Try.results89, go_sem, *]) rfl ?_
      have o1 := ownsRow_setCell_below (a := ⟨w.heap.size, 0, none⟩) s4 (show w.heap.size < w.heap.size + 1 + 1 by omega) (.int .i64 (a : Int))
      have o2 := ownsRow_setCell_below (a := ⟨w.heap.size, 1, none⟩) o1 (show w.heap.size < w.heap.size + 1 + 1 by omega) (.int .i64 (m : Int))
      have o3 := ownsRow_setCell_below (a := ⟨w.heap.size, 2, none⟩) o2 (show w.heap.size < w.heap.size + 1 + 1 by omega) (.slice ad (jOf xs rs m a).length cd)
      have b0 : Below w.heap.size w wr := hbw.trans (hb.mono (by omega))
      have b1 := b0.setCell (p := ⟨w.heap.size, 0, none⟩) (show w.heap.size ≤ w.heap.size by omega) (.int .i64 (a : Int))
      have b2 := b1.setCell (p := ⟨w.heap.size, 1, none⟩) (show w.heap.size ≤ w.heap.size by omega) (.int .i64 (m : Int))
      have b3 := b2.setCell (p := ⟨w.heap.size, 2, none⟩) (show w.heap.size ≤ w.heap.size by omega) (.slice ad (jOf xs rs m a).length cd)
      exact RetSt.mk (ownsRow_base o3 (by omega)) b3

end Go.Proofs.Ytmocfnpbofeiiaa

/- The table of a row through a channel: the reference's contract. -/
namespace Go.Proofs.Ytmocfnpbofeiiaa
set_option linter.unusedSimpArgs false
set_option linter.unusedVariables false
open Go.RowKit

set_option maxHeartbeats 4000000 in
theorem spec_JointOf (w : World) (i j : Int) (hi : I64 i) (hj : I64 j) (v : Value) (xs : List Nat) (hv : SlR w v (xs.map (Value.float .f32))) (hx : ∀ x ∈ xs, x < 4294967296) (_ : xs.length ≤ 1048576) (u : Value) (rs : List Nat) (hu : SlR w u (rs.map (Value.float .f32))) (hr : ∀ x ∈ rs, x < 4294967296) (_ : rs.length ≤ 1048576) :
    Calls Try.prog 41 #[.agg #[.int .i64 i, .int .i64 j, v], u] w (RetRd w (out_JointOf i j xs rs).2.2.1.length ((out_JointOf i j xs rs).2.2.1.map (Value.float .f32)) (fun v => .tuple #[.agg #[.int .i64 (out_JointOf i j xs rs).1, .int .i64 (out_JointOf i j xs rs).2.1, v], .bool (out_JointOf i j xs rs).2.2.2])) := by
  obtain ⟨res, hres⟩ : ∃ res, res = out_JointOf i j xs rs := ⟨_, rfl⟩
  rw [← hres]
  have HX := Lib.hid hx
  have HRR := Lib.hid hr
  obtain ⟨W1, hW1⟩ : ∃ W1, W1 = (w.alloc (.cells #[.int .i64 i, .int .i64 j, v] 59)).alloc (.cells #[.int .i64 0, .int .i64 0, .slice none 0 0] 47) := ⟨_, rfl⟩
  have hsz : W1.heap.size = w.heap.size + 2 := by rw [hW1]; simp
  have hbw : Below w.heap.size w W1 := by rw [hW1]; go_grown
  have a0 : World.cell? W1 ⟨w.heap.size, 0, none⟩ = some (.int .i64 i) := by rw [hW1]; go_cell
  have a1 : World.cell? W1 ⟨w.heap.size, 1, none⟩ = some (.int .i64 j) := by rw [hW1]; go_cell
  have a2 : World.cell? W1 ⟨w.heap.size, 2, none⟩ = some v := by rw [hW1]; go_cell
  have d0 : World.cell? W1 ⟨w.heap.size + 1, 0, none⟩ = some (.int .i64 0) := by rw [hW1]; go_cell
  have d1 : World.cell? W1 ⟨w.heap.size + 1, 1, none⟩ = some (.int .i64 0) := by rw [hW1]; go_cell
  have d2 : World.cell? W1 ⟨w.heap.size + 1, 2, none⟩ = some (.slice none 0 0) := by rw [hW1]; go_cell
  have z0 : World.frozen? W1 ⟨w.heap.size + 1, 0, none⟩ = false := by rw [hW1, World.frozen?_alloc_at]; simp
  have z1 : World.frozen? W1 ⟨w.heap.size + 1, 1, none⟩ = false := by rw [hW1, World.frozen?_alloc_at]; simp
  have z2 : World.frozen? W1 ⟨w.heap.size + 1, 2, none⟩ = false := by rw [hW1, World.frozen?_alloc_at]; simp
  have KEEP : Hid (∀ W, Below (w.heap.size + 2) W1 W → (W.cell? ⟨w.heap.size, 0, none⟩ = some (.int .i64 i) ∧ W.cell? ⟨w.heap.size, 1, none⟩ = some (.int .i64 j) ∧ W.cell? ⟨w.heap.size, 2, none⟩ = some v) ∧
      (W.cell? ⟨w.heap.size + 1, 0, none⟩ = some (.int .i64 0) ∧ W.cell? ⟨w.heap.size + 1, 1, none⟩ = some (.int .i64 0) ∧ W.cell? ⟨w.heap.size + 1, 2, none⟩ = some (.slice none 0 0)) ∧ (W.frozen? ⟨w.heap.size + 1, 0, none⟩ = false ∧ W.frozen? ⟨w.heap.size + 1, 1, none⟩ = false ∧ W.frozen? ⟨w.heap.size + 1, 2, none⟩ = false)) := by
    show ∀ W, _
    intro W hW
    have hl : w.heap.size + 1 < W1.heap.size := by omega
    rw [← hsz] at hW
    exact ⟨⟨cell_step a0 hW, cell_step a1 hW, cell_step a2 hW⟩, ⟨cell_step d0 hW, cell_step d1 hW, cell_step d2 hW⟩, ⟨(hW.frozen (p := ⟨w.heap.size + 1, 0, none⟩) hl).trans z0, (hW.frozen (p := ⟨w.heap.size + 1, 1, none⟩) hl).trans z1, (hW.frozen (p := ⟨w.heap.size + 1, 2, none⟩) hl).trans z2⟩⟩
  have ZERO : Hid (∀ W, Below w.heap.size w W → RetRd w ([] : List Nat).length (([] : List Nat).map (Value.float .f32)) (fun v => .tuple #[.agg #[.int .i64 0, .int .i64 0, v], .bool false]) (.returned (.tuple #[.agg #[.int .i64 0, .int .i64 0, .slice none 0 0], .bool false])) (((W.setCell ⟨w.heap.size + 1, 0, none⟩ (.int .i64 0)).setCell ⟨w.heap.size + 1, 1, none⟩ (.int .i64 0)).setCell ⟨w.heap.size + 1, 2, none⟩ (.slice none 0 0))) := by
    show ∀ W, _
    intro W hW
    exact RetSl.rd (RetSl.nul (T := 32) (f := fun v => .tuple #[.agg #[.int .i64 0, .int .i64 0, v], .bool false]) (((hW.setCell (p := ⟨w.heap.size + 1, 0, none⟩) (show w.heap.size ≤ w.heap.size + 1 by omega) _).setCell (p := ⟨w.heap.size + 1, 1, none⟩) (show w.heap.size ≤ w.heap.size + 1 by omega) _).setCell (p := ⟨w.heap.size + 1, 2, none⟩) (show w.heap.size ≤ w.heap.size + 1 by omega) _))
  have hv1 := hv.below hbw
  have hu1 := hu.below hbw
  have HBW := Lib.hid hbw
  cases hf : fitB i j xs rs
  · have HR : Hid (res = (0, 0, [], false)) := by show res = _; rw [hres, outJN_no (by unfold jnOk; rw [hf]; rfl)]
    have HA := Lib.hid hf
    obtain ⟨ua, un, uc, rfl, -⟩ := SlR.opened 0 hu
    clear hf hres hx hr
    go_enter Try.func41, Try.ntmps41
    go_wp2_with fail
    rw [← hW1]
    clear hW1
    go_wp2_with (go_at_call 88; refine (l03Fits_any _ i j _ _ xs rs _ a0 a1 a2 hv1 hu1 HX.out HRR.out).mono ?_; rw [HA.out]; rintro e w1 ⟨rfl, hq1⟩; have hb1 := hq1.below (w.heap.size + 2); have hk1 := hq1.keep; obtain ⟨⟨a0, a1, a2⟩, ⟨d0, d1, d2⟩, z0, z1, z2⟩ := KEEP.out _ hb1)
    refine bodyPost_ret (v := .tuple #[.agg #[.int .i64 0, .int .i64 0, .slice none 0 0], .bool false]) (by simp [results, Try.results41, go_sem, *]) rfl ?_
    rw [HR.out]
    exact ZERO.out _ (HBW.out.trans (hb1.mono (by omega)))
  · obtain ⟨a, m, rfl, rfl, A1, A2, M1, M2, hl, hrows, hrl, hrs⟩ := fitB_nat hf
    have HA := Lib.hid hf
    have HF : Hid (∀ y ∈ jOf xs rs m a, y < 4294967296) := jOf_lt hl hrows hrs hrl
    have HJ : Hid (∀ W, W.cell? ⟨w.heap.size, 0, none⟩ = some (.int .i64 (a : Int)) → W.cell? ⟨w.heap.size, 1, none⟩ = some (.int .i64 (m : Int)) → W.cell? ⟨w.heap.size, 2, none⟩ = some v → SlR W v (xs.map (Value.float .f32)) → SlR W u (rs.map (Value.float .f32)) → Calls Try.prog 89 #[.pointer (some ⟨w.heap.size, 0, none⟩), u] W (RetSt W a m (jOf xs rs m a))) := by
      show ∀ W, _
      intro W h0 h1 h2 h3 h4
      exact l03Joint_any w.heap.size a m v u xs rs W h0 h1 h2 h3 h4 A1 A2 M1 M2 hl hrl (ch_all hl hrows) hrs
    have HRES : Hid (∀ b, validTb (a : Int) (m : Int) (jOf xs rs m a) = b → res = if b then ((a : Int), (m : Int), jOf xs rs m a, true) else (0, 0, [], false)) := by
      intro b hb
      cases b
      · rw [hres, outJN_no (by unfold jnOk; rw [hf, Int.toNat_natCast, Int.toNat_natCast, hb]; rfl)]; rfl
      · rw [hres, outJN_yes (by unfold jnOk; rw [hf, Int.toNat_natCast, Int.toNat_natCast, hb]; rfl)]; rfl
    obtain ⟨ua, un, uc, rfl, -⟩ := SlR.opened 0 hu
    generalize jOf xs rs m a = zs at *
    clear hf hres hx hr hl hrows hrl hrs
    cases hvv : validTb (a : Int) (m : Int) zs
    · have HV := Lib.hid hvv
      have HR : Hid (res = (0, 0, [], false)) := HRES.out _ hvv
      clear hvv
      go_enter Try.func41, Try.ntmps41
      go_wp2_with fail
      rw [← hW1]
      clear hW1
      go_wp2_with (first | (go_at_call 90; refine (l02Table_any _ (a : Int) (m : Int) _ zs _ t0 t1 t2 (SlR.own ho5) HF.out).mono ?_; rw [HV.out]; rintro e w6 ⟨rfl, hq6⟩; have hb16 := hb15.trans (hq6.below (w.heap.size + 2)); have ho6 := ownsRow_below ho5 hq6.keep; have t0 := cell_step t0 hq6.keep; have t1 := cell_step t1 hq6.keep; have t2 := cell_step t2 hq6.keep; obtain ⟨⟨a0, a1, a2⟩, ⟨d0, d1, d2⟩, z0, z1, z2⟩ := KEEP.out _ hb16) | (go_at_call 89; refine (HJ.out _ a0 a1 a2 (hv1.below hk1) (hu1.below hk1)).mono ?_; rintro e w4 ⟨a4, c4, rfl, ho4, hb4⟩; have hb14 := hb1.trans (hb4.mono hb1s); have hb15 : Below (w.heap.size + 2) W1 (w4.alloc (.cells #[.int .i64 (a : Int), .int .i64 (m : Int), .slice a4 zs.length c4] 47)) := hb14.alloc (Nat.le_trans hb1s hb4.size) _; have t0 : World.cell? (w4.alloc (.cells #[.int .i64 (a : Int), .int .i64 (m : Int), .slice a4 zs.length c4] 47)) ⟨w4.heap.size, 0, none⟩ = some (.int .i64 (a : Int)) := (by simp); have t1 : World.cell? (w4.alloc (.cells #[.int .i64 (a : Int), .int .i64 (m : Int), .slice a4 zs.length c4] 47)) ⟨w4.heap.size, 1, none⟩ = some (.int .i64 (m : Int)) := (by simp); have t2 : World.cell? (w4.alloc (.cells #[.int .i64 (a : Int), .int .i64 (m : Int), .slice a4 zs.length c4] 47)) ⟨w4.heap.size, 2, none⟩ = some (.slice a4 zs.length c4) := (by simp); have ho5 := ho4.alloc (.cells #[.int .i64 (a : Int), .int .i64 (m : Int), .slice a4 zs.length c4] 47)) | (go_at_call 88; refine (l03Fits_any _ (a : Int) (m : Int) _ _ xs rs _ a0 a1 a2 hv1 hu1 HX.out HRR.out).mono ?_; rw [HA.out]; rintro e w1 ⟨rfl, hq1⟩; have hb1 := hq1.below (w.heap.size + 2); have hk1 := hq1.keep; obtain ⟨⟨a0, a1, a2⟩, ⟨d0, d1, d2⟩, z0, z1, z2⟩ := KEEP.out _ hb1; have hb1s := hb1.size; rw [hsz] at hb1s))
      refine bodyPost_ret (v := .tuple #[.agg #[.int .i64 0, .int .i64 0, .slice none 0 0], .bool false]) (by simp [results, Try.results41, go_sem, *]) rfl ?_
      rw [HR.out]
      exact ZERO.out _ (HBW.out.trans (hb16.mono (by omega)))
    · have HV := Lib.hid hvv
      have HR : Hid (res = ((a : Int), (m : Int), zs, true)) := HRES.out _ hvv
      clear hvv
      go_enter Try.func41, Try.ntmps41
      go_wp2_with fail
      rw [← hW1]
      clear hW1
      go_wp2_with (first | (go_at_call 90; refine (l02Table_any _ (a : Int) (m : Int) _ zs _ t0 t1 t2 (SlR.own ho5) HF.out).mono ?_; rw [HV.out]; rintro e w6 ⟨rfl, hq6⟩; have hb16 := hb15.trans (hq6.below (w.heap.size + 2)); have ho6 := ownsRow_below ho5 hq6.keep; have t0 := cell_step t0 hq6.keep; have t1 := cell_step t1 hq6.keep; have t2 := cell_step t2 hq6.keep; obtain ⟨⟨a0, a1, a2⟩, ⟨d0, d1, d2⟩, z0, z1, z2⟩ := KEEP.out _ hb16) | (go_at_call 89; refine (HJ.out _ a0 a1 a2 (hv1.below hk1) (hu1.below hk1)).mono ?_; rintro e w4 ⟨a4, c4, rfl, ho4, hb4⟩; have hb14 := hb1.trans (hb4.mono hb1s); have hb15 : Below (w.heap.size + 2) W1 (w4.alloc (.cells #[.int .i64 (a : Int), .int .i64 (m : Int), .slice a4 zs.length c4] 47)) := hb14.alloc (Nat.le_trans hb1s hb4.size) _; have t0 : World.cell? (w4.alloc (.cells #[.int .i64 (a : Int), .int .i64 (m : Int), .slice a4 zs.length c4] 47)) ⟨w4.heap.size, 0, none⟩ = some (.int .i64 (a : Int)) := (by simp); have t1 : World.cell? (w4.alloc (.cells #[.int .i64 (a : Int), .int .i64 (m : Int), .slice a4 zs.length c4] 47)) ⟨w4.heap.size, 1, none⟩ = some (.int .i64 (m : Int)) := (by simp); have t2 : World.cell? (w4.alloc (.cells #[.int .i64 (a : Int), .int .i64 (m : Int), .slice a4 zs.length c4] 47)) ⟨w4.heap.size, 2, none⟩ = some (.slice a4 zs.length c4) := (by simp); have ho5 := ho4.alloc (.cells #[.int .i64 (a : Int), .int .i64 (m : Int), .slice a4 zs.length c4] 47)) | (go_at_call 88; refine (l03Fits_any _ (a : Int) (m : Int) _ _ xs rs _ a0 a1 a2 hv1 hu1 HX.out HRR.out).mono ?_; rw [HA.out]; rintro e w1 ⟨rfl, hq1⟩; have hb1 := hq1.below (w.heap.size + 2); have hk1 := hq1.keep; obtain ⟨⟨a0, a1, a2⟩, ⟨d0, d1, d2⟩, z0, z1, z2⟩ := KEEP.out _ hb1; have hb1s := hb1.size; rw [hsz] at hb1s))
      refine bodyPost_ret (v := .tuple #[.agg #[.int .i64 (a : Int), .int .i64 (m : Int), .slice a4 zs.length c4], .bool true]) (by simp [results, Try.results41, go_sem, *]) rfl ?_
      rw [HR.out]
      dsimp only
      have hb5 := HBW.out.trans (hb16.mono (by omega))
      have hs1 := hb1.size
      have o1 := ownsRow_setCell_below (a := ⟨w.heap.size + 1, 0, none⟩) ho6 (show w.heap.size + 1 < w1.heap.size by omega) (.int .i64 (a : Int))
      have o2 := ownsRow_setCell_below (a := ⟨w.heap.size + 1, 1, none⟩) o1 (show w.heap.size + 1 < w1.heap.size by omega) (.int .i64 (m : Int))
      have o3 := ownsRow_setCell_below (a := ⟨w.heap.size + 1, 2, none⟩) o2 (show w.heap.size + 1 < w1.heap.size by omega) (.slice a4 zs.length c4)
      exact RetRd.mk (f := fun v => .tuple #[.agg #[.int .i64 (a : Int), .int .i64 (m : Int), v], .bool true]) (SlR.own o3) (((hb5.setCell (p := ⟨w.heap.size + 1, 0, none⟩) (show w.heap.size ≤ w.heap.size + 1 by omega) _).setCell (p := ⟨w.heap.size + 1, 1, none⟩) (show w.heap.size ≤ w.heap.size + 1 by omega) _).setCell (p := ⟨w.heap.size + 1, 2, none⟩) (show w.heap.size ≤ w.heap.size + 1 by omega) _)

end Go.Proofs.Ytmocfnpbofeiiaa
