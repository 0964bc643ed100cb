/- The table of a row through a channel: the reference's part. -/
import Derived.Test.YtlahmdnlamifnaaJop
namespace Go.Proofs.Ytlahmdnlamifnaa
set_option linter.unusedSimpArgs false
set_option linter.unusedVariables false
open Go.RowKit

set_option maxHeartbeats 4000000 in
theorem l03Joint_any (g : Nat) (a m : Nat) (v u : Value) (xs rs : List Nat) (w : World) (hg0 : w.cell? ⟨g, 0, none⟩ = some (.int .i64 a)) (hg1 : w.cell? ⟨g, 1, none⟩ = some (.int .i64 m)) (hg2 : w.cell? ⟨g, 2, none⟩ = some v) (hv : SlR w v (xs.map (Value.float .f32))) (hu : SlR w u (rs.map (Value.float .f32))) (a1 : 1 ≤ a) (a2 : a ≤ 8) (m1 : 1 ≤ m) (m2 : m ≤ 8) (hl : xs.length = a * m) (hrl : rs.length = a) (hx : ∀ x ∈ xs, Ch x) (hr : ∀ x ∈ rs, Ch x) :
    Calls Try.prog 59 #[.pointer (some ⟨g, 0, none⟩), u] w (RetSt w a m (jOf xs rs m a)) := by
  have hpos : 0 < a * m := Nat.mul_pos a1 m1
  obtain ⟨n, hn⟩ : ∃ n, xs.length = n := ⟨_, rfl⟩
  have hn2 : n = a * m := by omega
  obtain ⟨b, off, c, rfl, hnc, hcm, hxb, hxk⟩ := fl_cells hv hn (by omega)
  obtain ⟨rb, roff, rc, rfl, hrnc, hrcm, hrb, hrk⟩ := fl_cells hu hrl a1
  have hn64 : n ≤ 64 := by rw [hn2]; exact prod_le a2 m2
  have HC := Lib.hid hxk
  have HRC := Lib.hid hrk
  have HL := Lib.hid hn2
  have HX : Hid (∀ k, k < n → Ch (xs[k]?.getD 0)) := fun k hk => get_pn hx (by omega)
  have HR : Hid (∀ k, k < a → Ch (rs[k]?.getD 0)) := fun k hk => get_pn hr (by omega)
  have hgl : g < w.heap.size := World.block_lt_of_cell? w _ hg0
  clear hl hrl hv hu hx hr hxk hrk hn hn2 hpos
  go_enter Try.func59, Try.ntmps59
  go_wp2
  go_region_held3 (fun W => World.cell? W ⟨g, 0, none⟩ = some (.int .i64 (a : Int)) ∧ World.cell? W ⟨g, 1, none⟩ = some (.int .i64 (m : Int)) ∧ Fr w W) (exact ⟨cell_step hg0 (by go_grown), cell_step hg1 (by go_grown), (show Below _ _ _ by go_grown)⟩) (fail)
  rename_i hHold
  clear hHold
  obtain ⟨W2, hW2⟩ : ∃ W2, W2 = ((w.alloc (.cells #[.int .i64 0, .int .i64 0, .slice none 0 0] 37)).alloc (.cells #[.int .i64 (a : Int), .int .i64 (m : Int), .slice none 0 0] 37)).drew := ⟨_, rfl⟩
  have hsz : W2.heap.size = w.heap.size + 2 := by rw [hW2]; simp [World.drew]
  have hbw : Below w.heap.size w W2 := by rw [hW2]; go_grown
  have c0 := cell_step hg0 hbw
  have c1 := cell_step hg1 hbw
  have c2 := cell_step hg2 hbw
  have d0 : World.cell? W2 ⟨w.heap.size, 0, none⟩ = some (.int .i64 0) := by rw [hW2]; go_cell
  have d1 : World.cell? W2 ⟨w.heap.size, 1, none⟩ = some (.int .i64 0) := by rw [hW2]; go_cell
  have d2 : World.cell? W2 ⟨w.heap.size, 2, none⟩ = some (.slice none 0 0) := by rw [hW2]; go_cell
  have hD : ∀ o, World.frozen? W2 ⟨w.heap.size, o, none⟩ = false := by
    intro o; rw [hW2]
    show World.frozen? (World.alloc _ _) _ = false
    rw [World.frozen?_alloc_past, World.frozen?_alloc_at]
    · rfl
    · simp
  have hS0 : StB W2 (w.heap.size + 1) a m none 0 (jOf xs rs m 0) := by
    refine ⟨?_, ?_, ?_, ?_, rfl, .inl ⟨rfl, rfl⟩⟩
    · rw [hW2]; go_cell
    · rw [hW2]; go_cell
    · show World.cell? W2 _ = some (.slice none 0 0)
      rw [hW2]; go_cell
    · rw [hW2]
      show World.frozen? (World.alloc _ _) _ = false
      rw [World.frozen?_alloc_at]; simp
  rw [← hW2]
  clear hW2 hg0 hg1 hg2
  go_wp2
  go_loopw [6] (fun q wr => ∃ k : Nat, k ≤ a ∧ q = .int .i64 k ∧ (∃ ad cd, StB wr (w.heap.size + 1) a m ad cd (jOf xs rs m k)) ∧ Below (w.heap.size + 1) W2 wr) (fun q _ => a - (intOf q).toNat)
  case atStart => exact ⟨0, Nat.zero_le _, rfl, ⟨none, 0, hS0⟩, Below.refl _ _⟩
  case round =>
    clear hS0
    obtain ⟨k, hk, rfl, ⟨ad, cd, hS⟩, hb⟩ := hrel
    have e0 := (hb.cell (p := ⟨g, 0, none⟩) (show g < w.heap.size + 1 by omega)).trans c0
    have e1 := (hb.cell (p := ⟨g, 1, none⟩) (show g < w.heap.size + 1 by omega)).trans c1
    by_cases hlt : k < a
    · go_wp2
      obtain ⟨wo, hwo⟩ : ∃ wo : World, wo = wr := ⟨_, rfl⟩
      rw [← hwo] at hS hb e0 e1 ⊢
      clear hwo wr
      go_loopw [7] (fun q wr => ∃ r : Nat, r ≤ m ∧ q = .int .i64 r ∧ (∃ ad cd, StB wr (w.heap.size + 1) a m ad cd (jOf xs rs m k ++ jRow xs rs m k r)) ∧ Below (w.heap.size + 1) W2 wr) (fun q _ => m - (intOf q).toNat)
      case atStart => exact ⟨0, Nat.zero_le _, rfl, ⟨ad, cd, by simpa [jRow] using hS⟩, hb⟩
      case round =>
        clear hS hb e0 e1
        obtain ⟨r, hr, rfl, ⟨ad, cd, hS⟩, hb⟩ := hrel
        have e1 := (hb.cell (p := ⟨g, 1, none⟩) (show g < w.heap.size + 1 by omega)).trans c1
        by_cases hrlt : r < m
        · have e2 := (hb.cell (p := ⟨g, 2, none⟩) (show g < w.heap.size + 1 by omega)).trans c2
          obtain ⟨p, hp⟩ : ∃ p, p = k * m := ⟨_, rfl⟩
          have hpm : p + m ≤ n := by rw [hp, HL.out]; have := row_le (m := m) hlt; rw [Nat.add_mul, Nat.one_mul] at this; exact this
          have hx0 := HC.out (p + r) (by omega)
          have hy0 := HRC.out k hlt
          have hmul := (mul_ch (HR.out k hlt) (HX.out (p + r) (by omega))).1
          have hx := (hb.cell (p := ⟨b, off + (p + r), none⟩) (show b < w.heap.size + 1 by omega)).trans ((hbw.cell (p := ⟨b, off + (p + r), none⟩) hxb).trans hx0)
          have hy := (hb.cell (p := ⟨rb, roff + k, none⟩) (show rb < w.heap.size + 1 by omega)).trans ((hbw.cell (p := ⟨rb, roff + k, none⟩) hrb).trans hy0)
          have HCS := Lib.hid (jRow_succ xs rs m k r)
          rw [← hp] at HCS
          generalize xs[p + r]?.getD 0 = z at *
          generalize rs[k]?.getD 0 = s at *
          obtain ⟨q, hq⟩ : ∃ q, q = p + r := ⟨_, rfl⟩
          rw [← hq] at hx
          obtain ⟨y, hyy⟩ : ∃ y, y = fA .mul .f32 s z := ⟨_, rfl⟩
          rw [← hyy] at HCS
          have hys := hyy.symm
          have i1 : (k : Int) * (m : Int) = (p : Int) := by rw [hp]; simp
          have i2 : IntKind.i64.wrap ((k : Int) * (m : Int)) = (p : Int) := by rw [i1]; exact IntWalk.i64_in _ (by omega)
          have i3 : (p : Int) + (r : Int) = (q : Int) := by rw [hq]; simp
          have i4 : IntKind.i64.wrap ((p : Int) + (r : Int)) = (q : Int) := by rw [i3]; exact IntWalk.i64_in _ (by omega)
          have j1 : IntKind.i64.wrap (p : Int) = (p : Int) := IntWalk.i64_in _ (by omega)
          have j2 : IntKind.i64.wrap (q : Int) = (q : Int) := IntWalk.i64_in _ (by omega)
          have i5 : (0 : Int) ≤ (q : Int) := by omega
          have i6 : (q : Int) < (n : Int) := by omega
          have i7 : q < n := by omega
          have i8 : (0 : Int) ≤ (k : Int) := by omega
          have i9 : (k : Int) < (a : Int) := by omega
          obtain ⟨zs, hzs⟩ : ∃ zs, zs = jOf xs rs m k ++ jRow xs rs m k r := ⟨_, rfl⟩
          rw [← hzs] at hS
          have HZ := Lib.hid hzs
          have hzl : zs.length ≤ 4096 := by rw [HZ.out, List.length_append, jOf_length, jRow_length]; have : k * m ≤ 8 * 8 := Nat.mul_le_mul (by omega) (by omega); omega
          clear hzs hp hq hx0 hy0 hyy
          have hlS := hS.lt
          have hSd : StB (wr.alloc (.cells #[.float .f32 y] 22)).drew (w.heap.size + 1) a m ad cd zs := hS.below (by go_grown)
          have hbd : Below (w.heap.size + 1) W2 (wr.alloc (.cells #[.float .f32 y] 22)).drew := Below.drew (hb.alloc (by omega) _)
          have hry : World.cell? (wr.alloc (.cells #[.float .f32 y] 22)).drew ⟨wr.heap.size, 0, none⟩ = some (.float .f32 y) := by go_cell
          have f2 := hS.2.2.1
          have f2a : World.cell? (wr.alloc (.cells #[.float .f32 y] 22)) _ = _ := hSd.2.2.1
          go_wp2
          have X := fun (ops : Array Oper) (o : Oper) (A : Act) (K : Act → World → Prop) (Q : Exit → Act → World → Prop) (E : Prop) h1 s x h2 h3 h4 h5 => StB.law (ops := ops) (o := o) (A := A) (K := K) (Q := Q) (E := E) hSd hzl y wr.heap.size hry (wr.heap.size + 1) (by simp [World.drew]) h1 s x h2 h3 h4 h5
          go_region_law (((with_reducible refine X _ _ _ _ _ _ ?_ (.tmp 34) (.tmp 54) ?_ ?_ ?_ ?_); rfl; rfl; rfl; rfl; intro g2 c2 w2 ho2 hg2 hc2 hf2))
          clear X
          all_goals
            go_wp2
            exact ⟨⟨r + 1, by omega, by go_num, ⟨some ⟨g2, 0, none⟩, c2, by rw [HCS.out, ← List.append_assoc, ← HZ.out]; exact StB.push hSd hg2 ho2⟩, push_below hbd hSd (by omega) hg2⟩, by simp [intOf]; omega⟩
        · obtain rfl : m = r := by omega
          go_wp2
          go_roundw
          case rel => exact ⟨k + 1, by omega, by go_num, ⟨ad, cd, by rw [jOf_succ]; exact hS⟩, hb⟩
          case measure => simp [intOf]; omega
    · obtain rfl : a = k := by omega
      have g0 := (hb.cell (p := ⟨w.heap.size, 0, none⟩) (show w.heap.size < w.heap.size + 1 by omega)).trans d0
      have g1 := (hb.cell (p := ⟨w.heap.size, 1, none⟩) (show w.heap.size < w.heap.size + 1 by omega)).trans d1
      have g2 := (hb.cell (p := ⟨w.heap.size, 2, none⟩) (show w.heap.size < w.heap.size + 1 by omega)).trans d2
      have z0 := (hb.frozen (p := ⟨w.heap.size, 0, none⟩) (show w.heap.size < w.heap.size + 1 by omega)).trans (hD 0)
      have z1 := (hb.frozen (p := ⟨w.heap.size, 1, none⟩) (show w.heap.size < w.heap.size + 1 by omega)).trans (hD 1)
      have z2 := (hb.frozen (p := ⟨w.heap.size, 2, none⟩) (show w.heap.size < w.heap.size + 1 by omega)).trans (hD 2)
      obtain ⟨s0, s1, s2, s3, s4⟩ := hS
      clear hD c0 c1 c2 d0 d1 d2
      go_wp2
      refine bodyPost_ret (v := .agg #[.int .i64 (a : Int), .int .i64 (m : Int), .slice ad (jOf xs rs m a).length cd]) (by simp [results, Try.results59, go_sem, *]) rfl ?_
      have o1 := ownsRow_setCell_below (a := ⟨w.heap.size, 0, none⟩) s4 (show w.heap.size < w.heap.size + 1 + 1 by omega) (.int .i64 (a : Int))
      have o2 := ownsRow_setCell_below (a := ⟨w.heap.size, 1, none⟩) o1 (show w.heap.size < w.heap.size + 1 + 1 by omega) (.int .i64 (m : Int))
      have o3 := ownsRow_setCell_below (a := ⟨w.heap.size, 2, none⟩) o2 (show w.heap.size < w.heap.size + 1 + 1 by omega) (.slice ad (jOf xs rs m a).length cd)
      have b0 : Below w.heap.size w wr := hbw.trans (hb.mono (by omega))
      have b1 := b0.setCell (p := ⟨w.heap.size, 0, none⟩) (show w.heap.size ≤ w.heap.size by omega) (.int .i64 (a : Int))
      have b2 := b1.setCell (p := ⟨w.heap.size, 1, none⟩) (show w.heap.size ≤ w.heap.size by omega) (.int .i64 (m : Int))
      have b3 := b2.setCell (p := ⟨w.heap.size, 2, none⟩) (show w.heap.size ≤ w.heap.size by omega) (.slice ad (jOf xs rs m a).length cd)
      exact RetSt.mk (ownsRow_base o3 (by omega)) b3

end Go.Proofs.Ytlahmdnlamifnaa
