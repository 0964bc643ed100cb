/- The table of a row through a channel: the program's contract. -/
import Derived.Test.YtmocfnpbofeiiaaMJop
import Derived.Test.YtmocfnpbofeiiaaMLff
namespace Go.Proofs.Ytmocfnpbofeiiaa
set_option linter.unusedSimpArgs false
set_option linter.unusedVariables false
open Go.RowKit

set_option maxHeartbeats 4000000 in
theorem impl_JointOf (w : World) (i j : Int) (hi : I64 i) (hj : I64 j) (v : Value) (xs : List Nat) (hv : SlR w v (xs.map (Value.float .f32))) (hx : ∀ x ∈ xs, x < 4294967296) (_ : xs.length ≤ 1048576) (u : Value) (rs : List Nat) (hu : SlR w u (rs.map (Value.float .f32))) (hr : ∀ x ∈ rs, x < 4294967296) (_ : rs.length ≤ 1048576) :
    Calls Try.prog 87 #[.agg #[.int .i64 i, .int .i64 j, v], u] w (RetSl w 32 (out_JointOf i j xs rs).2.2.1.length ((out_JointOf i j xs rs).2.2.1.map (Value.float .f32)) (fun v => .tuple #[.agg #[.int .i64 (out_JointOf i j xs rs).1, .int .i64 (out_JointOf i j xs rs).2.1, v], .bool (out_JointOf i j xs rs).2.2.2])) := by
  obtain ⟨i0, hi0, hz0, hz1, hz2⟩ := info_parts info_Float32S
  obtain ⟨res, hres⟩ : ∃ res, res = out_JointOf i j xs rs := ⟨_, rfl⟩
  rw [← hres]
  have HX := Lib.hid hx
  have HRR := Lib.hid hr
  obtain ⟨W1, hW1⟩ : ∃ W1, W1 = (w.alloc (.cells #[.int .i64 i, .int .i64 j, v] 59)).alloc (.cells #[.int .i64 0, .int .i64 0, .slice none 0 0] 47) := ⟨_, rfl⟩
  have hsz : W1.heap.size = w.heap.size + 2 := by rw [hW1]; simp
  have hbw : Below w.heap.size w W1 := by rw [hW1]; go_grown
  have a0 : World.cell? W1 ⟨w.heap.size, 0, none⟩ = some (.int .i64 i) := by rw [hW1]; go_cell
  have a1 : World.cell? W1 ⟨w.heap.size, 1, none⟩ = some (.int .i64 j) := by rw [hW1]; go_cell
  have a2 : World.cell? W1 ⟨w.heap.size, 2, none⟩ = some v := by rw [hW1]; go_cell
  have d0 : World.cell? W1 ⟨w.heap.size + 1, 0, none⟩ = some (.int .i64 0) := by rw [hW1]; go_cell
  have d1 : World.cell? W1 ⟨w.heap.size + 1, 1, none⟩ = some (.int .i64 0) := by rw [hW1]; go_cell
  have d2 : World.cell? W1 ⟨w.heap.size + 1, 2, none⟩ = some (.slice none 0 0) := by rw [hW1]; go_cell
  have z0 : World.frozen? W1 ⟨w.heap.size + 1, 0, none⟩ = false := by rw [hW1, World.frozen?_alloc_at]; simp
  have z1 : World.frozen? W1 ⟨w.heap.size + 1, 1, none⟩ = false := by rw [hW1, World.frozen?_alloc_at]; simp
  have z2 : World.frozen? W1 ⟨w.heap.size + 1, 2, none⟩ = false := by rw [hW1, World.frozen?_alloc_at]; simp
  have KEEP : Hid (∀ W, Below (w.heap.size + 2) W1 W → (W.cell? ⟨w.heap.size, 0, none⟩ = some (.int .i64 i) ∧ W.cell? ⟨w.heap.size, 1, none⟩ = some (.int .i64 j) ∧ W.cell? ⟨w.heap.size, 2, none⟩ = some v) ∧
      (W.cell? ⟨w.heap.size + 1, 0, none⟩ = some (.int .i64 0) ∧ W.cell? ⟨w.heap.size + 1, 1, none⟩ = some (.int .i64 0) ∧ W.cell? ⟨w.heap.size + 1, 2, none⟩ = some (.slice none 0 0)) ∧ (W.frozen? ⟨w.heap.size + 1, 0, none⟩ = false ∧ W.frozen? ⟨w.heap.size + 1, 1, none⟩ = false ∧ W.frozen? ⟨w.heap.size + 1, 2, none⟩ = false)) := by
    show ∀ W, _
    intro W hW
    have hl : w.heap.size + 1 < W1.heap.size := by omega
    rw [← hsz] at hW
    exact ⟨⟨cell_step a0 hW, cell_step a1 hW, cell_step a2 hW⟩, ⟨cell_step d0 hW, cell_step d1 hW, cell_step d2 hW⟩, ⟨(hW.frozen (p := ⟨w.heap.size + 1, 0, none⟩) hl).trans z0, (hW.frozen (p := ⟨w.heap.size + 1, 1, none⟩) hl).trans z1, (hW.frozen (p := ⟨w.heap.size + 1, 2, none⟩) hl).trans z2⟩⟩
  have ZERO : Hid (∀ W, Below w.heap.size w W → RetSl w 32 ([] : List Nat).length (([] : List Nat).map (Value.float .f32)) (fun v => .tuple #[.agg #[.int .i64 0, .int .i64 0, v], .bool false]) (.returned (.tuple #[.agg #[.int .i64 0, .int .i64 0, .slice none 0 0], .bool false])) (((W.setCell ⟨w.heap.size + 1, 0, none⟩ (.int .i64 0)).setCell ⟨w.heap.size + 1, 1, none⟩ (.int .i64 0)).setCell ⟨w.heap.size + 1, 2, none⟩ (.slice none 0 0))) := by
    show ∀ W, _
    intro W hW
    exact RetSl.nul (T := 32) (f := fun v => .tuple #[.agg #[.int .i64 0, .int .i64 0, v], .bool false]) (((hW.setCell (p := ⟨w.heap.size + 1, 0, none⟩) (show w.heap.size ≤ w.heap.size + 1 by omega) _).setCell (p := ⟨w.heap.size + 1, 1, none⟩) (show w.heap.size ≤ w.heap.size + 1 by omega) _).setCell (p := ⟨w.heap.size + 1, 2, none⟩) (show w.heap.size ≤ w.heap.size + 1 by omega) _)
  have hv1 := hv.below hbw
  have hu1 := hu.below hbw
  have HBW := Lib.hid hbw
  cases hf : fitB i j xs rs
  · have HR : Hid (res = (0, 0, [], false)) := by show res = _; rw [hres, outJN_no (by unfold jnOk; rw [hf]; rfl)]
    have HA := Lib.hid hf
    obtain ⟨ua, un, uc, rfl, -⟩ := SlR.opened 0 hu
    clear hf hres hx hr
    go_enter Try.func87, Try.ntmps87
    go_wp2_with fail
    rw [← hW1]
    clear hW1
    go_wp2_with (go_at_call 113; refine (takes_any i j hi hj _ _ xs rs _ hv1 hu1 HX.out HRR.out).mono ?_; rw [HA.out]; rintro e w1 ⟨rfl, hb1'⟩; have hb1 : Below (w.heap.size + 2) W1 w1 := (by rw [← hsz]; exact hb1'); obtain ⟨⟨a0, a1, a2⟩, ⟨d0, d1, d2⟩, z0, z1, z2⟩ := KEEP.out _ hb1)
    refine bodyPost_ret (v := .tuple #[.agg #[.int .i64 0, .int .i64 0, .slice none 0 0], .bool false]) (by simp [results, Try.results87, go_sem, *]) rfl ?_
    rw [HR.out]
    exact ZERO.out _ (HBW.out.trans (hb1.mono (by omega)))
  · obtain ⟨a, m, rfl, rfl, A1, A2, M1, M2, hl, hrows, hrl, hrs⟩ := fitB_nat hf
    obtain ⟨xb, xo, xc, rfl, hxnc, hxcm, hxb, hxk⟩ := fl_cells hv1 hl (Nat.mul_pos A1 M1)
    obtain ⟨rb, ro, rc, rfl, hrnc, hrcm, hrb, hrk⟩ := fl_cells hu1 hrl A1
    obtain ⟨nx, hnx⟩ : ∃ nx, nx = a * m := ⟨_, rfl⟩
    have hn64 : nx ≤ 64 := by rw [hnx]; exact prod_le A2 M2
    have HA := Lib.hid hf
    have HF : Hid (∀ y ∈ jOf xs rs m a, y < 4294967296) := jOf_lt hl hrows hrs hrl
    have HMU : Hid (∀ k r, k < a → r < m → (floatBits .mul .f32 (rs[k]?.getD 0) (xs[k * m + r]?.getD 0)).isSome = true) := fun k r h1 h2 => (mul_ch (get_pn hrs (by omega)) (ch_el hl hrows h1 h2)).1
    have HXK := Lib.hid hxk
    have HRK := Lib.hid hrk
    have HNX := Lib.hid hnx
    have hrc9 : a ≤ 9223372036854775807 := by omega
    rw [← hnx] at a2 KEEP hxnc
    have HRES : Hid (∀ b, validTb (a : Int) (m : Int) (jOf xs rs m a) = b → res = if b then ((a : Int), (m : Int), jOf xs rs m a, true) else (0, 0, [], false)) := by
      intro b hb
      cases b
      · rw [hres, outJN_no (by unfold jnOk; rw [hf, Int.toNat_natCast, Int.toNat_natCast, hb]; rfl)]; rfl
      · rw [hres, outJN_yes (by unfold jnOk; rw [hf, Int.toNat_natCast, Int.toNat_natCast, hb]; rfl)]; rfl
    clear hf hres hx hr hl hrows hrl hrs hxk hrk hnx hv hu hbw
    go_enter Try.func87, Try.ntmps87
    go_wp2_with fail
    rw [← hW1]
    clear hW1
    go_wp2_with (go_at_call 113; first | (refine (takes_any (a : Int) (m : Int) hi hj _ _ xs rs _ hv1 hu1 HX.out HRR.out).mono ?_; rw [HA.out]; rintro e w1 ⟨rfl, hb1'⟩; have hb1 : Below (w.heap.size + 2) W1 w1 := (by rw [← hsz]; exact hb1'); have hs1 := hb1.size; obtain ⟨⟨a0, a1, a2⟩, ⟨d0, d1, d2⟩, z0, z1, z2⟩ := KEEP.out _ hb1))
    rw [hsz] at hs1
    obtain ⟨W2, hW2⟩ : ∃ W2, W2 = w1.alloc (.cells #[.int .i64 (a : Int), .int .i64 (m : Int), .slice none 0 0] 47) := ⟨_, rfl⟩
    obtain ⟨G, hG⟩ : ∃ G, G = w1.heap.size := ⟨_, rfl⟩
    have hs4 : W2.heap.size = G + 1 := by rw [hW2, hG]; simp
    have hb2 : Below (w.heap.size + 2) W1 W2 := by rw [hW2]; exact hb1.alloc (by omega) _
    have hS0 : StB W2 G a m none 0 (jOf xs rs m 0) := by
      refine ⟨?_, ?_, ?_, ?_, rfl, .inl ⟨rfl, rfl⟩⟩
      · rw [hW2, hG]; simp
      · rw [hW2, hG]; simp
      · show World.cell? W2 _ = some (.slice none 0 0)
        rw [hW2, hG]; simp
      · rw [hW2, hG, World.frozen?_alloc_at]; simp
    rw [← hW2, ← hG]
    rw [← hG] at hs1
    clear hW2 hG hb1 hb1' hu1 hv1 a0 a1 a2 d0 d1 d2 z0 z1 z2
    have HB2 := Lib.hid hb2
    clear hb2
    go_loopw [23] (fun q wr => ∃ k : Nat, k ≤ a ∧ q = .int .i64 k ∧ (∃ ad cd, StB wr G a m ad cd (jOf xs rs m k)) ∧ Below G W2 wr) (fun q _ => a - (intOf q).toNat)
    case atStart => exact ⟨0, Nat.zero_le _, rfl, ⟨none, 0, hS0⟩, Below.refl _ _⟩
    case round =>
      clear hS0
      obtain ⟨k, hk, rfl, ⟨ad, cd, hS⟩, hb⟩ := hrel
      have hbs := hb.size
      rw [hs4] at hbs
      obtain ⟨⟨a0, a1, a2⟩, ⟨d0, d1, d2⟩, z0, z1, z2⟩ := KEEP.out _ (HB2.out.trans (hb.mono hs1))
      by_cases hlt : k < a
      · clear d0 d1 d2 z0 z1 z2
        have rk := ((HB2.out.trans (hb.mono hs1)).cell (p := ⟨rb, ro + k, none⟩) (show rb < w.heap.size + 2 by omega)).trans (HRK.out k hlt)
        obtain ⟨P, hP⟩ : ∃ P, P = k * m := ⟨_, rfl⟩
        have hPn : P + m ≤ nx := by rw [hP, HNX.out]; have := row_le (m := m) hlt; rw [Nat.add_mul, Nat.one_mul] at this; exact this
        have HRW := Lib.hid (fun W => chRow_bl (a : Int) m k P xb xo nx xc W hP (by omega) (by omega) (by omega) hPn hxnc hxcm)
        have HP := Lib.hid hP
        obtain ⟨s, hs⟩ : ∃ s, s = rs[k]?.getD 0 := ⟨_, rfl⟩
        rw [← hs] at rk
        have HSS := Lib.hid hs
        clear hP hs
        go_wp2_with (go_at_call 114; refine (HRW.out _).mono ?_; rintro e w5 ⟨rfl, hb5⟩; have hS5 := hS.below hb5; have hb6 := hb.trans (hb5.mono (Nat.le_of_lt hS.lt)))
        clear hS hb hb5 a0 a1 a2 rk hbs
        go_loopw [32] (fun q wr => ∃ r : Nat, r ≤ m ∧ q = .int .i64 r ∧ (∃ ad cd, StB wr G a m ad cd (jOf xs rs m k ++ jRow xs rs m k r)) ∧ Below G W2 wr) (fun q _ => m - (intOf q).toNat)
        case atStart => exact ⟨0, Nat.zero_le _, rfl, ⟨ad, cd, by simpa [jRow] using hS5⟩, hb6⟩
        case round =>
          clear hS5 hb6
          obtain ⟨r, hr, rfl, ⟨ad, cd, hS⟩, hb⟩ := hrel
          by_cases hrlt : r < m
          · have hmul := HMU.out k r hlt hrlt
            rw [← HSS.out] at hmul
            have x0 := ((HB2.out.trans (hb.mono hs1)).cell (p := ⟨xb, xo + (P + r), none⟩) (show xb < w.heap.size + 2 by omega)).trans (HXK.out (P + r) (by have := HNX.out; omega))
            have HCS := Lib.hid (jRow_succ xs rs m k r)
            rw [← HP.out, ← HSS.out] at HCS
            rw [← HP.out] at hmul
            rw [← Nat.add_assoc] at x0
            generalize xs[P + r]?.getD 0 = z at *
            obtain ⟨y, hyy⟩ : ∃ y, y = fA .mul .f32 s z := ⟨_, rfl⟩
            rw [← hyy] at HCS
            have hrun := fun W : World => run_fA (P := Try.prog) (w := W) .mul 32 .f32 _ _ hmul
            rw [← hyy] at hrun
            obtain ⟨zs, hzs⟩ : ∃ zs, zs = jOf xs rs m k ++ jRow xs rs m k r := ⟨_, rfl⟩
            rw [← hzs] at hS
            have HZ := Lib.hid hzs
            have hzl : zs.length ≤ 4096 := by rw [HZ.out, List.length_append, jOf_length, jRow_length]; have : k * m ≤ 8 * 8 := Nat.mul_le_mul (by omega) (by omega); omega
            have hlS := hS.lt
            have f2 := hS.2.2.1
            have hSa : StB (wr.alloc (.cells #[.float .f32 y] 32)) G a m ad cd zs := hS.below (by go_grown)
            have hba := hb.alloc (Nat.le_of_lt hlS) (.cells #[.float .f32 y] 32)
            clear hzs hyy hmul hS hb
            go_wp2_with (at_builtin; refine wpList_append_own _ rfl _ _ 25 rfl (G + 1) 32 i0 (.float .f32 0) 1 4 Try.underlying25 hi0 hz0 hz1 hz2 rfl (by decide) _ _ _ rfl hSa.2.2.2.2 ⟨wr.heap.size, 0, none⟩ 1 1 [.float .f32 y] rfl rfl (cell_one_new _ _ _) (one_oneCell rfl) (by unfold maxLen; omega) (by omega) (by simp only [World.size_alloc]; omega) ?_; intro v1 w6 hown1 hgx _; obtain ⟨g2, c2, rfl, k3, k4⟩ := StB.app hSa hown1 hgx)
            go_roundw
            case rel => exact ⟨r + 1, by omega, by go_num, ⟨some ⟨g2, 0, none⟩, c2, by rw [HCS.out, ← List.append_assoc, ← HZ.out]; exact StB.push hSa hgx hown1⟩, push_below hba hSa (Nat.le_refl _) hgx⟩
            case measure => simp [intOf]; omega
          · obtain rfl : m = r := by omega
            go_wp2
            go_roundw
            case rel => exact ⟨k + 1, by omega, by go_num, ⟨ad, cd, by rw [jOf_succ]; exact hS⟩, hb⟩
            case measure => simp [intOf]; omega
      · obtain rfl : a = k := by omega
        have hbF : Below w.heap.size w wr := HBW.out.trans ((HB2.out.trans (hb.mono hs1)).mono (by omega))
        have hlS := hS.lt
        obtain ⟨s0, s1, s2, s3, s4⟩ := hS
        clear a0 a1 a2
        generalize jOf xs rs m a = zs at *
        cases hvv : validTb (a : Int) (m : Int) zs
        · have HV := Lib.hid hvv
          have HR : Hid (res = (0, 0, [], false)) := HRES.out _ hvv
          clear hvv
          go_wp2_with (go_at_call 79; refine (asTable_no (a : Int) (m : Int) hi hj _ zs _ (SlR.own s4) HF.out HV.out).mono ?_; rintro e w7 ⟨rfl, hb4⟩; have hb24 := (HB2.out.trans (hb.mono hs1)).trans (hb4.mono (by omega)); obtain ⟨-, ⟨d0, d1, d2⟩, z0, z1, z2⟩ := KEEP.out _ hb24)
          refine bodyPost_ret (v := .tuple #[.agg #[.int .i64 0, .int .i64 0, .slice none 0 0], .bool false]) (by simp [results, Try.results87, go_sem, *]) rfl ?_
          rw [HR.out]
          exact ZERO.out _ (hbF.trans (hb4.mono hbF.size))
        · have HV := Lib.hid hvv
          have HR : Hid (res = ((a : Int), (m : Int), zs, true)) := HRES.out _ hvv
          clear hvv
          go_wp2_with (go_at_call 79; refine (asTable_yes (a : Int) (m : Int) hi hj _ zs _ (SlR.own s4) HF.out HV.out).mono ?_; rintro e w7 ⟨rfl, hb4⟩; have hb24 := (HB2.out.trans (hb.mono hs1)).trans (hb4.mono (by omega)); obtain ⟨-, ⟨d0, d1, d2⟩, z0, z1, z2⟩ := KEEP.out _ hb24; have s5 := ownsRow_below s4 hb4)
          refine bodyPost_ret (v := .tuple #[.agg #[.int .i64 (a : Int), .int .i64 (m : Int), .slice ad zs.length cd], .bool true]) (by simp [results, Try.results87, go_sem, *]) rfl ?_
          rw [HR.out]
          dsimp only
          have hb5 := hbF.trans (hb4.mono hbF.size)
          have o1 := ownsRow_setCell_below (a := ⟨w.heap.size + 1, 0, none⟩) s5 (show w.heap.size + 1 < G + 1 by omega) (.int .i64 (a : Int))
          have o2 := ownsRow_setCell_below (a := ⟨w.heap.size + 1, 1, none⟩) o1 (show w.heap.size + 1 < G + 1 by omega) (.int .i64 (m : Int))
          have o3 := ownsRow_setCell_below (a := ⟨w.heap.size + 1, 2, none⟩) o2 (show w.heap.size + 1 < G + 1 by omega) (.slice ad zs.length cd)
          exact RetSl.mk (f := fun v => .tuple #[.agg #[.int .i64 (a : Int), .int .i64 (m : Int), v], .bool true]) (ownsRow_base o3 (by omega)) (((hb5.setCell (p := ⟨w.heap.size + 1, 0, none⟩) (show w.heap.size ≤ w.heap.size + 1 by omega) _).setCell (p := ⟨w.heap.size + 1, 1, none⟩) (show w.heap.size ≤ w.heap.size + 1 by omega) _).setCell (p := ⟨w.heap.size + 1, 2, none⟩) (show w.heap.size ≤ w.heap.size + 1 by omega) _)

end Go.Proofs.Ytmocfnpbofeiiaa
