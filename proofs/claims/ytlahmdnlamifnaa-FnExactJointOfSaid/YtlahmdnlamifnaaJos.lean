/- The table of a row through a channel: the reference's contract. -/
import Derived.Test.YtlahmdnlamifnaaMbg
import Derived.Test.YtlahmdnlamifnaaJoi
import Derived.Test.YtlahmdnlamifnaaJnt
namespace Go.Proofs.Ytlahmdnlamifnaa
set_option linter.unusedSimpArgs false
set_option linter.unusedVariables false
open Go.RowKit

set_option maxHeartbeats 4000000 in
theorem spec_JointOf (w : World) (i j : Int) (hi : I64 i) (hj : I64 j) (v : Value) (xs : List Nat) (hv : SlR w v (xs.map (Value.float .f32))) (hx : ∀ x ∈ xs, x < 4294967296) (_ : xs.length ≤ 1048576) (u : Value) (rs : List Nat) (hu : SlR w u (rs.map (Value.float .f32))) (hr : ∀ x ∈ rs, x < 4294967296) (_ : rs.length ≤ 1048576) :
    Calls Try.prog 24 #[.agg #[.int .i64 i, .int .i64 j, v], u] w (RetRd w (out_JointOf i j xs rs).2.2.1.length ((out_JointOf i j xs rs).2.2.1.map (Value.float .f32)) (fun v => .tuple #[.agg #[.int .i64 (out_JointOf i j xs rs).1, .int .i64 (out_JointOf i j xs rs).2.1, v], .bool (out_JointOf i j xs rs).2.2.2])) := by
  obtain ⟨res, hres⟩ : ∃ res, res = out_JointOf i j xs rs := ⟨_, rfl⟩
  rw [← hres]
  have HX := Lib.hid hx
  have HRR := Lib.hid hr
  obtain ⟨W1, hW1⟩ : ∃ W1, W1 = (w.alloc (.cells #[.int .i64 i, .int .i64 j, v] 25)).alloc (.cells #[.int .i64 0, .int .i64 0, .slice none 0 0] 37) := ⟨_, rfl⟩
  have hsz : W1.heap.size = w.heap.size + 2 := by rw [hW1]; simp
  have hbw : Below w.heap.size w W1 := by rw [hW1]; go_grown
  have a0 : World.cell? W1 ⟨w.heap.size, 0, none⟩ = some (.int .i64 i) := by rw [hW1]; go_cell
  have a1 : World.cell? W1 ⟨w.heap.size, 1, none⟩ = some (.int .i64 j) := by rw [hW1]; go_cell
  have a2 : World.cell? W1 ⟨w.heap.size, 2, none⟩ = some v := by rw [hW1]; go_cell
  have d0 : World.cell? W1 ⟨w.heap.size + 1, 0, none⟩ = some (.int .i64 0) := by rw [hW1]; go_cell
  have d1 : World.cell? W1 ⟨w.heap.size + 1, 1, none⟩ = some (.int .i64 0) := by rw [hW1]; go_cell
  have d2 : World.cell? W1 ⟨w.heap.size + 1, 2, none⟩ = some (.slice none 0 0) := by rw [hW1]; go_cell
  have z0 : World.frozen? W1 ⟨w.heap.size + 1, 0, none⟩ = false := by rw [hW1, World.frozen?_alloc_at]; simp
  have z1 : World.frozen? W1 ⟨w.heap.size + 1, 1, none⟩ = false := by rw [hW1, World.frozen?_alloc_at]; simp
  have z2 : World.frozen? W1 ⟨w.heap.size + 1, 2, none⟩ = false := by rw [hW1, World.frozen?_alloc_at]; simp
  have KEEP : Hid (∀ W, Below (w.heap.size + 2) W1 W → (W.cell? ⟨w.heap.size, 0, none⟩ = some (.int .i64 i) ∧ W.cell? ⟨w.heap.size, 1, none⟩ = some (.int .i64 j) ∧ W.cell? ⟨w.heap.size, 2, none⟩ = some v) ∧
      (W.cell? ⟨w.heap.size + 1, 0, none⟩ = some (.int .i64 0) ∧ W.cell? ⟨w.heap.size + 1, 1, none⟩ = some (.int .i64 0) ∧ W.cell? ⟨w.heap.size + 1, 2, none⟩ = some (.slice none 0 0)) ∧ (W.frozen? ⟨w.heap.size + 1, 0, none⟩ = false ∧ W.frozen? ⟨w.heap.size + 1, 1, none⟩ = false ∧ W.frozen? ⟨w.heap.size + 1, 2, none⟩ = false)) := by
    show ∀ W, _
    intro W hW
    have hl : w.heap.size + 1 < W1.heap.size := by omega
    rw [← hsz] at hW
    exact ⟨⟨cell_step a0 hW, cell_step a1 hW, cell_step a2 hW⟩, ⟨cell_step d0 hW, cell_step d1 hW, cell_step d2 hW⟩, ⟨(hW.frozen (p := ⟨w.heap.size + 1, 0, none⟩) hl).trans z0, (hW.frozen (p := ⟨w.heap.size + 1, 1, none⟩) hl).trans z1, (hW.frozen (p := ⟨w.heap.size + 1, 2, none⟩) hl).trans z2⟩⟩
  have ZERO : Hid (∀ W, Below w.heap.size w W → RetRd w ([] : List Nat).length (([] : List Nat).map (Value.float .f32)) (fun v => .tuple #[.agg #[.int .i64 0, .int .i64 0, v], .bool false]) (.returned (.tuple #[.agg #[.int .i64 0, .int .i64 0, .slice none 0 0], .bool false])) (((W.setCell ⟨w.heap.size + 1, 0, none⟩ (.int .i64 0)).setCell ⟨w.heap.size + 1, 1, none⟩ (.int .i64 0)).setCell ⟨w.heap.size + 1, 2, none⟩ (.slice none 0 0))) := by
    show ∀ W, _
    intro W hW
    exact RetSl.rd (RetSl.nul (T := 22) (f := fun v => .tuple #[.agg #[.int .i64 0, .int .i64 0, v], .bool false]) (((hW.setCell (p := ⟨w.heap.size + 1, 0, none⟩) (show w.heap.size ≤ w.heap.size + 1 by omega) _).setCell (p := ⟨w.heap.size + 1, 1, none⟩) (show w.heap.size ≤ w.heap.size + 1 by omega) _).setCell (p := ⟨w.heap.size + 1, 2, none⟩) (show w.heap.size ≤ w.heap.size + 1 by omega) _))
  have hv1 := hv.below hbw
  have hu1 := hu.below hbw
  have HBW := Lib.hid hbw
  cases hf : fitB i j xs rs
  · have HR : Hid (res = (0, 0, [], false)) := by show res = _; rw [hres, outJN_no (by unfold jnOk; rw [hf]; rfl)]
    have HA := Lib.hid hf
    obtain ⟨ua, un, uc, rfl, -⟩ := SlR.opened 0 hu
    clear hf hres hx hr
    go_enter Try.func24, Try.ntmps24
    go_wp2_with fail
    rw [← hW1]
    clear hW1
    go_wp2_with (go_at_call 58; refine (l03Fits_any _ i j _ _ xs rs _ a0 a1 a2 hv1 hu1 HX.out HRR.out).mono ?_; rw [HA.out]; rintro e w1 ⟨rfl, hq1⟩; have hb1 := hq1.below (w.heap.size + 2); have hk1 := hq1.keep; obtain ⟨⟨a0, a1, a2⟩, ⟨d0, d1, d2⟩, z0, z1, z2⟩ := KEEP.out _ hb1)
    refine bodyPost_ret (v := .tuple #[.agg #[.int .i64 0, .int .i64 0, .slice none 0 0], .bool false]) (by simp [results, Try.results24, go_sem, *]) rfl ?_
    rw [HR.out]
    exact ZERO.out _ (HBW.out.trans (hb1.mono (by omega)))
  · obtain ⟨a, m, rfl, rfl, A1, A2, M1, M2, hl, hrows, hrl, hrs⟩ := fitB_nat hf
    have HA := Lib.hid hf
    have HF : Hid (∀ y ∈ jOf xs rs m a, y < 4294967296) := jOf_lt hl hrows hrs hrl
    have HJ : Hid (∀ W, W.cell? ⟨w.heap.size, 0, none⟩ = some (.int .i64 (a : Int)) → W.cell? ⟨w.heap.size, 1, none⟩ = some (.int .i64 (m : Int)) → W.cell? ⟨w.heap.size, 2, none⟩ = some v → SlR W v (xs.map (Value.float .f32)) → SlR W u (rs.map (Value.float .f32)) → Calls Try.prog 59 #[.pointer (some ⟨w.heap.size, 0, none⟩), u] W (RetSt W a m (jOf xs rs m a))) := by
      show ∀ W, _
      intro W h0 h1 h2 h3 h4
      exact l03Joint_any w.heap.size a m v u xs rs W h0 h1 h2 h3 h4 A1 A2 M1 M2 hl hrl (ch_all hl hrows) hrs
    have HRES : Hid (∀ b, validTb (a : Int) (m : Int) (jOf xs rs m a) = b → res = if b then ((a : Int), (m : Int), jOf xs rs m a, true) else (0, 0, [], false)) := by
      intro b hb
      cases b
      · rw [hres, outJN_no (by unfold jnOk; rw [hf, Int.toNat_natCast, Int.toNat_natCast, hb]; rfl)]; rfl
      · rw [hres, outJN_yes (by unfold jnOk; rw [hf, Int.toNat_natCast, Int.toNat_natCast, hb]; rfl)]; rfl
    obtain ⟨ua, un, uc, rfl, -⟩ := SlR.opened 0 hu
    generalize jOf xs rs m a = zs at *
    clear hf hres hx hr hl hrows hrl hrs
    cases hvv : validTb (a : Int) (m : Int) zs
    · have HV := Lib.hid hvv
      have HR : Hid (res = (0, 0, [], false)) := HRES.out _ hvv
      clear hvv
      go_enter Try.func24, Try.ntmps24
      go_wp2_with fail
      rw [← hW1]
      clear hW1
      go_wp2_with (first | (go_at_call 60; refine (l02Table_any _ (a : Int) (m : Int) _ zs _ t0 t1 t2 (SlR.own ho5) HF.out).mono ?_; rw [HV.out]; rintro e w6 ⟨rfl, hq6⟩; have hb16 := hb15.trans (hq6.below (w.heap.size + 2)); have ho6 := ownsRow_below ho5 hq6.keep; have t0 := cell_step t0 hq6.keep; have t1 := cell_step t1 hq6.keep; have t2 := cell_step t2 hq6.keep; obtain ⟨⟨a0, a1, a2⟩, ⟨d0, d1, d2⟩, z0, z1, z2⟩ := KEEP.out _ hb16) | (go_at_call 59; refine (HJ.out _ a0 a1 a2 (hv1.below hk1) (hu1.below hk1)).mono ?_; rintro e w4 ⟨a4, c4, rfl, ho4, hb4⟩; have hb14 := hb1.trans (hb4.mono hb1s); have hb15 : Below (w.heap.size + 2) W1 (w4.alloc (.cells #[.int .i64 (a : Int), .int .i64 (m : Int), .slice a4 zs.length c4] 37)) := hb14.alloc (Nat.le_trans hb1s hb4.size) _; have t0 : World.cell? (w4.alloc (.cells #[.int .i64 (a : Int), .int .i64 (m : Int), .slice a4 zs.length c4] 37)) ⟨w4.heap.size, 0, none⟩ = some (.int .i64 (a : Int)) := (by simp); have t1 : World.cell? (w4.alloc (.cells #[.int .i64 (a : Int), .int .i64 (m : Int), .slice a4 zs.length c4] 37)) ⟨w4.heap.size, 1, none⟩ = some (.int .i64 (m : Int)) := (by simp); have t2 : World.cell? (w4.alloc (.cells #[.int .i64 (a : Int), .int .i64 (m : Int), .slice a4 zs.length c4] 37)) ⟨w4.heap.size, 2, none⟩ = some (.slice a4 zs.length c4) := (by simp); have ho5 := ho4.alloc (.cells #[.int .i64 (a : Int), .int .i64 (m : Int), .slice a4 zs.length c4] 37)) | (go_at_call 58; refine (l03Fits_any _ (a : Int) (m : Int) _ _ xs rs _ a0 a1 a2 hv1 hu1 HX.out HRR.out).mono ?_; rw [HA.out]; rintro e w1 ⟨rfl, hq1⟩; have hb1 := hq1.below (w.heap.size + 2); have hk1 := hq1.keep; obtain ⟨⟨a0, a1, a2⟩, ⟨d0, d1, d2⟩, z0, z1, z2⟩ := KEEP.out _ hb1; have hb1s := hb1.size; rw [hsz] at hb1s))
      refine bodyPost_ret (v := .tuple #[.agg #[.int .i64 0, .int .i64 0, .slice none 0 0], .bool false]) (by simp [results, Try.results24, go_sem, *]) rfl ?_
      rw [HR.out]
      exact ZERO.out _ (HBW.out.trans (hb16.mono (by omega)))
    · have HV := Lib.hid hvv
      have HR : Hid (res = ((a : Int), (m : Int), zs, true)) := HRES.out _ hvv
      clear hvv
      go_enter Try.func24, Try.ntmps24
      go_wp2_with fail
      rw [← hW1]
      clear hW1
      go_wp2_with (first | (go_at_call 60; refine (l02Table_any _ (a : Int) (m : Int) _ zs _ t0 t1 t2 (SlR.own ho5) HF.out).mono ?_; rw [HV.out]; rintro e w6 ⟨rfl, hq6⟩; have hb16 := hb15.trans (hq6.below (w.heap.size + 2)); have ho6 := ownsRow_below ho5 hq6.keep; have t0 := cell_step t0 hq6.keep; have t1 := cell_step t1 hq6.keep; have t2 := cell_step t2 hq6.keep; obtain ⟨⟨a0, a1, a2⟩, ⟨d0, d1, d2⟩, z0, z1, z2⟩ := KEEP.out _ hb16) | (go_at_call 59; refine (HJ.out _ a0 a1 a2 (hv1.below hk1) (hu1.below hk1)).mono ?_; rintro e w4 ⟨a4, c4, rfl, ho4, hb4⟩; have hb14 := hb1.trans (hb4.mono hb1s); have hb15 : Below (w.heap.size + 2) W1 (w4.alloc (.cells #[.int .i64 (a : Int), .int .i64 (m : Int), .slice a4 zs.length c4] 37)) := hb14.alloc (Nat.le_trans hb1s hb4.size) _; have t0 : World.cell? (w4.alloc (.cells #[.int .i64 (a : Int), .int .i64 (m : Int), .slice a4 zs.length c4] 37)) ⟨w4.heap.size, 0, none⟩ = some (.int .i64 (a : Int)) := (by simp); have t1 : World.cell? (w4.alloc (.cells #[.int .i64 (a : Int), .int .i64 (m : Int), .slice a4 zs.length c4] 37)) ⟨w4.heap.size, 1, none⟩ = some (.int .i64 (m : Int)) := (by simp); have t2 : World.cell? (w4.alloc (.cells #[.int .i64 (a : Int), .int .i64 (m : Int), .slice a4 zs.length c4] 37)) ⟨w4.heap.size, 2, none⟩ = some (.slice a4 zs.length c4) := (by simp); have ho5 := ho4.alloc (.cells #[.int .i64 (a : Int), .int .i64 (m : Int), .slice a4 zs.length c4] 37)) | (go_at_call 58; refine (l03Fits_any _ (a : Int) (m : Int) _ _ xs rs _ a0 a1 a2 hv1 hu1 HX.out HRR.out).mono ?_; rw [HA.out]; rintro e w1 ⟨rfl, hq1⟩; have hb1 := hq1.below (w.heap.size + 2); have hk1 := hq1.keep; obtain ⟨⟨a0, a1, a2⟩, ⟨d0, d1, d2⟩, z0, z1, z2⟩ := KEEP.out _ hb1; have hb1s := hb1.size; rw [hsz] at hb1s))
      refine bodyPost_ret (v := .tuple #[.agg #[.int .i64 (a : Int), .int .i64 (m : Int), .slice a4 zs.length c4], .bool true]) (by simp [results, Try.results24, go_sem, *]) rfl ?_
      rw [HR.out]
      dsimp only
      have hb5 := HBW.out.trans (hb16.mono (by omega))
      have hs1 := hb1.size
      have o1 := ownsRow_setCell_below (a := ⟨w.heap.size + 1, 0, none⟩) ho6 (show w.heap.size + 1 < w1.heap.size by omega) (.int .i64 (a : Int))
      have o2 := ownsRow_setCell_below (a := ⟨w.heap.size + 1, 1, none⟩) o1 (show w.heap.size + 1 < w1.heap.size by omega) (.int .i64 (m : Int))
      have o3 := ownsRow_setCell_below (a := ⟨w.heap.size + 1, 2, none⟩) o2 (show w.heap.size + 1 < w1.heap.size by omega) (.slice a4 zs.length c4)
      exact RetRd.mk (f := fun v => .tuple #[.agg #[.int .i64 (a : Int), .int .i64 (m : Int), v], .bool true]) (SlR.own o3) (((hb5.setCell (p := ⟨w.heap.size + 1, 0, none⟩) (show w.heap.size ≤ w.heap.size + 1 by omega) _).setCell (p := ⟨w.heap.size + 1, 1, none⟩) (show w.heap.size ≤ w.heap.size + 1 by omega) _).setCell (p := ⟨w.heap.size + 1, 2, none⟩) (show w.heap.size ≤ w.heap.size + 1 by omega) _)

end Go.Proofs.Ytlahmdnlamifnaa
