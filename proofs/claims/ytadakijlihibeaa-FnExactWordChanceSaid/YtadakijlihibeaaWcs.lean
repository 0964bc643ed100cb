/- The chance of a word: the reference. -/
import Derived.Test.YtadakijlihibeaaWch
namespace Go.Proofs.Ytadakijlihibeaa
set_option linter.unusedSimpArgs false
set_option linter.unusedVariables false
open Go.RowKit

set_option maxHeartbeats 4000000 in
theorem spec_WordChance (w : World) (i j : Int) (hi : I64 i) (hj : I64 j) (v : Value) (xs : List Nat) (hv : SlR w v (xs.map (Value.float .f32))) (hx : ∀ x ∈ xs, x < 4294967296) (_ : xs.length ≤ 1048576) (u : Value) (rs : List Nat) (hu : SlR w u (rs.map (Value.float .f32))) (hr : ∀ x ∈ rs, x < 4294967296) (_ : rs.length ≤ 1048576) (y : Value) (ws : List Int) (hy : SlR w y (ws.map (Value.int .i64))) (hws : ∀ x ∈ ws, I64 x) (_ : ws.length ≤ 1048576) :
    Calls Try.prog 51 #[.agg #[.int .i64 i, .int .i64 j, v], u, y] w fun e w' => e = .returned (.tuple #[.float .f32 (out_WordChance i j xs rs ws).1, .bool (out_WordChance i j xs rs ws).2]) ∧ Below w.heap.size w w' := by
  have HX := Lib.hid hx
  have HR := Lib.hid hr
  obtain ⟨ad, n, c, rfl, hnl, hnc, hcm, hcell⟩ := SlR.opened 0 hy
  have hcm' : n ≤ 9223372036854775807 := by unfold maxLen at hcm; omega
  have hb0 : Below w.heap.size w (w.alloc (.cells #[.int .i64 i, .int .i64 j, v] 27)) := by go_grown
  have hv1 := hv.below hb0
  have hu1 := hu.below hb0
  have HVB := Lib.hid (fun (W : World) (hq : Below w.heap.size w W) => hv.below hq)
  have HUB := Lib.hid (fun (W : World) (hq : Below w.heap.size w W) => hu.below hq)
  have HYB := Lib.hid (fun (W : World) (hq : Below w.heap.size w W) => hy.below hq)
  have c0 : World.cell? (w.alloc (.cells #[.int .i64 i, .int .i64 j, v] 27)) ⟨w.heap.size, 0, none⟩ = some (.int .i64 i) := by simp
  have c1 : World.cell? (w.alloc (.cells #[.int .i64 i, .int .i64 j, v] 27)) ⟨w.heap.size, 1, none⟩ = some (.int .i64 j) := by simp
  have c2 : World.cell? (w.alloc (.cells #[.int .i64 i, .int .i64 j, v] 27)) ⟨w.heap.size, 2, none⟩ = some v := by simp
  have HCL := Lib.hid hcell
  have HNL := Lib.hid hnl
  have HCM := Lib.hid hcm
  have HNC := Lib.hid hnc
  clear hx hr hv hu hy hcell hcm hnc
  generalize hf : fitB i j xs rs = f
  have HF := Lib.hid hf
  cases f
  · rw [wd_no (by unfold wdOk; rw [hf]; rfl)]
    clear hf hnl
    go_enter Try.func51, Try.ntmps51
    go_wp2_with (first | (go_at_call 98; refine (l03Fits_any _ _ _ _ _ xs rs _ c0 c1 c2 hv1 hu1 HX.out HR.out).mono ?_; rw [HF.out]; rintro e w1 ⟨rfl, hq⟩; have e0 := cell_step c0 hq.keep; have e1 := cell_step c1 hq.keep; have e2 := cell_step c2 hq.keep; have hb1 := hb0.trans (hq.below w.heap.size); have hw1 : w.heap.size + 1 ≤ w1.heap.size := (by have h := hq.keep.size; rwa [World.size_alloc] at h); clear hq))
    go_ret2
    exact ⟨rfl, hb1⟩
  · by_cases hij : i = j
    case neg =>
      rw [wd_no (by unfold wdOk; rw [ieq_false hij]; simp)]
      have ht := ieq_false hij
      clear hf hnl
      go_enter Try.func51, Try.ntmps51
      go_wp2_with (first | (go_at_call 98; refine (l03Fits_any _ _ _ _ _ xs rs _ c0 c1 c2 hv1 hu1 HX.out HR.out).mono ?_; rw [HF.out]; rintro e w1 ⟨rfl, hq⟩; have e0 := cell_step c0 hq.keep; have e1 := cell_step c1 hq.keep; have e2 := cell_step c2 hq.keep; have hb1 := hb0.trans (hq.below w.heap.size); have hw1 : w.heap.size + 1 ≤ w1.heap.size := (by have h := hq.keep.size; rwa [World.size_alloc] at h); clear hq))
      go_ret2
      exact ⟨rfl, hb1⟩
    case pos =>
      subst hij
      have ht := ieq_true (rfl : i = i)
      by_cases h1 : 1 ≤ n
      case neg =>
        rw [wd_no (by unfold wdOk; rw [hnl, decide_eq_false h1]; simp)]
        clear hf hnl
        go_enter Try.func51, Try.ntmps51
        go_wp2_with (first | (go_at_call 98; refine (l03Fits_any _ _ _ _ _ xs rs _ c0 c1 c2 hv1 hu1 HX.out HR.out).mono ?_; rw [HF.out]; rintro e w1 ⟨rfl, hq⟩; have e0 := cell_step c0 hq.keep; have e1 := cell_step c1 hq.keep; have e2 := cell_step c2 hq.keep; have hb1 := hb0.trans (hq.below w.heap.size); have hw1 : w.heap.size + 1 ≤ w1.heap.size := (by have h := hq.keep.size; rwa [World.size_alloc] at h); clear hq))
        go_ret2
        exact ⟨rfl, hb1⟩
      case pos =>
        by_cases h2 : n ≤ 64
        case neg =>
          rw [wd_no (by unfold wdOk; rw [hnl, decide_eq_false h2]; simp)]
          clear hf hnl
          go_enter Try.func51, Try.ntmps51
          go_wp2_with (first | (go_at_call 98; refine (l03Fits_any _ _ _ _ _ xs rs _ c0 c1 c2 hv1 hu1 HX.out HR.out).mono ?_; rw [HF.out]; rintro e w1 ⟨rfl, hq⟩; have e0 := cell_step c0 hq.keep; have e1 := cell_step c1 hq.keep; have e2 := cell_step c2 hq.keep; have hb1 := hb0.trans (hq.below w.heap.size); have hw1 : w.heap.size + 1 ≤ w1.heap.size := (by have h := hq.keep.size; rwa [World.size_alloc] at h); clear hq))
          go_ret2
          exact ⟨rfl, hb1⟩
        case pos =>
          have iw : IntKind.i64.wrap (i - 1) = i - 1 := by
            obtain ⟨g1, _, g3⟩ := fitB_all hf
            obtain ⟨a, m, rfl, _, _, _, _⟩ := validCh_nat g1
            exact IntWalk.i64_in _ (by omega)
          generalize ha : ws.all (fun n => inB n 0 (i - 1)) = al
          have HA := Lib.hid ha
          cases al
          case false =>
            rw [wd_no (by unfold wdOk; rw [ha]; simp)]
            clear hf hnl ha
            have hnw : 1 ≤ n := h1
            obtain ⟨wb, woff, wc, he, hwnc, hwcm, hwb, hwk⟩ := in_cells (HYB.out w (Below.refl _ _)) HNL.out h1
            simp only [Value.slice.injEq] at he
            obtain ⟨rfl, -, rfl⟩ := he
            have HWK := Lib.hid hwk
            clear hwk
            go_enter Try.func51, Try.ntmps51
            go_wp2_with (first | (go_at_call 98; refine (l03Fits_any _ _ _ _ _ xs rs _ c0 c1 c2 hv1 hu1 HX.out HR.out).mono ?_; rw [HF.out]; rintro e w1 ⟨rfl, hq⟩; have e0 := cell_step c0 hq.keep; have e1 := cell_step c1 hq.keep; have e2 := cell_step c2 hq.keep; have hb1 := hb0.trans (hq.below w.heap.size); have hw1 : w.heap.size + 1 ≤ w1.heap.size := (by have h := hq.keep.size; rwa [World.size_alloc] at h); clear hq))
            go_loopw [33] (fun ix wr => ∃ k : Nat, k ≤ n ∧ ix = .int .i64 k ∧ (ws.take k).all (fun n => inB n 0 (i - 1)) = true ∧ Below (w.heap.size + 1) w1 wr) (fun ix _ => n - (intOf ix).toNat)
            case atStart => exact ⟨0, Nat.zero_le _, rfl, rfl, Below.refl _ _⟩
            case round =>
              obtain ⟨k, hk, rfl, hpre, hb⟩ := hrel
              have HP := Lib.hid hpre
              clear hpre
              have g0 := (hb.cell (p := ⟨w.heap.size, 0, none⟩) (show w.heap.size < w.heap.size + 1 by omega)).trans e0
              have hbw : Below w.heap.size w wr := hb1.trans (hb.mono (by omega))
              by_cases hlt : k < n
              · have m1 := (hbw.cell (p := ⟨wb, woff + k, none⟩) hwb).trans (HWK.out k hlt)
                have HA2 := Lib.hid (all_take_succ ws (fun n => inB n 0 (i - 1)) k 0 (by rw [HNL.out]; exact hlt))
                have hz : ws[k]?.getD 0 = ws[k]?.getD 0 := rfl
                have HMEM : Hid (ws.all (fun n => inB n 0 (i - 1)) = true → inB (ws[k]?.getD 0) 0 (i - 1) = true) := by
                  show _ → _
                  intro h
                  rw [List.getElem?_eq_getElem (by rw [HNL.out]; exact hlt)]
                  exact List.all_eq_true.1 h _ (List.getElem_mem _)
                clear hz
                generalize ws[k]?.getD 0 = z at *
                have hin : ∀ W : World, Calls Try.prog 73 #[.int .i64 z, .int .i64 0, .int .i64 (i - 1)] W fun e w' => e = .returned (.bool (inB z 0 (i - 1))) ∧ w' = W := fun W => (l00In_any z 0 (i - 1) W).mono fun e w' ⟨q1, q2⟩ => ⟨q1, q2.symm⟩
                have z7 : (0 : Int) ≤ (k : Int) := by omega
                have z8 : (k : Int) < (n : Int) := by omega
                generalize hzb : inB z 0 (i - 1) = zb at *
                have HZB := Lib.hid hzb
                clear hzb
                cases zb
                · go_wp2
                  go_quiet ((go_at_call 73; exact Calls.quiet_of_same (hin _)))
                  go_wp2
                  go_ret2
                  exact ⟨rfl, hbw.trans (Qu.below ⟨_, rfl⟩ _)⟩
                · go_wp2
                  go_quiet ((go_at_call 73; exact Calls.quiet_of_same (hin _)))
                  go_wp2
                  go_roundw
                  case rel => exact ⟨k + 1, by omega, by go_num, by rw [HA2.out, HP.out]; rfl, hb.trans ((Qu.keep ⟨_, rfl⟩).mono (Nat.le_trans hw1 hb.size))⟩
                  case measure => simp [intOf]; omega
              · obtain rfl : n = k := by omega
                exfalso
                have := HP.out
                rw [List.take_of_length_le (by rw [HNL.out]; exact Nat.le_refl _), HA.out] at this
                exact absurd this (by decide)
          case true =>
            obtain ⟨g1, g2, g3⟩ := fitB_all hf
            obtain ⟨a, m, rfl, hm, a1, a2, _, _, hl, hrows⟩ := validCh_nat g1
            obtain rfl : a = m := by omega
            have hok : wdOk a a xs rs ws = true := by unfold wdOk; rw [hf, ha, hnl, decide_eq_true h1, decide_eq_true h2, ieq_true rfl]; rfl
            rw [wd_yes hok]
            have hfin := wdS_fin hl hrows g2 (by omega) (by omega) (by omega) ha
            have hrl : rs.length = a := by omega
            have hen := wdS_en hl hrows g2 hrl (by omega) (by omega) ha
            have hee := fun (k : Nat) (hk : k + 1 < ws.length) => wdE_en hl hrows ha hk
            have hlt := fun (k : Nat) (hk : k < ws.length) => wdL_lt ha hk
            rw [hnl] at hen hee hlt hfin
            rw [hnl]
            have HEN := Lib.hid hen
            have HEE := Lib.hid hee
            have HLT := Lib.hid hlt
            have HFI := Lib.hid hfin
            have HL := Lib.hid hl
            have HRL := Lib.hid hrl
            clear hm hf hnl ha hen hee hlt hfin hl hrl hrows g1 g2 g3 hok
            have hpos : 0 < a * a := Nat.mul_pos a1 a1
            obtain ⟨nx, hnx⟩ : ∃ nx, xs.length = nx := ⟨_, rfl⟩
            have hnx2 : nx = a * a := by rw [← hnx]; exact HL.out
            obtain ⟨xb, xoff, xc, rfl, hxnc, hxcm, hxb, hxk⟩ := fl_cells (HVB.out w (Below.refl _ _)) hnx (by omega)
            obtain ⟨rb, roff, rc, rfl, hrnc, hrcm, hrb, hrk⟩ := fl_cells (HUB.out w (Below.refl _ _)) HRL.out a1
            obtain ⟨wb, woff, wc, he, hwnc, hwcm, hwb, hwk⟩ := in_cells (HYB.out w (Below.refl _ _)) HNL.out h1
            simp only [Value.slice.injEq] at he
            obtain ⟨rfl, -, rfl⟩ := he
            have hx64 : nx ≤ 64 := by rw [hnx2]; exact prod_le a2 a2
            obtain ⟨p0, hp0⟩ : ∃ p, p = wdL ws 0 := ⟨_, rfl⟩
            have LT0 := HLT.out 0 (by omega)
            rw [← hp0] at LT0
            have l0 := LT0.1
            have q0 : w.cell? ⟨wb, woff, none⟩ = some (.int .i64 (p0 : Int)) := by have h := hwk 0 (by omega); rw [LT0.2, Nat.add_zero] at h; exact h
            have q1 : w.cell? ⟨rb, roff + p0, none⟩ = some (.float .f32 (wdS xs rs ws a 0)) := by have h := hrk p0 l0; rw [hp0] at h ⊢; exact h
            have HXK := Lib.hid hxk
            have HWK := Lib.hid hwk
            have HXN := Lib.hid hnx2
            obtain ⟨s0, hs0⟩ : ∃ s, s = wdS xs rs ws a 0 := ⟨_, rfl⟩
            rw [← hs0] at q1
            have HS0 := Lib.hid hs0
            have z1 : (0 : Int) ≤ (p0 : Int) := by omega
            have z2 : (p0 : Int) < (a : Int) := by omega
            have z3 : (1 : Int) ≤ (n : Int) := by omega
            clear hxk hwk hrk hnx hnx2 hs0 hp0 LT0 hpos
            dsimp only
            obtain ⟨r, hr⟩ : ∃ r, r = wdS xs rs ws a (n - 1) := ⟨_, rfl⟩
            rw [← hr]
            have HRR := Lib.hid hr
            clear hr
            go_enter Try.func51, Try.ntmps51
            go_wp2_with (first | (go_at_call 98; refine (l03Fits_any _ _ _ _ _ xs rs _ c0 c1 c2 hv1 hu1 HX.out HR.out).mono ?_; rw [HF.out]; rintro e w1 ⟨rfl, hq⟩; have e0 := cell_step c0 hq.keep; have e1 := cell_step c1 hq.keep; have e2 := cell_step c2 hq.keep; have hb1 := hb0.trans (hq.below w.heap.size); have hw1 : w.heap.size + 1 ≤ w1.heap.size := (by have h := hq.keep.size; rwa [World.size_alloc] at h); clear hq))
            go_loopw [33] (fun ix wr => ∃ k : Nat, k ≤ n ∧ ix = .int .i64 k ∧ (ws.take k).all (fun n => inB n 0 ((a : Int) - 1)) = true ∧ Below (w.heap.size + 1) w1 wr) (fun ix _ => n - (intOf ix).toNat)
            case atStart => exact ⟨0, Nat.zero_le _, rfl, rfl, Below.refl _ _⟩
            case round =>
              obtain ⟨k, hk, rfl, hpre, hb⟩ := hrel
              have HP := Lib.hid hpre
              clear hpre
              have g0 := (hb.cell (p := ⟨w.heap.size, 0, none⟩) (show w.heap.size < w.heap.size + 1 by omega)).trans e0
              have hbw : Below w.heap.size w wr := hb1.trans (hb.mono (by omega))
              by_cases hlt : k < n
              · have m1 := (hbw.cell (p := ⟨wb, woff + k, none⟩) hwb).trans (HWK.out k hlt)
                have HA2 := Lib.hid (all_take_succ ws (fun n => inB n 0 ((a : Int) - 1)) k 0 (by rw [HNL.out]; exact hlt))
                have hz : ws[k]?.getD 0 = ws[k]?.getD 0 := rfl
                have HMEM : Hid (ws.all (fun n => inB n 0 ((a : Int) - 1)) = true → inB (ws[k]?.getD 0) 0 ((a : Int) - 1) = true) := by
                  show _ → _
                  intro h
                  rw [List.getElem?_eq_getElem (by rw [HNL.out]; exact hlt)]
                  exact List.all_eq_true.1 h _ (List.getElem_mem _)
                clear hz
                generalize ws[k]?.getD 0 = z at *
                have hin : ∀ W : World, Calls Try.prog 73 #[.int .i64 z, .int .i64 0, .int .i64 ((a : Int) - 1)] W fun e w' => e = .returned (.bool (inB z 0 ((a : Int) - 1))) ∧ w' = W := fun W => (l00In_any z 0 ((a : Int) - 1) W).mono fun e w' ⟨q1, q2⟩ => ⟨q1, q2.symm⟩
                have z7 : (0 : Int) ≤ (k : Int) := by omega
                have z8 : (k : Int) < (n : Int) := by omega
                generalize hzb : inB z 0 ((a : Int) - 1) = zb at *
                have HZB := Lib.hid hzb
                clear hzb
                cases zb
                · exact absurd (HMEM.out HA.out) (by decide)
                · go_wp2
                  go_quiet ((go_at_call 73; exact Calls.quiet_of_same (hin _)))
                  go_wp2
                  go_roundw
                  case rel => exact ⟨k + 1, by omega, by go_num, by rw [HA2.out, HP.out]; rfl, hb.trans ((Qu.keep ⟨_, rfl⟩).mono (Nat.le_trans hw1 hb.size))⟩
                  case measure => simp [intOf]; omega
              · obtain rfl : n = k := by omega
                clear hlt HP
                have k0 := (hbw.cell (p := ⟨wb, woff, none⟩) hwb).trans q0
                have k1 := (hbw.cell (p := ⟨rb, roff + p0, none⟩) hrb).trans q1
                obtain ⟨wo, hwo⟩ : ∃ wo : World, wo = wr := ⟨_, rfl⟩
                rw [← hwo] at hb hbw g0 k0 k1 ⊢
                clear hwo wr
                go_wp2
                go_loopw [9, 10] (fun s i wr => ∃ k : Nat, k ≤ n - 1 ∧ i = .int .i64 ((k : Int) + 1) ∧ s = .float .f32 (wdS xs rs ws a k) ∧ Below (w.heap.size + 1) w1 wr) (fun _ i _ => n + 1 - (intOf i).toNat)
                case atStart => exact ⟨0, Nat.zero_le _, rfl, by rw [HS0.out], hb⟩
                case round =>
                  clear hb hbw g0 k0 k1
                  obtain ⟨k, hk, rfl, rfl, hb⟩ := hrel
                  have g0 := (hb.cell (p := ⟨w.heap.size, 0, none⟩) (show w.heap.size < w.heap.size + 1 by omega)).trans e0
                  have g1 := (hb.cell (p := ⟨w.heap.size, 1, none⟩) (show w.heap.size < w.heap.size + 1 by omega)).trans e1
                  have g2 := (hb.cell (p := ⟨w.heap.size, 2, none⟩) (show w.heap.size < w.heap.size + 1 by omega)).trans e2
                  have hbw : Below w.heap.size w wr := hb1.trans (hb.mono (by omega))
                  by_cases hlt : k < n - 1
                  · have L1 := HLT.out k (by omega)
                    have L2 := HLT.out (k + 1) (by omega)
                    have m1 := (HWK.out k (by omega))
                    have m2 := (HWK.out (k + 1) (by omega))
                    rw [L1.2] at m1
                    rw [L2.2] at m2
                    have EN := HEN.out k (by omega)
                    have EE := HEE.out k (by omega)
                    have hmul := (mul_ch EN.1 EE.1).1
                    have hse : wdS xs rs ws a (k + 1) = fA .mul .f32 (wdS xs rs ws a k) (wdE xs ws a k) := rfl
                    have hze : wdE xs ws a k = xs[wdL ws k * a + wdL ws (k + 1)]?.getD 0 := rfl
                    have lp := L1.1
                    have lq := L2.1
                    clear EN EE L1 L2
                    generalize wdL ws k = p at *
                    generalize wdL ws (k + 1) = q at *
                    obtain ⟨P, hP⟩ : ∃ P, P = p * a := ⟨_, rfl⟩
                    have hPa : P + a ≤ nx := by rw [hP, HXN.out]; have := row_le (m := a) lp; rw [Nat.add_mul, Nat.one_mul] at this; exact this
                    have hxq := HXK.out (P + q) (by omega)
                    rw [hP] at hxq
                    rw [← hze, ← hP] at hxq
                    obtain ⟨R, hR⟩ : ∃ R, R = P + q := ⟨_, rfl⟩
                    rw [← hR] at hxq
                    have i1 : (p : Int) * (a : Int) = (P : Int) := by rw [hP]; simp
                    have i2 : IntKind.i64.wrap ((p : Int) * (a : Int)) = (P : Int) := by rw [i1]; exact IntWalk.i64_in _ (by omega)
                    have i3 : (P : Int) + (q : Int) = (R : Int) := by rw [hR]; simp
                    have i4 : IntKind.i64.wrap ((P : Int) + (q : Int)) = (R : Int) := by rw [i3]; exact IntWalk.i64_in _ (by omega)
                    have j1 : IntKind.i64.wrap (P : Int) = (P : Int) := IntWalk.i64_in _ (by omega)
                    have j2 : IntKind.i64.wrap (R : Int) = (R : Int) := IntWalk.i64_in _ (by omega)
                    have j3 : IntKind.i64.wrap ((k : Int) + 1 - 1) = (k : Int) := (IntWalk.i64_in _ (by omega)).trans (by omega)
                    have j4 : IntKind.i64.wrap (k : Int) = (k : Int) := IntWalk.i64_in _ (by omega)
                    have j5 : IntKind.i64.wrap ((k : Int) + 1 + 1) = (k : Int) + 1 + 1 := IntWalk.i64_in _ (by omega)
                    have i5 : (0 : Int) ≤ (R : Int) := by omega
                    have i6 : (R : Int) < (nx : Int) := by omega
                    have i7 : R < nx := by omega
                    have HSE := Lib.hid hse
                    generalize wdS xs rs ws a k = s at *
                    generalize wdE xs ws a k = z at *
                    have n1 := (hbw.cell (p := ⟨wb, woff + k, none⟩) hwb).trans m1
                    have n2 := (hbw.cell (p := ⟨wb, woff + (k + 1), none⟩) hwb).trans m2
                    have n3 := (hbw.cell (p := ⟨xb, xoff + R, none⟩) hxb).trans hxq
                    have z4 : (0 : Int) ≤ (k : Int) := by omega
                    have z5 : (k : Int) < (n : Int) := by omega
                    have z6 : (0 : Int) ≤ (k : Int) + 1 := by omega
                    have z7 : (k : Int) + 1 < (n : Int) := by omega
                    have z8 : ((k : Int) + 1).toNat = k + 1 := by omega
                    clear hse hze hP hxq m1 m2 hR
                    go_wp2
                    go_quiet (fail)
                    go_wp2
                    go_roundw
                    case rel => exact ⟨k + 1, by omega, by first | rfl | go_num, by rw [HSE.out], hb.trans ((Qu.keep ⟨_, rfl⟩).mono (Nat.le_trans hw1 hb.size))⟩
                    case measure => simp only [intOf]; omega
                  · obtain rfl : k = n - 1 := by omega
                    rw [← HRR.out]
                    have z9 : ¬ (((n - 1 : Nat) : Int) + 1 < (n : Int)) := by omega
                    go_wp2
                    go_ret2
                    exact ⟨rfl, hbw⟩

end Go.Proofs.Ytadakijlihibeaa
