/- The law FnCircles: the whole walk. -/
import Derived.Test.YtimhljcebeiofaaCirW
import Derived.Test.YtimhljcebeiofaaCirC2
import Derived.Test.YtimhljcebeiofaaRdb
import Derived.Deep.RegionHeld3
import Derived.Deep.Cut
import Derived.Deep.CutBlock
namespace Go.Proofs.Ytimhljcebeiofaa
set_option linter.unusedSimpArgs false
set_option linter.unusedVariables false
open Go.RowKit
open Ieee
theorem ja_lt (a : Int) : ja a < 64 := by unfold ja; omega
theorem ja_add (a b : Int) : ja (a + b) = (ja a + ja b) % 64 := by unfold ja; omega
theorem leOk_gt {x y : Nat} (h : leOk x y = true) : (FloatKind.f64.format.order x y == some .gt) = false := by
  rcases leOk_some h with h | h <;> rw [h] <;> rfl
/-- Phasors at the angles that the law asks for. -/
theorem phasor_at (a : Int) (h1 : -256 ≤ a) (h2 : a < 256) (w : World) : (floatBits .quo .f64 (floatOfInt .f64 a) 4634204016564240384).isSome = true ∧ Calls Try.prog 6 #[.float .f64 (fx a)] w fun e w' => e = .returned (.complex .f32 (pcW (ja a)) (psW (ja a))) ∧ w = w' := by
  obtain ⟨p1, p2⟩ := fx_all (a + 256).toNat (by omega)
  rw [show (((a + 256).toNat : Nat) : Int) - 256 = a by omega] at p1 p2
  refine ⟨p1, ?_⟩
  have hj := ja_lt a
  have h := phasorOf_any (fx a) (a.tdiv 64) (ja a / 16) (ja a % 16) (by omega) (by omega) p2 w
  obtain ⟨e1, e2⟩ := pc_all (ja a / 16) (by omega) (ja a % 16) (by omega)
  rw [e1, e2, show 16 * (ja a / 16) + ja a % 16 = ja a by omega] at h
  exact h

set_option maxRecDepth 100000 in
set_option maxHeartbeats 8000000 in
theorem cir_walk (w : World) (a1 a2 : Option Addr) (c1 c2 : Nat) (code more : List UInt8) (nc nm : Nat) (hnc : code.length = nc) (hnm : more.length = nm) (hc : nc ≤ 1048576) (hm : nm ≤ 1048576) (s1 : SlR w (.slice a1 nc c1) (byv code)) (s2 : SlR w (.slice a2 nm c2) (byv more)) :
    Calls Try.prog 3 #[.slice a1 nc c1, .slice a2 nm c2] w fun e w' => e = .returned (.bool true) ∧ w = w' := by
  have HL := Lib.hid (b10Long_any _ _ code more w s1 s2)
  rw [hnc, hnm, show (decide (1048576 < nc) || decide (1048576 < nm)) = false by simp; omega] at HL
  have HA0 := Lib.hid (b10At_any _ code 0 256 w (by omega) (by omega) (by omega) s1)
  have HA1 := Lib.hid (b10At_any _ code 1 256 w (by omega) (by omega) (by omega) s1)
  have HB0 := Lib.hid (b10At_any _ more 0 200 w (by omega) (by omega) (by omega) s2)
  have HB1 := Lib.hid (b10At_any _ more 1 200 w (by omega) (by omega) (by omega) s2)
  have la := atB_lt code 0 256 (by omega)
  have lb := atB_lt code 1 256 (by omega)
  have lx := atB_lt more 0 200 (by omega)
  have ly := atB_lt more 1 200 (by omega)
  clear s1 s2 hnc hnm
  generalize atB code 0 256 = va at *
  generalize atB code 1 256 = vb at *
  generalize atB more 0 200 = vx at *
  generalize atB more 1 200 = vy at *
  have wa := IntWalk.i64_in ((va : Int) - 128) (by omega)
  have wb := IntWalk.i64_in ((vb : Int) - 128) (by omega)
  obtain ⟨a, ha⟩ : ∃ a : Int, a = (va : Int) - 128 := ⟨_, rfl⟩
  obtain ⟨b, hb⟩ : ∃ a : Int, a = (vb : Int) - 128 := ⟨_, rfl⟩
  rw [← ha] at wa
  rw [← hb] at wb
  have wab := IntWalk.i64_in (a + b) (by omega)
  have hja := ja_lt a
  have hjb := ja_lt b
  have hjab := ja_add a b
  have CA := chA_all va la
  rw [← ha] at CA
  have CM := chM_all hja hjb
  have CP := chP_all (ja a) hja
  obtain ⟨qa, PA⟩ := phasor_at a (by omega) (by omega) w
  obtain ⟨qb, PB⟩ := phasor_at b (by omega) (by omega) w
  obtain ⟨qc, PC⟩ := phasor_at (a + b) (by omega) (by omega) w
  obtain ⟨AO, AE⟩ := an_all (ja a) hja
  have HPA := Lib.hid PA
  have HPB := Lib.hid PB
  have HPC := Lib.hid PC
  have HAN := Lib.hid (angleOf_any _ _ AO w)
  rw [AE] at HAN
  clear PA PB PC AO AE
  rw [hjab] at HPC
  unfold chM at CM
  simp only [Bool.and_eq_true] at CM
  obtain ⟨M1, M2⟩ := CM
  have HML := Lib.hid (mulComplex_any _ _ _ _ M1 w)
  have HNR := Lib.hid (b10Near_any _ _ _ _ _ w M2)
  clear M1 M2
  unfold chP at CP
  simp only [Bool.and_eq_true] at CP
  obtain ⟨⟨⟨⟨⟨⟨⟨⟨P1, P2⟩, P3⟩, P4⟩, P5⟩, P6⟩, P7⟩, P8⟩, P9⟩ := CP
  have HPW := Lib.hid (powerOf_any _ _ P1 w)
  have HG1 := Lib.hid (b10Gap_any _ _ w P3)
  have HG3 := Lib.hid (b10Gap_any _ _ w P6)
  have R1 := leOk_gt P4
  unfold chA at CA
  simp only [Bool.and_eq_true, beq_iff_eq, decide_eq_true_eq] at CA
  obtain ⟨⟨⟨⟨⟨⟨⟨⟨⟨A1, A2⟩, A3⟩, A4⟩, A5⟩, A6⟩, A7⟩, A8⟩, A9⟩, A10⟩ := CA
  have HG2 := Lib.hid (b10Gap_any _ _ w A6)
  have R2 := leOk_gt A7
  have wwh := IntWalk.i64_in (whI a - 10000) (by omega)
  have cv : ∀ x : Nat, cvOk x = true → ∀ W : World, (convert 28 27 (.float .f32 x)).run Try.prog W = .ok (.float .f64 (up64 x)) W := fun x hx W => run_convert_float_float (P := Try.prog) W 28 27 .f32 .f64 _ _ (by rw [Try.underlying28]; rfl) Try.underlying27 (up_run _ hx)
  have V1 := cv _ P2
  have V2 := cv _ P5
  have V3 := cv _ A1
  have V4 := fun W : World => run_convert_float_int (P := Try.prog) (w := W) 27 2 .f64 .i64 _ _ (by rw [Try.underlying27]; rfl) Try.underlying2 A5
  have fxa : fA .quo .f64 (floatOfInt .f64 a) 4634204016564240384 = fx a := rfl
  have fxb : fA .quo .f64 (floatOfInt .f64 b) 4634204016564240384 = fx b := rfl
  have fxc : fA .quo .f64 (floatOfInt .f64 (a + b)) 4634204016564240384 = fx (a + b) := rfl
  have ea : fA .mul .f64 (up64 (anWd (ja a))) 4634204016564240384 = a64 a := rfl
  have et : fA .sub .f64 (a64 a) (floatOfInt .f64 a) = tnW a := rfl
  clear cv P1 P2 P3 P4 P5 P6 A1 A5 A6 A7
  -- the tenths
  obtain ⟨x1, x2, x3, _⟩ := xw_all vx lx
  obtain ⟨y1, y2, y3, _⟩ := xw_all vy ly
  obtain ⟨z1, z2, z3, _⟩ := xw_mul lx ly
  obtain ⟨m, _, _, _, bm, hm1, _, _⟩ := tth_int x2 x3
  obtain ⟨n, _, _, _, bn, hn1, _, _⟩ := tth_int y2 y3
  obtain ⟨o, _, _, _, bo, ho1, _, _⟩ := tth_int z2 z3
  obtain ⟨tl1, tl2⟩ := tth_law lx ly hm1 hn1 ho1
  have HTM := Lib.hid (tenthsOf_any _ m x2 x3 hm1 w)
  have HTN := Lib.hid (tenthsOf_any _ n y2 y3 hn1 w)
  have HTO := Lib.hid (tenthsOf_any _ o z2 z3 ho1 w)
  have HT1 := Lib.hid (tenthsOf_any 1065353216 0 (by omega) (by omega) tth_one w)
  have HTI := Lib.hid (angleOf_any 0 1065353216 an_i.1 w)
  rw [an_i.2] at HTI
  have HSN := Lib.hid (specSame_any 1048576000 0 w (by omega) (by omega))
  rw [show decide (cn 1048576000 = cn 0) = false by decide] at HSN
  have wx := IntWalk.i64_in (1 + (vx : Int)) (by omega)
  have wy := IntWalk.i64_in (1 + (vy : Int)) (by omega)
  unfold xw at *
  rw [show ((vx + 1 : Nat) : Int) = 1 + (vx : Int) by omega] at *
  rw [show ((vy + 1 : Nat) : Int) = 1 + (vy : Int) by omega] at *
  have wmn := IntWalk.i64_in (m + n) (by omega)
  have wmno := IntWalk.i64_in (m + n - o) (by omega)
  have wom := IntWalk.i64_in (o - m) (by omega)
  have womn := IntWalk.i64_in (o - m - n) (by omega)
  have d1 : decide (m + n - o ≤ 1) = true := decide_eq_true tl1
  have d2 : decide (o - m - n ≤ 1) = true := decide_eq_true tl2
  have cases16 : ((a.tmod 16 == 0) = false) ∨ ((a.tmod 16 == 0) = true ∧ FloatKind.f64.format.order (gpW (up64 (pcW (ja a))) 0) 0 = some .eq) ∨ ((a.tmod 16 == 0) = true ∧ (FloatKind.f64.format.order (gpW (up64 (pcW (ja a))) 0) 0 == some .eq) = false ∧ FloatKind.f64.format.order (gpW (up64 (pcW (ja a))) 0) 4607182418800017408 = some .eq) := by
    by_cases h : a.tmod 16 = 0
    · have hj : ja a % 16 = 0 := by
        have := Int.dvd_of_tmod_eq_zero h
        unfold ja; omega
      simp only [hj, bne_self_eq_false, Bool.false_or, Bool.or_eq_true, beq_iff_eq] at P9
      by_cases h2 : FloatKind.f64.format.order (gpW (up64 (pcW (ja a))) 0) 0 = some .eq
      · exact .inr (.inl ⟨by simp [h], h2⟩)
      · exact .inr (.inr ⟨by simp [h], by simpa using h2, P9.resolve_left h2⟩)
    · exact .inl (by simpa using h)
  have wa' : wrap64 ((va : Int) - 128) = a := (IntWalk.wrap64_in _ (by omega)).trans ha.symm
  have wb' : wrap64 ((vb : Int) - 128) = b := (IntWalk.wrap64_in _ (by omega)).trans hb.symm
  have wab' : wrap64 (a + b) = a + b := (IntWalk.wrap64_in _ (by omega)).trans rfl
  have wwh' : wrap64 (whI a - 10000) = whI a - 10000 := (IntWalk.wrap64_in _ (by omega)).trans rfl
  have wx' : wrap64 (1 + (vx : Int)) = 1 + (vx : Int) := (IntWalk.wrap64_in _ (by omega)).trans rfl
  have wy' : wrap64 (1 + (vy : Int)) = 1 + (vy : Int) := (IntWalk.wrap64_in _ (by omega)).trans rfl
  have wmn' : wrap64 (m + n) = m + n := (IntWalk.wrap64_in _ (by omega)).trans rfl
  have wmno' : wrap64 (m + n - o) = m + n - o := (IntWalk.wrap64_in _ (by omega)).trans rfl
  have wom' : wrap64 (o - m) = o - m := (IntWalk.wrap64_in _ (by omega)).trans rfl
  have womn' : wrap64 (o - m - n) = o - m - n := (IntWalk.wrap64_in _ (by omega)).trans rfl
  clear P9 P7 P8 tl1 tl2 bm bn bo hm1 hn1 ho1 ha hb hja hjb hjab x2 x3 y2 y3 z2 z3
  generalize whI a = wh at *
  generalize tnW a = tn at *
  generalize a64 a = a6 at *
  generalize gpW = gp at *
  generalize up64 = up at *
  generalize mlR (pcW (ja a)) (psW (ja a)) (pcW (ja b)) (psW (ja b)) = mr at *
  generalize mlI (pcW (ja a)) (psW (ja a)) (pcW (ja b)) (psW (ja b)) = mi at *
  generalize dn32 (pwW (pcW (ja a)) (psW (ja a))) = pw at *
  generalize pcW ((ja a + ja b) % 64) = pc at *
  generalize psW ((ja a + ja b) % 64) = sc at *
  generalize pcW (ja a) = pa at *
  generalize psW (ja a) = sa at *
  generalize pcW (ja b) = pb at *
  generalize psW (ja b) = sb at *
  generalize anWd (ja a) = an at *
  generalize fx (a + b) = xc at *
  generalize fx a = xa at *
  generalize fx b = xb at *
  clear lx ly la lb
  go_enter Try.func3, Try.ntmps3
  go_upto_region 3 with (go_at_call 4; refine HL.out.mono ?_; rintro e w' ⟨rfl, rfl⟩)
  go_upto_region 4 with (go_at_call 5; refine HA0.out.mono ?_; rintro e w' ⟨rfl, rfl⟩)
  go_upto_region 5 with (go_at_call 5; refine HA1.out.mono ?_; rintro e w' ⟨rfl, rfl⟩)
  go_upto_region 6 with (go_at_call 6; refine HPA.out.mono ?_; rintro e w' ⟨rfl, rfl⟩)
  go_upto_region 7 with (go_at_call 6; refine HPB.out.mono ?_; rintro e w' ⟨rfl, rfl⟩)
  go_upto_region 8 with (go_at_call 6; refine HPC.out.mono ?_; rintro e w' ⟨rfl, rfl⟩)
  go_upto_region 11 with (go_at_call 7; refine HAN.out.mono ?_; rintro e w' ⟨rfl, rfl⟩)
  go_upto_region 13 with (first
    | (go_at_call 9; refine HPW.out.mono ?_; rintro e w' ⟨rfl, rfl⟩)
    | (go_at_call 11; refine HML.out.mono ?_; rintro e w' ⟨rfl, rfl⟩)
    | (go_at_call 10; refine HNR.out.mono ?_; rintro e w' ⟨rfl, rfl⟩)
    | (go_at_call 8; with_reducible refine HG2.out.mono ?_; rintro e w' ⟨rfl, rfl⟩)
    | (go_at_call 8; with_reducible refine HG1.out.mono ?_; rintro e w' ⟨rfl, rfl⟩))
  rcases cases16 with c16 | ⟨c16, c0⟩ | ⟨c16, c0, ce1⟩
  all_goals
    go_upto_region 15 with (go_at_call 8; refine HG3.out.mono ?_; rintro e w' ⟨rfl, rfl⟩)
    go_upto_region 16 with (go_at_call 5; refine HB0.out.mono ?_; rintro e w' ⟨rfl, rfl⟩)
    go_upto_region 17 with (go_at_call 5; refine HB1.out.mono ?_; rintro e w' ⟨rfl, rfl⟩)
    go_upto_region 18 with (go_at_call 12; refine HTM.out.mono ?_; rintro e w' ⟨rfl, rfl⟩)
    go_upto_region 19 with (go_at_call 12; refine HTN.out.mono ?_; rintro e w' ⟨rfl, rfl⟩)
    go_upto_region 20 with (go_at_call 12; refine HTO.out.mono ?_; rintro e w' ⟨rfl, rfl⟩)
    go_upto_region 21 with (go_at_call 12; refine HT1.out.mono ?_; rintro e w' ⟨rfl, rfl⟩)
    go_wp2_with (first
      | (go_at_call 7; refine HTI.out.mono ?_; rintro e w' ⟨rfl, rfl⟩)
      | (go_at_call 13; refine HSN.out.mono ?_; rintro e w' ⟨rfl, rfl⟩))
    all_goals (go_ret; exact ⟨rfl, rfl⟩)

set_option maxRecDepth 100000 in
theorem law_FnCircles (w : World) (a1 : Option Addr) (c1 : Nat) (code : List UInt8) (_ : code.length ≤ c1 ∧ c1 ≤ 9223372036854775807) (s1 : SlR w (.slice a1 code.length c1) (byv code)) (_ : ∀ x ∈ code, True) (a2 : Option Addr) (c2 : Nat) (more : List UInt8) (_ : more.length ≤ c2 ∧ c2 ≤ 9223372036854775807) (s2 : SlR w (.slice a2 more.length c2) (byv more)) (_ : ∀ x ∈ more, True) :
    Calls Try.prog 3 #[.slice a1 code.length c1, .slice a2 more.length c2] w fun e w' => e = .returned (.bool true) ∧ Below w.heap.size w w' := by
  by_cases h : code.length ≤ 1048576 ∧ more.length ≤ 1048576
  · refine (cir_walk w a1 a2 c1 c2 code more _ _ rfl rfl h.1 h.2 s1 s2).mono ?_
    rintro e w' ⟨rfl, rfl⟩
    exact ⟨rfl, Below.refl _ _⟩
  · have HL := Lib.hid (b10Long_any _ _ code more w s1 s2)
    rw [show (decide (1048576 < code.length) || decide (1048576 < more.length)) = true by simp; omega] at HL
    clear s1 s2 h
    generalize code.length = n1 at *
    generalize more.length = n2 at *
    go_enter Try.func3, Try.ntmps3
    go_wp2_with (go_at_call 4; refine HL.out.mono ?_; rintro e w' ⟨rfl, rfl⟩)
    go_ret
    exact ⟨rfl, Below.refl _ _⟩

end Go.Proofs.Ytimhljcebeiofaa
